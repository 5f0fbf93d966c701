/- The conditions of functions, as print.. of the engine told them. -/
import Derived.Test.YtennnnifppichaaZ1LawInsertCheapest
import Derived.KernelRfl
set_option linter.unusedVariables false
namespace Go.Eng
open Go Go.Proofs
def sidx_vc : Prop :=
  ∀ (x : List Stop), LenOk x.length → ∀ (x_2 : Stop), ∃ (inv : Int → Prop), ∃ (μ : Int → Nat), ((((↑x.length : Int) = (↑x.length : Int) ∧ (0 : Int) = (0 : Int)) ∧ (x_2.order = x_2.order ∧ x_2.drop = x_2.drop) ∧ x = x) ∧ inv (0 : Int)) ∧ ∀
  (x_3 : Int), inv x_3 → (decide (x_3 < (↑x.length : Int)) = true → ((0 : Int) ≤ x_3 ∧ x_3 < (↑x.length : Int)) ∧ x_3.toNat < x.length ∧ ((decide (x_2.order = (x.getD x_3.toNat FK.stop.zero).order) && (x_2.drop == (x.getD x_3.toNat
  FK.stop.zero).drop && true)) = true → x_3 = whereS x_2 x) ∧ ((decide (x_2.order = (x.getD x_3.toNat FK.stop.zero).order) && (x_2.drop == (x.getD x_3.toNat FK.stop.zero).drop && true)) = false → (((↑x.length : Int) = (↑x.length : Int) ∧ wrap
  (x_3 + (1 : Int)) = wrap (x_3 + (1 : Int))) ∧ (x_2.order = x_2.order ∧ x_2.drop = x_2.drop) ∧ x = x) ∧ inv (wrap (x_3 + (1 : Int))) ∧ μ (wrap (x_3 + (1 : Int))) < μ x_3)) ∧ (decide (x_3 < (↑x.length : Int)) = false → (-1 : Int) = whereS x_2
  x)
theorem sidx_told (hc : CsOk Try.prog sidx_cs) (h : sidx_vc) : Told Try.prog 59 sidx_con := told (A := sidx_la) tabOk mixed hc Try.func59 (by kernel_rfl) (by kernel_rfl) h
def pright_vc : Prop :=
  ∀ (x : List Route), (LenOk x.length ∧ ∀ (r : Route), List.Mem r x → LenOk r.stops.length) → (decide ((↑x.length : Int) > (8 : Int)) = true → false = rightP x) ∧ (decide ((↑x.length : Int) > (8 : Int)) = false → ∃ (inv : Int → Int →
  (MK.stop.T → Int) → Prop), ∃ (μ : Int → Int → (MK.stop.T → Int) → Nat), ((((0 : Int) = (0 : Int) ∧ (↑x.length : Int) = (↑x.length : Int) ∧ (0 : Int) = (0 : Int)) ∧ x = x ∧ noF MK.stop.T = noF MK.stop.T) ∧ inv (0 : Int) (0 : Int) (noF
  MK.stop.T)) ∧ ∀ (x_3 x_4 : Int) (x_5 : MK.stop.T → Int), inv x_3 x_4 x_5 → (decide (x_4 < (↑x.length : Int)) = true → ((0 : Int) ≤ x_4 ∧ x_4 < (↑x.length : Int)) ∧ x_4.toNat < x.length ∧ (decide ((x.getD x_4.toNat (Route.mk (0 : Int) (0 :
  Int) [])).driver ≤ x_3) = false → (decide ((x.getD x_4.toNat (Route.mk (0 : Int) (0 : Int) [])).driver > (1000000 : Int)) = false → (decide ((↑(x.getD x_4.toNat (Route.mk (0 : Int) (0 : Int) [])).stops.length : Int) > (80 : Int)) = false →
  (decide ((x.getD x_4.toNat (Route.mk (0 : Int) (0 : Int) [])).served < (0 : Int)) = false → (decide ((x.getD x_4.toNat (Route.mk (0 : Int) (0 : Int) [])).served > (↑(x.getD x_4.toNat (Route.mk (0 : Int) (0 : Int) [])).stops.length : Int)) =
  true → false = rightP x) ∧ (decide ((x.getD x_4.toNat (Route.mk (0 : Int) (0 : Int) [])).served > (↑(x.getD x_4.toNat (Route.mk (0 : Int) (0 : Int) [])).stops.length : Int)) = false → ∃ (inv_1 : Int → (MK.stop.T → Int) → Prop), ∃ (μ_1 : Int
  → (MK.stop.T → Int) → Nat), ((((x.getD x_4.toNat (Route.mk (0 : Int) (0 : Int) [])).driver = (x.getD x_4.toNat (Route.mk (0 : Int) (0 : Int) [])).driver ∧ (↑x.length : Int) = (↑x.length : Int) ∧ x_4 = x_4 ∧ (↑(x.getD x_4.toNat (Route.mk (0
  : Int) (0 : Int) [])).stops.length : Int) = (↑(x.getD x_4.toNat (Route.mk (0 : Int) (0 : Int) [])).stops.length : Int) ∧ (0 : Int) = (0 : Int)) ∧ (x.getD x_4.toNat (Route.mk (0 : Int) (0 : Int) [])).stops = (x.getD x_4.toNat (Route.mk (0 :
  Int) (0 : Int) [])).stops ∧ x = x ∧ x_5 = x_5) ∧ inv_1 (0 : Int) x_5) ∧ ∀ (x_13 : Int) (x_14 : MK.stop.T → Int), inv_1 x_13 x_14 → (decide (x_13 < (↑(x.getD x_4.toNat (Route.mk (0 : Int) (0 : Int) [])).stops.length : Int)) = true → ((0 :
  Int) ≤ x_13 ∧ x_13 < (↑(x.getD x_4.toNat (Route.mk (0 : Int) (0 : Int) [])).stops.length : Int)) ∧ x_13.toNat < (x.getD x_4.toNat (Route.mk (0 : Int) (0 : Int) [])).stops.length ∧ (decide (((x.getD x_4.toNat (Route.mk (0 : Int) (0 : Int)
  [])).stops.getD x_13.toNat FK.stop.zero).order < (1 : Int)) = false → (decide (((x.getD x_4.toNat (Route.mk (0 : Int) (0 : Int) [])).stops.getD x_13.toNat FK.stop.zero).order > (1000000 : Int)) = false → (decide (x_14 ((x.getD x_4.toNat
  (Route.mk (0 : Int) (0 : Int) [])).stops.getD x_13.toNat FK.stop.zero) > (0 : Int)) = true → false = rightP x) ∧ (decide (x_14 ((x.getD x_4.toNat (Route.mk (0 : Int) (0 : Int) [])).stops.getD x_13.toNat FK.stop.zero) > (0 : Int)) = false →
  (((x.getD x_4.toNat (Route.mk (0 : Int) (0 : Int) [])).driver = (x.getD x_4.toNat (Route.mk (0 : Int) (0 : Int) [])).driver ∧ (↑x.length : Int) = (↑x.length : Int) ∧ x_4 = x_4 ∧ (↑(x.getD x_4.toNat (Route.mk (0 : Int) (0 : Int)
  [])).stops.length : Int) = (↑(x.getD x_4.toNat (Route.mk (0 : Int) (0 : Int) [])).stops.length : Int) ∧ wrap (x_13 + (1 : Int)) = wrap (x_13 + (1 : Int))) ∧ (x.getD x_4.toNat (Route.mk (0 : Int) (0 : Int) [])).stops = (x.getD x_4.toNat
  (Route.mk (0 : Int) (0 : Int) [])).stops ∧ x = x ∧ upF x_14 ((x.getD x_4.toNat (Route.mk (0 : Int) (0 : Int) [])).stops.getD x_13.toNat FK.stop.zero) (wrap (x_14 ((x.getD x_4.toNat (Route.mk (0 : Int) (0 : Int) [])).stops.getD x_13.toNat
  FK.stop.zero) + (1 : Int))) = upF x_14 ((x.getD x_4.toNat (Route.mk (0 : Int) (0 : Int) [])).stops.getD x_13.toNat FK.stop.zero) (wrap (x_14 ((x.getD x_4.toNat (Route.mk (0 : Int) (0 : Int) [])).stops.getD x_13.toNat FK.stop.zero) + (1 :
  Int)))) ∧ inv_1 (wrap (x_13 + (1 : Int))) (upF x_14 ((x.getD x_4.toNat (Route.mk (0 : Int) (0 : Int) [])).stops.getD x_13.toNat FK.stop.zero) (wrap (x_14 ((x.getD x_4.toNat (Route.mk (0 : Int) (0 : Int) [])).stops.getD x_13.toNat
  FK.stop.zero) + (1 : Int)))) ∧ μ_1 (wrap (x_13 + (1 : Int))) (upF x_14 ((x.getD x_4.toNat (Route.mk (0 : Int) (0 : Int) [])).stops.getD x_13.toNat FK.stop.zero) (wrap (x_14 ((x.getD x_4.toNat (Route.mk (0 : Int) (0 : Int) [])).stops.getD
  x_13.toNat FK.stop.zero) + (1 : Int)))) < μ_1 x_13 x_14)) ∧ (decide (((x.getD x_4.toNat (Route.mk (0 : Int) (0 : Int) [])).stops.getD x_13.toNat FK.stop.zero).order > (1000000 : Int)) = !false → false = rightP x)) ∧ (decide (((x.getD
  x_4.toNat (Route.mk (0 : Int) (0 : Int) [])).stops.getD x_13.toNat FK.stop.zero).order < (1 : Int)) = !false → false = rightP x)) ∧ (decide (x_13 < (↑(x.getD x_4.toNat (Route.mk (0 : Int) (0 : Int) [])).stops.length : Int)) = false →
  (((x.getD x_4.toNat (Route.mk (0 : Int) (0 : Int) [])).driver = (x.getD x_4.toNat (Route.mk (0 : Int) (0 : Int) [])).driver ∧ (↑x.length : Int) = (↑x.length : Int) ∧ wrap (x_4 + (1 : Int)) = wrap (x_4 + (1 : Int))) ∧ x = x ∧ x_14 = x_14) ∧
  inv (x.getD x_4.toNat (Route.mk (0 : Int) (0 : Int) [])).driver (wrap (x_4 + (1 : Int))) x_14 ∧ μ (x.getD x_4.toNat (Route.mk (0 : Int) (0 : Int) [])).driver (wrap (x_4 + (1 : Int))) x_14 < μ x_3 x_4 x_5))) ∧ (decide ((x.getD x_4.toNat
  (Route.mk (0 : Int) (0 : Int) [])).served < (0 : Int)) = !false → false = rightP x)) ∧ (decide ((↑(x.getD x_4.toNat (Route.mk (0 : Int) (0 : Int) [])).stops.length : Int) > (80 : Int)) = !false → false = rightP x)) ∧ (decide ((x.getD
  x_4.toNat (Route.mk (0 : Int) (0 : Int) [])).driver > (1000000 : Int)) = !false → false = rightP x)) ∧ (decide ((x.getD x_4.toNat (Route.mk (0 : Int) (0 : Int) [])).driver ≤ x_3) = !false → false = rightP x)) ∧ (decide (x_4 < (↑x.length :
  Int)) = false → true = rightP x))
theorem pright_told (hc : CsOk Try.prog pright_cs) (h : pright_vc) : Told Try.prog 37 pright_con := told (A := pright_la) tabOk mixed hc Try.func37 (by kernel_rfl) (by kernel_rfl) h
def rPright_vc : Prop :=
  ∀ (x : List Route), (LenOk x.length ∧ ∀ (r : Route), List.Mem r x → LenOk r.stops.length) → (decide ((↑x.length : Int) > (8 : Int)) = true → false = rightP x) ∧ (decide ((↑x.length : Int) > (8 : Int)) = false → ∃ (inv : List Stop → Int →
  Prop), ∃ (μ : List Stop → Int → Nat), (((0 : Int) = (0 : Int) ∧ nilOf Stop = nilOf Stop ∧ x = x) ∧ inv [] (0 : Int)) ∧ ∀ (x_3 : List Stop) (x_4 : Int), inv x_3 x_4 → (decide (x_4 < (↑x.length : Int)) = true → ((0 : Int) ≤ x_4 ∧ x_4 <
  (↑x.length : Int)) ∧ x_4.toNat < x.length ∧ (decide ((x.getD x_4.toNat (Route.mk (0 : Int) (0 : Int) [])).driver < (1 : Int)) = false → (decide ((x.getD x_4.toNat (Route.mk (0 : Int) (0 : Int) [])).driver > (1000000 : Int)) = false →
  (decide (x_4 > (0 : Int)) = true → ((0 : Int) ≤ wrap (x_4 - (1 : Int)) ∧ wrap (x_4 - (1 : Int)) < (↑x.length : Int)) ∧ (wrap (x_4 - (1 : Int))).toNat < x.length ∧ (decide ((x.getD (wrap (x_4 - (1 : Int))).toNat (Route.mk (0 : Int) (0 : Int)
  [])).driver ≥ (x.getD x_4.toNat (Route.mk (0 : Int) (0 : Int) [])).driver) = false → (decide ((↑(x.getD x_4.toNat (Route.mk (0 : Int) (0 : Int) [])).stops.length : Int) > (80 : Int)) = false → (decide ((x.getD x_4.toNat (Route.mk (0 : Int)
  (0 : Int) [])).served < (0 : Int)) = false → (decide ((x.getD x_4.toNat (Route.mk (0 : Int) (0 : Int) [])).served > (↑(x.getD x_4.toNat (Route.mk (0 : Int) (0 : Int) [])).stops.length : Int)) = true → false = rightP x) ∧ (decide ((x.getD
  x_4.toNat (Route.mk (0 : Int) (0 : Int) [])).served > (↑(x.getD x_4.toNat (Route.mk (0 : Int) (0 : Int) [])).stops.length : Int)) = false → ∃ (inv_1 : List Stop → Int → Prop), ∃ (μ_1 : List Stop → Int → Nat), (((x_4 = x_4 ∧ (0 : Int) = (0 :
  Int)) ∧ ((x.getD x_4.toNat (Route.mk (0 : Int) (0 : Int) [])).driver = (x.getD x_4.toNat (Route.mk (0 : Int) (0 : Int) [])).driver ∧ (x.getD x_4.toNat (Route.mk (0 : Int) (0 : Int) [])).served = (x.getD x_4.toNat (Route.mk (0 : Int) (0 :
  Int) [])).served) ∧ (x.getD x_4.toNat (Route.mk (0 : Int) (0 : Int) [])).stops = (x.getD x_4.toNat (Route.mk (0 : Int) (0 : Int) [])).stops ∧ x_3 = x_3 ∧ x = x) ∧ inv_1 x_3 (0 : Int)) ∧ ∀ (x_14 : List Stop) (x_15 : Int), inv_1 x_14 x_15 →
  (decide (x_15 < (↑(x.getD x_4.toNat (Route.mk (0 : Int) (0 : Int) [])).stops.length : Int)) = true → ((0 : Int) ≤ x_15 ∧ x_15 < (↑(x.getD x_4.toNat (Route.mk (0 : Int) (0 : Int) [])).stops.length : Int)) ∧ x_15.toNat < (x.getD x_4.toNat
  (Route.mk (0 : Int) (0 : Int) [])).stops.length ∧ (decide (((x.getD x_4.toNat (Route.mk (0 : Int) (0 : Int) [])).stops.getD x_15.toNat FK.stop.zero).order < (1 : Int)) = false → (decide (((x.getD x_4.toNat (Route.mk (0 : Int) (0 : Int)
  [])).stops.getD x_15.toNat FK.stop.zero).order > (1000000 : Int)) = true → false = rightP x) ∧ (decide (((x.getD x_4.toNat (Route.mk (0 : Int) (0 : Int) [])).stops.getD x_15.toNat FK.stop.zero).order > (1000000 : Int)) = false → ∃ (inv :
  Int → Prop), ∃ (μ : Int → Nat), (((x_4 = x_4 ∧ x_15 = x_15 ∧ (0 : Int) = (0 : Int)) ∧ (((x.getD x_4.toNat (Route.mk (0 : Int) (0 : Int) [])).driver = (x.getD x_4.toNat (Route.mk (0 : Int) (0 : Int) [])).driver ∧ (x.getD x_4.toNat (Route.mk
  (0 : Int) (0 : Int) [])).served = (x.getD x_4.toNat (Route.mk (0 : Int) (0 : Int) [])).served) ∧ ((x.getD x_4.toNat (Route.mk (0 : Int) (0 : Int) [])).stops.getD x_15.toNat FK.stop.zero).order = ((x.getD x_4.toNat (Route.mk (0 : Int) (0 :
  Int) [])).stops.getD x_15.toNat FK.stop.zero).order ∧ ((x.getD x_4.toNat (Route.mk (0 : Int) (0 : Int) [])).stops.getD x_15.toNat FK.stop.zero).drop = ((x.getD x_4.toNat (Route.mk (0 : Int) (0 : Int) [])).stops.getD x_15.toNat
  FK.stop.zero).drop) ∧ (x.getD x_4.toNat (Route.mk (0 : Int) (0 : Int) [])).stops = (x.getD x_4.toNat (Route.mk (0 : Int) (0 : Int) [])).stops ∧ x_14 = x_14 ∧ x = x) ∧ inv (0 : Int)) ∧ ∀ (x_20 : Int), inv x_20 → (decide (x_20 < (↑x_14.length
  : Int)) = true → ((0 : Int) ≤ x_20 ∧ x_20 < (↑x_14.length : Int)) ∧ x_20.toNat < x_14.length ∧ ((decide ((x_14.getD x_20.toNat FK.stop.zero).order = ((x.getD x_4.toNat (Route.mk (0 : Int) (0 : Int) [])).stops.getD x_15.toNat
  FK.stop.zero).order) && ((x_14.getD x_20.toNat FK.stop.zero).drop == ((x.getD x_4.toNat (Route.mk (0 : Int) (0 : Int) [])).stops.getD x_15.toNat FK.stop.zero).drop && true)) = true → false = rightP x) ∧ ((decide ((x_14.getD x_20.toNat
  FK.stop.zero).order = ((x.getD x_4.toNat (Route.mk (0 : Int) (0 : Int) [])).stops.getD x_15.toNat FK.stop.zero).order) && ((x_14.getD x_20.toNat FK.stop.zero).drop == ((x.getD x_4.toNat (Route.mk (0 : Int) (0 : Int) [])).stops.getD
  x_15.toNat FK.stop.zero).drop && true)) = false → ((x_4 = x_4 ∧ x_15 = x_15 ∧ wrap (x_20 + (1 : Int)) = wrap (x_20 + (1 : Int))) ∧ (((x.getD x_4.toNat (Route.mk (0 : Int) (0 : Int) [])).driver = (x.getD x_4.toNat (Route.mk (0 : Int) (0 :
  Int) [])).driver ∧ (x.getD x_4.toNat (Route.mk (0 : Int) (0 : Int) [])).served = (x.getD x_4.toNat (Route.mk (0 : Int) (0 : Int) [])).served) ∧ ((x.getD x_4.toNat (Route.mk (0 : Int) (0 : Int) [])).stops.getD x_15.toNat FK.stop.zero).order
  = ((x.getD x_4.toNat (Route.mk (0 : Int) (0 : Int) [])).stops.getD x_15.toNat FK.stop.zero).order ∧ ((x.getD x_4.toNat (Route.mk (0 : Int) (0 : Int) [])).stops.getD x_15.toNat FK.stop.zero).drop = ((x.getD x_4.toNat (Route.mk (0 : Int) (0 :
  Int) [])).stops.getD x_15.toNat FK.stop.zero).drop) ∧ (x.getD x_4.toNat (Route.mk (0 : Int) (0 : Int) [])).stops = (x.getD x_4.toNat (Route.mk (0 : Int) (0 : Int) [])).stops ∧ x_14 = x_14 ∧ x = x) ∧ inv (wrap (x_20 + (1 : Int))) ∧ μ (wrap
  (x_20 + (1 : Int))) < μ x_20)) ∧ (decide (x_20 < (↑x_14.length : Int)) = false → (True ∧ (x_14.length + [(x.getD x_4.toNat (Route.mk (0 : Int) (0 : Int) [])).stops.getD x_15.toNat FK.stop.zero].length) * ((8 : Nat) * (2 : Nat)) ≤
  (140737488355328 : Nat)) ∧ ((x_4 = x_4 ∧ wrap (x_15 + (1 : Int)) = wrap (x_15 + (1 : Int))) ∧ ((x.getD x_4.toNat (Route.mk (0 : Int) (0 : Int) [])).driver = (x.getD x_4.toNat (Route.mk (0 : Int) (0 : Int) [])).driver ∧ (x.getD x_4.toNat
  (Route.mk (0 : Int) (0 : Int) [])).served = (x.getD x_4.toNat (Route.mk (0 : Int) (0 : Int) [])).served) ∧ (x.getD x_4.toNat (Route.mk (0 : Int) (0 : Int) [])).stops = (x.getD x_4.toNat (Route.mk (0 : Int) (0 : Int) [])).stops ∧ x_14 ++
  [(x.getD x_4.toNat (Route.mk (0 : Int) (0 : Int) [])).stops.getD x_15.toNat FK.stop.zero] = x_14 ++ [(x.getD x_4.toNat (Route.mk (0 : Int) (0 : Int) [])).stops.getD x_15.toNat FK.stop.zero] ∧ x = x) ∧ inv_1 (x_14 ++ [(x.getD x_4.toNat
  (Route.mk (0 : Int) (0 : Int) [])).stops.getD x_15.toNat FK.stop.zero]) (wrap (x_15 + (1 : Int))) ∧ μ_1 (x_14 ++ [(x.getD x_4.toNat (Route.mk (0 : Int) (0 : Int) [])).stops.getD x_15.toNat FK.stop.zero]) (wrap (x_15 + (1 : Int))) < μ_1 x_14
  x_15))) ∧ (decide (((x.getD x_4.toNat (Route.mk (0 : Int) (0 : Int) [])).stops.getD x_15.toNat FK.stop.zero).order < (1 : Int)) = !false → false = rightP x)) ∧ (decide (x_15 < (↑(x.getD x_4.toNat (Route.mk (0 : Int) (0 : Int)
  [])).stops.length : Int)) = false → (wrap (x_4 + (1 : Int)) = wrap (x_4 + (1 : Int)) ∧ x_14 = x_14 ∧ x = x) ∧ inv x_14 (wrap (x_4 + (1 : Int))) ∧ μ x_14 (wrap (x_4 + (1 : Int))) < μ x_3 x_4))) ∧ (decide ((x.getD x_4.toNat (Route.mk (0 :
  Int) (0 : Int) [])).served < (0 : Int)) = !false → false = rightP x)) ∧ (decide ((↑(x.getD x_4.toNat (Route.mk (0 : Int) (0 : Int) [])).stops.length : Int) > (80 : Int)) = !false → false = rightP x)) ∧ (decide ((x.getD (wrap (x_4 - (1 :
  Int))).toNat (Route.mk (0 : Int) (0 : Int) [])).driver ≥ (x.getD x_4.toNat (Route.mk (0 : Int) (0 : Int) [])).driver) = !false → false = rightP x)) ∧ (decide (x_4 > (0 : Int)) = !true → (decide ((↑(x.getD x_4.toNat (Route.mk (0 : Int) (0 :
  Int) [])).stops.length : Int) > (80 : Int)) = false → (decide ((x.getD x_4.toNat (Route.mk (0 : Int) (0 : Int) [])).served < (0 : Int)) = false → (decide ((x.getD x_4.toNat (Route.mk (0 : Int) (0 : Int) [])).served > (↑(x.getD x_4.toNat
  (Route.mk (0 : Int) (0 : Int) [])).stops.length : Int)) = true → false = rightP x) ∧ (decide ((x.getD x_4.toNat (Route.mk (0 : Int) (0 : Int) [])).served > (↑(x.getD x_4.toNat (Route.mk (0 : Int) (0 : Int) [])).stops.length : Int)) = false
  → ∃ (inv_1 : List Stop → Int → Prop), ∃ (μ_1 : List Stop → Int → Nat), (((x_4 = x_4 ∧ (0 : Int) = (0 : Int)) ∧ ((x.getD x_4.toNat (Route.mk (0 : Int) (0 : Int) [])).driver = (x.getD x_4.toNat (Route.mk (0 : Int) (0 : Int) [])).driver ∧
  (x.getD x_4.toNat (Route.mk (0 : Int) (0 : Int) [])).served = (x.getD x_4.toNat (Route.mk (0 : Int) (0 : Int) [])).served) ∧ (x.getD x_4.toNat (Route.mk (0 : Int) (0 : Int) [])).stops = (x.getD x_4.toNat (Route.mk (0 : Int) (0 : Int)
  [])).stops ∧ x_3 = x_3 ∧ x = x) ∧ inv_1 x_3 (0 : Int)) ∧ ∀ (x_13 : List Stop) (x_14 : Int), inv_1 x_13 x_14 → (decide (x_14 < (↑(x.getD x_4.toNat (Route.mk (0 : Int) (0 : Int) [])).stops.length : Int)) = true → ((0 : Int) ≤ x_14 ∧ x_14 <
  (↑(x.getD x_4.toNat (Route.mk (0 : Int) (0 : Int) [])).stops.length : Int)) ∧ x_14.toNat < (x.getD x_4.toNat (Route.mk (0 : Int) (0 : Int) [])).stops.length ∧ (decide (((x.getD x_4.toNat (Route.mk (0 : Int) (0 : Int) [])).stops.getD
  x_14.toNat FK.stop.zero).order < (1 : Int)) = false → (decide (((x.getD x_4.toNat (Route.mk (0 : Int) (0 : Int) [])).stops.getD x_14.toNat FK.stop.zero).order > (1000000 : Int)) = true → false = rightP x) ∧ (decide (((x.getD x_4.toNat
  (Route.mk (0 : Int) (0 : Int) [])).stops.getD x_14.toNat FK.stop.zero).order > (1000000 : Int)) = false → ∃ (inv : Int → Prop), ∃ (μ : Int → Nat), (((x_4 = x_4 ∧ x_14 = x_14 ∧ (0 : Int) = (0 : Int)) ∧ (((x.getD x_4.toNat (Route.mk (0 : Int)
  (0 : Int) [])).driver = (x.getD x_4.toNat (Route.mk (0 : Int) (0 : Int) [])).driver ∧ (x.getD x_4.toNat (Route.mk (0 : Int) (0 : Int) [])).served = (x.getD x_4.toNat (Route.mk (0 : Int) (0 : Int) [])).served) ∧ ((x.getD x_4.toNat (Route.mk
  (0 : Int) (0 : Int) [])).stops.getD x_14.toNat FK.stop.zero).order = ((x.getD x_4.toNat (Route.mk (0 : Int) (0 : Int) [])).stops.getD x_14.toNat FK.stop.zero).order ∧ ((x.getD x_4.toNat (Route.mk (0 : Int) (0 : Int) [])).stops.getD
  x_14.toNat FK.stop.zero).drop = ((x.getD x_4.toNat (Route.mk (0 : Int) (0 : Int) [])).stops.getD x_14.toNat FK.stop.zero).drop) ∧ (x.getD x_4.toNat (Route.mk (0 : Int) (0 : Int) [])).stops = (x.getD x_4.toNat (Route.mk (0 : Int) (0 : Int)
  [])).stops ∧ x_13 = x_13 ∧ x = x) ∧ inv (0 : Int)) ∧ ∀ (x_19 : Int), inv x_19 → (decide (x_19 < (↑x_13.length : Int)) = true → ((0 : Int) ≤ x_19 ∧ x_19 < (↑x_13.length : Int)) ∧ x_19.toNat < x_13.length ∧ ((decide ((x_13.getD x_19.toNat
  FK.stop.zero).order = ((x.getD x_4.toNat (Route.mk (0 : Int) (0 : Int) [])).stops.getD x_14.toNat FK.stop.zero).order) && ((x_13.getD x_19.toNat FK.stop.zero).drop == ((x.getD x_4.toNat (Route.mk (0 : Int) (0 : Int) [])).stops.getD
  x_14.toNat FK.stop.zero).drop && true)) = true → false = rightP x) ∧ ((decide ((x_13.getD x_19.toNat FK.stop.zero).order = ((x.getD x_4.toNat (Route.mk (0 : Int) (0 : Int) [])).stops.getD x_14.toNat FK.stop.zero).order) && ((x_13.getD
  x_19.toNat FK.stop.zero).drop == ((x.getD x_4.toNat (Route.mk (0 : Int) (0 : Int) [])).stops.getD x_14.toNat FK.stop.zero).drop && true)) = false → ((x_4 = x_4 ∧ x_14 = x_14 ∧ wrap (x_19 + (1 : Int)) = wrap (x_19 + (1 : Int))) ∧ (((x.getD
  x_4.toNat (Route.mk (0 : Int) (0 : Int) [])).driver = (x.getD x_4.toNat (Route.mk (0 : Int) (0 : Int) [])).driver ∧ (x.getD x_4.toNat (Route.mk (0 : Int) (0 : Int) [])).served = (x.getD x_4.toNat (Route.mk (0 : Int) (0 : Int) [])).served) ∧
  ((x.getD x_4.toNat (Route.mk (0 : Int) (0 : Int) [])).stops.getD x_14.toNat FK.stop.zero).order = ((x.getD x_4.toNat (Route.mk (0 : Int) (0 : Int) [])).stops.getD x_14.toNat FK.stop.zero).order ∧ ((x.getD x_4.toNat (Route.mk (0 : Int) (0 :
  Int) [])).stops.getD x_14.toNat FK.stop.zero).drop = ((x.getD x_4.toNat (Route.mk (0 : Int) (0 : Int) [])).stops.getD x_14.toNat FK.stop.zero).drop) ∧ (x.getD x_4.toNat (Route.mk (0 : Int) (0 : Int) [])).stops = (x.getD x_4.toNat (Route.mk
  (0 : Int) (0 : Int) [])).stops ∧ x_13 = x_13 ∧ x = x) ∧ inv (wrap (x_19 + (1 : Int))) ∧ μ (wrap (x_19 + (1 : Int))) < μ x_19)) ∧ (decide (x_19 < (↑x_13.length : Int)) = false → (True ∧ (x_13.length + [(x.getD x_4.toNat (Route.mk (0 : Int)
  (0 : Int) [])).stops.getD x_14.toNat FK.stop.zero].length) * ((8 : Nat) * (2 : Nat)) ≤ (140737488355328 : Nat)) ∧ ((x_4 = x_4 ∧ wrap (x_14 + (1 : Int)) = wrap (x_14 + (1 : Int))) ∧ ((x.getD x_4.toNat (Route.mk (0 : Int) (0 : Int)
  [])).driver = (x.getD x_4.toNat (Route.mk (0 : Int) (0 : Int) [])).driver ∧ (x.getD x_4.toNat (Route.mk (0 : Int) (0 : Int) [])).served = (x.getD x_4.toNat (Route.mk (0 : Int) (0 : Int) [])).served) ∧ (x.getD x_4.toNat (Route.mk (0 : Int)
  (0 : Int) [])).stops = (x.getD x_4.toNat (Route.mk (0 : Int) (0 : Int) [])).stops ∧ x_13 ++ [(x.getD x_4.toNat (Route.mk (0 : Int) (0 : Int) [])).stops.getD x_14.toNat FK.stop.zero] = x_13 ++ [(x.getD x_4.toNat (Route.mk (0 : Int) (0 : Int)
  [])).stops.getD x_14.toNat FK.stop.zero] ∧ x = x) ∧ inv_1 (x_13 ++ [(x.getD x_4.toNat (Route.mk (0 : Int) (0 : Int) [])).stops.getD x_14.toNat FK.stop.zero]) (wrap (x_14 + (1 : Int))) ∧ μ_1 (x_13 ++ [(x.getD x_4.toNat (Route.mk (0 : Int) (0
  : Int) [])).stops.getD x_14.toNat FK.stop.zero]) (wrap (x_14 + (1 : Int))) < μ_1 x_13 x_14))) ∧ (decide (((x.getD x_4.toNat (Route.mk (0 : Int) (0 : Int) [])).stops.getD x_14.toNat FK.stop.zero).order < (1 : Int)) = !false → false = rightP
  x)) ∧ (decide (x_14 < (↑(x.getD x_4.toNat (Route.mk (0 : Int) (0 : Int) [])).stops.length : Int)) = false → (wrap (x_4 + (1 : Int)) = wrap (x_4 + (1 : Int)) ∧ x_13 = x_13 ∧ x = x) ∧ inv x_13 (wrap (x_4 + (1 : Int))) ∧ μ x_13 (wrap (x_4 + (1
  : Int))) < μ x_3 x_4))) ∧ (decide ((x.getD x_4.toNat (Route.mk (0 : Int) (0 : Int) [])).served < (0 : Int)) = !false → false = rightP x)) ∧ (decide ((↑(x.getD x_4.toNat (Route.mk (0 : Int) (0 : Int) [])).stops.length : Int) > (80 : Int)) =
  !false → false = rightP x))) ∧ (decide ((x.getD x_4.toNat (Route.mk (0 : Int) (0 : Int) [])).driver > (1000000 : Int)) = !false → false = rightP x)) ∧ (decide ((x.getD x_4.toNat (Route.mk (0 : Int) (0 : Int) [])).driver < (1 : Int)) =
  !false → false = rightP x)) ∧ (decide (x_4 < (↑x.length : Int)) = false → true = rightP x))
theorem rPright_told (hc : CsOk Try.prog rPright_cs) (h : rPright_vc) : Told Try.prog 79 rPright_con := told (A := rPright_la) tabOk mixed hc Try.func79 (by kernel_rfl) (by kernel_rfl) h
def pfind_vc : Prop :=
  ∀ (x : List Route), (LenOk x.length ∧ ∀ (r : Route), List.Mem r x → LenOk r.stops.length) → ∀ (x_2 : Int), ∃ (inv : Int → Prop), ∃ (μ : Int → Nat), (((x_2 = x_2 ∧ (↑x.length : Int) = (↑x.length : Int) ∧ (0 : Int) = (0 : Int)) ∧ ((0 : Int) =
  (0 : Int) ∧ (0 : Int) = (0 : Int) ∧ (0 : Int) = (0 : Int) ∧ (0 : Int) = (0 : Int)) ∧ x = x) ∧ inv (0 : Int)) ∧ ∀ (x_3 : Int), inv x_3 → (decide (x_3 < (↑x.length : Int)) = true → ((0 : Int) ≤ x_3 ∧ x_3 < (↑x.length : Int)) ∧ x_3.toNat <
  x.length ∧ (decide (whereS (Stop.mk x_2 false) (x.getD x_3.toNat (Route.mk (0 : Int) (0 : Int) [])).stops ≥ (0 : Int)) = false → (decide (whereS (Stop.mk x_2 true) (x.getD x_3.toNat (Route.mk (0 : Int) (0 : Int) [])).stops ≥ (0 : Int)) =
  true → ((x.getD x_3.toNat (Route.mk (0 : Int) (0 : Int) [])).driver = ((findP x_2 x).getD FK.spot.zero).driver ∧ whereS (Stop.mk x_2 false) (x.getD x_3.toNat (Route.mk (0 : Int) (0 : Int) [])).stops = ((findP x_2 x).getD FK.spot.zero).pick
  ∧ whereS (Stop.mk x_2 true) (x.getD x_3.toNat (Route.mk (0 : Int) (0 : Int) [])).stops = ((findP x_2 x).getD FK.spot.zero).drop ∧ (0 : Int) = ((findP x_2 x).getD FK.spot.zero).cost) ∧ true = (findP x_2 x).isSome) ∧ (decide (whereS (Stop.mk
  x_2 true) (x.getD x_3.toNat (Route.mk (0 : Int) (0 : Int) [])).stops ≥ (0 : Int)) = false → ((x_2 = x_2 ∧ (↑x.length : Int) = (↑x.length : Int) ∧ wrap (x_3 + (1 : Int)) = wrap (x_3 + (1 : Int))) ∧ ((0 : Int) = (0 : Int) ∧ (0 : Int) = (0 :
  Int) ∧ (0 : Int) = (0 : Int) ∧ (0 : Int) = (0 : Int)) ∧ x = x) ∧ inv (wrap (x_3 + (1 : Int))) ∧ μ (wrap (x_3 + (1 : Int))) < μ x_3)) ∧ (decide (whereS (Stop.mk x_2 false) (x.getD x_3.toNat (Route.mk (0 : Int) (0 : Int) [])).stops ≥ (0 :
  Int)) = !false → ((x.getD x_3.toNat (Route.mk (0 : Int) (0 : Int) [])).driver = ((findP x_2 x).getD FK.spot.zero).driver ∧ whereS (Stop.mk x_2 false) (x.getD x_3.toNat (Route.mk (0 : Int) (0 : Int) [])).stops = ((findP x_2 x).getD
  FK.spot.zero).pick ∧ whereS (Stop.mk x_2 true) (x.getD x_3.toNat (Route.mk (0 : Int) (0 : Int) [])).stops = ((findP x_2 x).getD FK.spot.zero).drop ∧ (0 : Int) = ((findP x_2 x).getD FK.spot.zero).cost) ∧ true = (findP x_2 x).isSome)) ∧
  (decide (x_3 < (↑x.length : Int)) = false → ((0 : Int) = ((findP x_2 x).getD FK.spot.zero).driver ∧ (0 : Int) = ((findP x_2 x).getD FK.spot.zero).pick ∧ (0 : Int) = ((findP x_2 x).getD FK.spot.zero).drop ∧ (0 : Int) = ((findP x_2 x).getD
  FK.spot.zero).cost) ∧ false = (findP x_2 x).isSome)
theorem pfind_told (hc : CsOk Try.prog pfind_cs) (h : pfind_vc) : Told Try.prog 36 pfind_con := told (A := pfind_la) tabOk mixed hc Try.func36 (by kernel_rfl) (by kernel_rfl) h
def cdriver_vc : Prop :=
  ∀ (x : List Driver), LenOk x.length → ∀ (x_2 : Int), ∃ (inv : Int → Prop), ∃ (μ : Int → Nat), (((x_2 = x_2 ∧ (↑x.length : Int) = (↑x.length : Int) ∧ (0 : Int) = (0 : Int)) ∧ ((0 : Int) = (0 : Int) ∧ (0 : Int) = (0 : Int) ∧ (0 : Int) = (0 :
  Int) ∧ (0 : Int) = (0 : Int) ∧ (0 : Int) = (0 : Int)) ∧ x = x) ∧ inv (0 : Int)) ∧ ∀ (x_3 : Int), inv x_3 → (decide (x_3 < (↑x.length : Int)) = true → ((0 : Int) ≤ x_3 ∧ x_3 < (↑x.length : Int)) ∧ x_3.toNat < x.length ∧ (decide ((x.getD
  x_3.toNat FK.driver.zero).id = x_2) = true → ((x.getD x_3.toNat FK.driver.zero).id = ((findD x_2 x).getD FK.driver.zero).id ∧ (x.getD x_3.toNat FK.driver.zero).room = ((findD x_2 x).getD FK.driver.zero).room ∧ (x.getD x_3.toNat
  FK.driver.zero).home = ((findD x_2 x).getD FK.driver.zero).home ∧ (x.getD x_3.toNat FK.driver.zero).lo = ((findD x_2 x).getD FK.driver.zero).lo ∧ (x.getD x_3.toNat FK.driver.zero).hi = ((findD x_2 x).getD FK.driver.zero).hi ∧ (x.getD
  x_3.toNat FK.driver.zero).retired = ((findD x_2 x).getD FK.driver.zero).retired) ∧ true = (findD x_2 x).isSome) ∧ (decide ((x.getD x_3.toNat FK.driver.zero).id = x_2) = false → ((x_2 = x_2 ∧ (↑x.length : Int) = (↑x.length : Int) ∧ wrap (x_3
  + (1 : Int)) = wrap (x_3 + (1 : Int))) ∧ ((0 : Int) = (0 : Int) ∧ (0 : Int) = (0 : Int) ∧ (0 : Int) = (0 : Int) ∧ (0 : Int) = (0 : Int) ∧ (0 : Int) = (0 : Int)) ∧ x = x) ∧ inv (wrap (x_3 + (1 : Int))) ∧ μ (wrap (x_3 + (1 : Int))) < μ x_3))
  ∧ (decide (x_3 < (↑x.length : Int)) = false → ((0 : Int) = ((findD x_2 x).getD FK.driver.zero).id ∧ (0 : Int) = ((findD x_2 x).getD FK.driver.zero).room ∧ (0 : Int) = ((findD x_2 x).getD FK.driver.zero).home ∧ (0 : Int) = ((findD x_2
  x).getD FK.driver.zero).lo ∧ (0 : Int) = ((findD x_2 x).getD FK.driver.zero).hi ∧ false = ((findD x_2 x).getD FK.driver.zero).retired) ∧ false = (findD x_2 x).isSome)
theorem cdriver_told (hc : CsOk Try.prog cdriver_cs) (h : cdriver_vc) : Told Try.prog 40 cdriver_con := told (A := cdriver_la) tabOk mixed hc Try.func40 (by kernel_rfl) (by kernel_rfl) h
def rCdriver_vc : Prop :=
  ∀ (x : List Driver), LenOk x.length → ∀ (x_2 : Int), ∃ (inv : Int → Prop), ∃ (μ : Int → Nat), (((x_2 = x_2 ∧ (0 : Int) = (0 : Int)) ∧ ((0 : Int) = (0 : Int) ∧ (0 : Int) = (0 : Int) ∧ (0 : Int) = (0 : Int) ∧ (0 : Int) = (0 : Int) ∧ (0 : Int)
  = (0 : Int)) ∧ x = x) ∧ inv (0 : Int)) ∧ ∀ (x_3 : Int), inv x_3 → (decide (x_3 < (↑x.length : Int)) = true → ((0 : Int) ≤ x_3 ∧ x_3 < (↑x.length : Int)) ∧ x_3.toNat < x.length ∧ (decide ((x.getD x_3.toNat FK.driver.zero).id = x_2) = true →
  ((0 : Int) ≤ x_3 ∧ x_3 < (↑x.length : Int)) ∧ x_3.toNat < x.length ∧ ((x.getD x_3.toNat FK.driver.zero).id = ((findD x_2 x).getD FK.driver.zero).id ∧ (x.getD x_3.toNat FK.driver.zero).room = ((findD x_2 x).getD FK.driver.zero).room ∧
  (x.getD x_3.toNat FK.driver.zero).home = ((findD x_2 x).getD FK.driver.zero).home ∧ (x.getD x_3.toNat FK.driver.zero).lo = ((findD x_2 x).getD FK.driver.zero).lo ∧ (x.getD x_3.toNat FK.driver.zero).hi = ((findD x_2 x).getD
  FK.driver.zero).hi ∧ (x.getD x_3.toNat FK.driver.zero).retired = ((findD x_2 x).getD FK.driver.zero).retired) ∧ true = (findD x_2 x).isSome) ∧ (decide ((x.getD x_3.toNat FK.driver.zero).id = x_2) = false → ((x_2 = x_2 ∧ wrap (x_3 + (1 :
  Int)) = wrap (x_3 + (1 : Int))) ∧ ((0 : Int) = (0 : Int) ∧ (0 : Int) = (0 : Int) ∧ (0 : Int) = (0 : Int) ∧ (0 : Int) = (0 : Int) ∧ (0 : Int) = (0 : Int)) ∧ x = x) ∧ inv (wrap (x_3 + (1 : Int))) ∧ μ (wrap (x_3 + (1 : Int))) < μ x_3)) ∧
  (decide (x_3 < (↑x.length : Int)) = false → ((0 : Int) = ((findD x_2 x).getD FK.driver.zero).id ∧ (0 : Int) = ((findD x_2 x).getD FK.driver.zero).room ∧ (0 : Int) = ((findD x_2 x).getD FK.driver.zero).home ∧ (0 : Int) = ((findD x_2 x).getD
  FK.driver.zero).lo ∧ (0 : Int) = ((findD x_2 x).getD FK.driver.zero).hi ∧ false = ((findD x_2 x).getD FK.driver.zero).retired) ∧ false = (findD x_2 x).isSome)
theorem rCdriver_told (hc : CsOk Try.prog rCdriver_cs) (h : rCdriver_vc) : Told Try.prog 73 rCdriver_con := told (A := rCdriver_la) tabOk mixed hc Try.func73 (by kernel_rfl) (by kernel_rfl) h
def ctog_vc : Prop :=
  (∀ (x : List Driver), LenOk x.length → ∀ (x_2 : List Order), LenOk x_2.length → ∀ (x_4 : List Route), (LenOk x_4.length ∧ ∀ (r : Route), List.Mem r x_4 → LenOk r.stops.length) → (∀ (x : MapD), none = some x → MapOk x) → false = wellP none x
  x_2 x_4) ∧ ∀ (x : MapD), LenOk x.l.length → ∀ (x_2 : List Driver), LenOk x_2.length → ∀ (x_4 : List Order), LenOk x_4.length → ∀ (x_6 : List Route), (LenOk x_6.length ∧ ∀ (r : Route), List.Mem r x_6 → LenOk r.stops.length) → (∀ (x_8 :
  MapD), some x = some x_8 → MapOk x_8) → (decide ((↑x_2.length : Int) > (8 : Int)) = false → (∀ (x_10 : MapD), some x = some x_10 → MapOk x_10) ∧ ((!knownO (some x) x_4) = false → ((!rightP x_6) = true → false = wellP (some x) x_2 x_4 x_6) ∧
  ((!rightP x_6) = false → ∃ (inv : Int → Prop), ∃ (μ : Int → Nat), ((((↑x_2.length : Int) = (↑x_2.length : Int) ∧ (0 : Int) = (0 : Int)) ∧ x.n = x.n ∧ x.l = x.l ∧ x_2 = x_2) ∧ inv (0 : Int)) ∧ ∀ (x_12 : Int), inv x_12 → (decide (x_12 <
  (↑x_2.length : Int)) = true → ((0 : Int) ≤ x_12 ∧ x_12 < (↑x_2.length : Int)) ∧ x_12.toNat < x_2.length ∧ ((0 : Int) ≤ (0 : Int) ∧ (0 : Int) ≤ x_12 ∧ x_12 ≤ (↑x_2.length : Int)) ∧ Int.toNat (0 : Int) + (x_12.toNat - Int.toNat (0 : Int)) ≤
  x_2.length ∧ ((findD (x_2.getD x_12.toNat FK.driver.zero).id (part x_2 (Int.toNat (0 : Int)) (x_12.toNat - Int.toNat (0 : Int)))).isSome = false → (∀ (x_16 : MapD), some x = some x_16 → MapOk x_16) ∧ ((!decide (driverE (some x) (x_2.getD
  x_12.toNat FK.driver.zero) = (0 : Int))) = true → false = wellP (some x) x_2 x_4 x_6) ∧ ((!decide (driverE (some x) (x_2.getD x_12.toNat FK.driver.zero) = (0 : Int))) = false → (((↑x_2.length : Int) = (↑x_2.length : Int) ∧ wrap (x_12 + (1 :
  Int)) = wrap (x_12 + (1 : Int))) ∧ x.n = x.n ∧ x.l = x.l ∧ x_2 = x_2) ∧ inv (wrap (x_12 + (1 : Int))) ∧ μ (wrap (x_12 + (1 : Int))) < μ x_12)) ∧ ((findD (x_2.getD x_12.toNat FK.driver.zero).id (part x_2 (Int.toNat (0 : Int)) (x_12.toNat -
  Int.toNat (0 : Int)))).isSome = !false → false = wellP (some x) x_2 x_4 x_6)) ∧ (decide (x_12 < (↑x_2.length : Int)) = false → true = wellP (some x) x_2 x_4 x_6))) ∧ ((!knownO (some x) x_4) = !false → false = wellP (some x) x_2 x_4 x_6)) ∧
  (decide ((↑x_2.length : Int) > (8 : Int)) = !false → false = wellP (some x) x_2 x_4 x_6)
theorem ctog_told (hc : CsOk Try.prog ctog_cs) (h : ctog_vc) : Told Try.prog 39 ctog_con := told (A := ctog_la) tabOk mixed hc Try.func39 (by kernel_rfl) (by kernel_rfl) h
def rWell_vc : Prop :=
  (∀ (x : List Driver), LenOk x.length → ∀ (x_2 : List Order), LenOk x_2.length → ∀ (x_4 : List Route), (LenOk x_4.length ∧ ∀ (r : Route), List.Mem r x_4 → LenOk r.stops.length) → (∀ (x : MapD), none = some x → MapOk x) → false = wellP none x
  x_2 x_4) ∧ ∀ (x : MapD), LenOk x.l.length → ∀ (x_2 : List Driver), LenOk x_2.length → ∀ (x_4 : List Order), LenOk x_4.length → ∀ (x_6 : List Route), (LenOk x_6.length ∧ ∀ (r : Route), List.Mem r x_6 → LenOk r.stops.length) → (∀ (x_8 :
  MapD), some x = some x_8 → MapOk x_8) → (decide ((↑x_2.length : Int) > (8 : Int)) = false → ((!knownO (some x) x_4) = false → ((!rightP x_6) = true → false = wellP (some x) x_2 x_4 x_6) ∧ ((!rightP x_6) = false → ∃ (inv : Int → Prop), ∃ (μ
  : Int → Nat), (((0 : Int) = (0 : Int) ∧ x.n = x.n ∧ x.l = x.l ∧ x_2 = x_2) ∧ inv (0 : Int)) ∧ ∀ (x_12 : Int), inv x_12 → (decide (x_12 < (↑x_2.length : Int)) = true → ((0 : Int) ≤ x_12 ∧ x_12 < (↑x_2.length : Int)) ∧ x_12.toNat < x_2.length
  ∧ ((!decide (driverE (some x) (x_2.getD x_12.toNat FK.driver.zero) = (0 : Int))) = true → false = wellP (some x) x_2 x_4 x_6) ∧ ((!decide (driverE (some x) (x_2.getD x_12.toNat FK.driver.zero) = (0 : Int))) = false → ∃ (inv_1 : Int → Prop),
  ∃ (μ_1 : Int → Nat), (((x_12 = x_12 ∧ (0 : Int) = (0 : Int)) ∧ x.n = x.n ∧ x.l = x.l ∧ x_2 = x_2) ∧ inv_1 (0 : Int)) ∧ ∀ (x_16 : Int), inv_1 x_16 → (decide (x_16 < x_12) = true → ((0 : Int) ≤ x_16 ∧ x_16 < (↑x_2.length : Int)) ∧ x_16.toNat
  < x_2.length ∧ ((0 : Int) ≤ x_12 ∧ x_12 < (↑x_2.length : Int)) ∧ x_12.toNat < x_2.length ∧ (decide ((x_2.getD x_16.toNat FK.driver.zero).id = (x_2.getD x_12.toNat FK.driver.zero).id) = true → false = wellP (some x) x_2 x_4 x_6) ∧ (decide
  ((x_2.getD x_16.toNat FK.driver.zero).id = (x_2.getD x_12.toNat FK.driver.zero).id) = false → ((x_12 = x_12 ∧ wrap (x_16 + (1 : Int)) = wrap (x_16 + (1 : Int))) ∧ x.n = x.n ∧ x.l = x.l ∧ x_2 = x_2) ∧ inv_1 (wrap (x_16 + (1 : Int))) ∧ μ_1
  (wrap (x_16 + (1 : Int))) < μ_1 x_16)) ∧ (decide (x_16 < x_12) = false → (wrap (x_12 + (1 : Int)) = wrap (x_12 + (1 : Int)) ∧ x.n = x.n ∧ x.l = x.l ∧ x_2 = x_2) ∧ inv (wrap (x_12 + (1 : Int))) ∧ μ (wrap (x_12 + (1 : Int))) < μ x_12))) ∧
  (decide (x_12 < (↑x_2.length : Int)) = false → true = wellP (some x) x_2 x_4 x_6))) ∧ ((!knownO (some x) x_4) = !false → false = wellP (some x) x_2 x_4 x_6)) ∧ (decide ((↑x_2.length : Int) > (8 : Int)) = !false → false = wellP (some x) x_2
  x_4 x_6)
theorem rWell_told (hc : CsOk Try.prog rWell_cs) (h : rWell_vc) : Told Try.prog 72 rWell_con := told (A := rWell_la) tabOk mixed hc Try.func72 (by kernel_rfl) (by kernel_rfl) h
end Go.Eng

/- Books of memory: lists with room, compared. What is told of them. -/
set_option linter.unusedVariables false
set_option linter.unusedSimpArgs false
namespace Go.Eng
open Go Go.Proofs
noncomputable def sameS_con : Con := ⟨[.c (.a (.f .stop)), .c (.a (.f .stop))], fun xs ys => one [.c (.b (same xs ys))]⟩
def sameS_cs : Cons := []
def sameS_la : List (Nat × LA) := [(4, ⟨[0, 1], [.i 5]⟩)]
end Go.Eng

/- The conditions of functions, as print.. of the engine told them. -/
set_option linter.unusedVariables false
namespace Go.Eng
open Go Go.Proofs
def sameS_vc : Prop :=
  ∀ (x : List Stop), LenOk x.length → ∀ (x_2 : List Stop), LenOk x_2.length → ((!decide ((↑x.length : Int) = (↑x_2.length : Int))) = true → false = same x x_2) ∧ ((!decide ((↑x.length : Int) = (↑x_2.length : Int))) = false → ∃ (inv : Int →
  Prop), ∃ (μ : Int → Nat), (((0 : Int) = (0 : Int) ∧ x_2 = x_2 ∧ x = x) ∧ inv (0 : Int)) ∧ ∀ (x_5 : Int), inv x_5 → (decide (x_5 < (↑x.length : Int)) = true → ((0 : Int) ≤ x_5 ∧ x_5 < (↑x.length : Int)) ∧ x_5.toNat < x.length ∧ ((0 : Int) ≤
  x_5 ∧ x_5 < (↑x_2.length : Int)) ∧ x_5.toNat < x_2.length ∧ ((!(decide ((x.getD x_5.toNat FK.stop.zero).order = (x_2.getD x_5.toNat FK.stop.zero).order) && ((x.getD x_5.toNat FK.stop.zero).drop == (x_2.getD x_5.toNat FK.stop.zero).drop &&
  true))) = true → false = same x x_2) ∧ ((!(decide ((x.getD x_5.toNat FK.stop.zero).order = (x_2.getD x_5.toNat FK.stop.zero).order) && ((x.getD x_5.toNat FK.stop.zero).drop == (x_2.getD x_5.toNat FK.stop.zero).drop && true))) = false →
  (wrap (x_5 + (1 : Int)) = wrap (x_5 + (1 : Int)) ∧ x_2 = x_2 ∧ x = x) ∧ inv (wrap (x_5 + (1 : Int))) ∧ μ (wrap (x_5 + (1 : Int))) < μ x_5)) ∧ (decide (x_5 < (↑x.length : Int)) = false → true = same x x_2))
theorem sameS_told (hc : CsOk Try.prog sameS_cs) (h : sameS_vc) : Told Try.prog 49 sameS_con := told (A := sameS_la) tabOk mixed hc Try.func49 (by kernel_rfl) (by kernel_rfl) h
end Go.Eng

/- Books of memory: it is so. -/
set_option linter.unusedVariables false
set_option linter.unusedSimpArgs false
namespace Go.Eng
open Go Go.Proofs
theorem elEqS (a b : Stop) : (decide (a.order = b.order) && ((a.drop == b.drop) && true)) = true ↔ a = b := by
  cases a; cases b; simp [and_assoc]
theorem sameS_ok : sameS_vc := fun x hx y _ => same_gen elEqS x hx y
theorem sameS_t : Told Try.prog 49 sameS_con := sameS_told csOk_nil sameS_ok
end Go.Eng

/- Plans: it is so. -/
set_option linter.unusedVariables false
set_option linter.unusedSimpArgs false
namespace Go.Eng
open Go Go.Proofs
abbrev rz : Route := ⟨0, 0, []⟩
theorem ix {α : Type} {l : List α} {i : Int} (d : α) (hl : l.length ≤ 9223372036854775807) (h0 : 0 ≤ i) (h : i < l.length) : wrap (i + 1) = i + 1 ∧ (i + 1).toNat = i.toNat + 1 ∧ i.toNat < l.length ∧ l.drop i.toNat = l.getD i.toNat d :: l.drop (i.toNat + 1) := by
  refine ⟨wrap_id (by omega) (by omega), by omega, by omega, getD_drop (by omega)⟩
theorem ixEnd {α : Type} {l : List α} {i : Int} (h : l.length ≤ i) : l.drop i.toNat = [] := List.drop_eq_nil_of_le (by omega)
theorem getD_get {α : Type} {l : List α} {k : Nat} (d : α) (hk : k < l.length) : l.getD k d = l[k] := by simp [List.getD, hk]
theorem forall_getD {α : Type} {l : List α} {P : α → Prop} (d : α) : (∀ r ∈ l, P r) ↔ ∀ k, k < l.length → P (l.getD k d) := by
  constructor
  · intro h k hk
    rw [getD_get d hk]
    exact h _ (List.getElem_mem hk)
  · intro h r hr
    obtain ⟨k, hk, rfl⟩ := List.getElem_of_mem hr
    have := h k hk
    rwa [getD_get d hk] at this
theorem getD_mem {α : Type} {l : List α} {k : Nat} (d : α) (hk : k < l.length) : l.getD k d ∈ l := by
  rw [getD_get d hk]; exact List.getElem_mem hk
theorem route_len {x : List Route} (h : ∀ (r : Route), List.Mem r x → LenOk r.stops.length) (r : Route) (hr : r ∈ x) : r.stops.length ≤ 9223372036854775807 := (h r hr).le
theorem whereS_bound (s : Stop) (l : List Stop) : -1 ≤ whereS s l ∧ whereS s l < l.length := by
  induction l with
  | nil => simp [whereS]
  | cons x l ih =>
    rw [whereS]
    split
    · simp only [List.length_cons]; omega
    · split <;> simp only [List.length_cons] <;> omega
theorem elEqS' (a b : Stop) : (decide (a.order = b.order) && ((a.drop == b.drop) && true)) = false ↔ a ≠ b := by
  rw [← Bool.not_eq_true, elEqS]
theorem whereS_step {s s' : Stop} {l : List Stop} {i : Nat} {w : Int} (h : w = if whereS s (s' :: l) < 0 then -1 else whereS s (s' :: l) + i) : (s' = s → (i : Int) = w) ∧ (s' ≠ s → w = if whereS s l < 0 then -1 else whereS s l + ((i + 1 : Nat) : Int)) := by
  have hb := (whereS_bound s l).1
  rw [whereS] at h
  constructor
  · intro e; rw [if_pos e] at h; simpa using h.symm
  · intro e; rw [if_neg e] at h
    by_cases h2 : whereS s l < 0
    · rw [if_pos h2] at h ⊢; simpa using h
    · rw [if_neg h2] at h ⊢; rw [if_neg (by omega)] at h; omega
theorem whereS_zero (s : Stop) (l : List Stop) : whereS s l = if whereS s (l.drop (Int.toNat 0)) < 0 then -1 else whereS s (l.drop (Int.toNat 0)) + ((Int.toNat 0 : Nat) : Int) := by
  have hb := (whereS_bound s l).1
  simp only [Int.toNat_zero, List.drop_zero]
  split <;> omega
theorem sidx_ok : sidx_vc := by
  unfold sidx_vc
  simp only [bad_false, int0, nilOf, decide_eq_true_eq, decide_eq_false_iff_not, Bool.not_eq_true', Bool.not_eq_false', Bool.not_true, Bool.not_false, Bool.false_eq_true, Bool.true_eq_false, eq_self, true_and, and_true, false_or, or_false, false_implies, true_implies, implies_true, Int.not_lt, Int.not_le, gt_iff_lt, ge_iff_le, ne_eq]
  intro x hl s
  have hl := hl.le
  refine ⟨fun i => 0 ≤ i ∧ whereS s x = (if whereS s (x.drop i.toNat) < 0 then -1 else whereS s (x.drop i.toNat) + (i.toNat : Int)), fun i => x.length - i.toNat, ⟨by omega, whereS_zero s x⟩, fun i hi => ⟨fun h => ?_, fun h => ?_⟩⟩
  · obtain ⟨h0, hI⟩ := hi
    obtain ⟨e1, e2, e3, e4⟩ := ix (FK.zero .stop) hl h0 h
    rw [e4] at hI
    obtain ⟨s1, s2⟩ := whereS_step hI
    rw [e1]; dsimp only; rw [e2]
    refine ⟨⟨h0, h⟩, e3, fun hq => ?_, fun hq => ⟨⟨by omega, s2 fun e => (elEqS' _ _).1 hq e.symm⟩, by omega⟩⟩
    have := s1 ((elEqS _ _).1 hq).symm
    omega
  · obtain ⟨h0, hI⟩ := hi
    rw [ixEnd h] at hI
    exact hI.symm
theorem sidx_t : Told Try.prog 59 sidx_con := sidx_told csOk_nil sidx_ok
theorem rightP_iff {p : List Route} : rightP p = true ↔ RightP p := by simp [rightP]
theorem right_no {p : List Route} (h : ¬ RightP p) : false = rightP p := by
  cases e : rightP p with
  | false => rfl
  | true => exact absurd (rightP_iff.1 e) h
theorem right_yes {p : List Route} (h : RightP p) : true = rightP p := (rightP_iff.2 h).symm
/-- The stops that were seen, in a map. -/
def Seen (f : Stop → Int) (all : List Stop) : Prop := ∀ s, (f s = 0 ∧ s ∉ all) ∨ (f s = 1 ∧ s ∈ all)
theorem seen_none : Seen (noF MK.stop.T) [] := fun s => Or.inl ⟨rfl, by simp⟩
theorem seen_more {f : Stop → Int} {all : List Stop} {s : Stop} (h : Seen f all) (hs : f s ≤ 0) : Seen (upF f s (wrap (f s + 1))) (all ++ [s]) := by
  intro t
  have hf : f s = 0 := by rcases h s with ⟨a, _⟩ | ⟨a, _⟩ <;> omega
  unfold upF
  by_cases e : t = s
  · subst e
    rw [if_pos rfl, hf]; exact Or.inr ⟨by decide, by simp⟩
  · rw [if_neg e]
    rcases h t with ⟨a, b⟩ | ⟨a, b⟩
    · exact Or.inl ⟨a, by simp [b, e]⟩
    · exact Or.inr ⟨a, by simp [b]⟩
theorem pright_ok : pright_vc := by
  unfold pright_vc
  simp only [bad_false, int0, nilOf, decide_eq_true_eq, decide_eq_false_iff_not, Bool.not_eq_true', Bool.not_eq_false', Bool.not_true, Bool.not_false, Bool.false_eq_true, Bool.true_eq_false, eq_self, true_and, and_true, false_or, or_false, false_implies, true_implies, implies_true, Int.not_lt, Int.not_le, gt_iff_lt, ge_iff_le, ne_eq]
  rintro x ⟨hl, hr⟩
  have hl := hl.le
  refine ⟨fun h8 => right_no fun hR => by have := hR.1; omega, fun h8 => ⟨fun last i f => 0 ≤ i ∧ ∃ all, (okR last all (x.drop i.toNat) ↔ okR 0 [] x) ∧ Seen f all, fun _ i _ => x.length - i.toNat, ⟨by omega, [], Iff.rfl, seen_none⟩, fun last i f hi => ⟨fun h => ?_, fun h => ?_⟩⟩⟩
  · obtain ⟨h0, all, hI, hS⟩ := hi
    obtain ⟨e1, e2, e3, e4⟩ := ix rz hl h0 h
    have hrl := route_len hr _ (getD_mem rz e3)
    rw [e4, okR] at hI
    rw [e1]; dsimp only; rw [e2]
    change List Route at x
    generalize x.getD i.toNat { driver := 0, served := 0, stops := [] } = r at *
    unfold okR1 at hI
    refine ⟨⟨h0, h⟩, e3, fun a1 => ⟨fun a2 => ⟨fun a3 => ⟨fun a4 => ⟨fun a5 => right_no fun hR => by have := hI.2 hR.2; omega, fun a5 => ?_⟩, fun a4 => right_no fun hR => by have := hI.2 hR.2; omega⟩, fun a3 => right_no fun hR => by have := hI.2 hR.2; omega⟩, fun a2 => right_no fun hR => by have := hI.2 hR.2; omega⟩, fun a1 => right_no fun hR => by have := hI.2 hR.2; omega⟩
    have hI' : (okS all r.stops ∧ okR r.driver (all ++ r.stops) (x.drop (i.toNat + 1))) ↔ okR 0 [] x := by
      rw [← hI]; exact ⟨fun q => ⟨⟨a1, a2, by omega, a4, a5⟩, q⟩, fun q => q.2⟩
    refine ⟨fun j g => 0 ≤ j ∧ ∃ al, ((okS al (r.stops.drop j.toNat) ∧ okR r.driver (al ++ r.stops.drop j.toNat) (x.drop (i.toNat + 1))) ↔ okR 0 [] x) ∧ Seen g al, fun j _ => r.stops.length - j.toNat, ⟨by omega, all, by simpa using hI', hS⟩, fun j g hj => ⟨fun k => ?_, fun k => ?_⟩⟩
    · obtain ⟨j0, al, hJ, hG⟩ := hj
      obtain ⟨d1, d2, d3, d4⟩ := ix (FK.zero .stop) hrl j0 k
      rw [d4, okS] at hJ
      rw [d1]; dsimp only; rw [d2]
      generalize r.stops.getD j.toNat (FK.zero .stop) = s at *
      refine ⟨⟨j0, k⟩, d3, fun b1 => ⟨fun b2 => ⟨fun b3 => right_no fun hR => ?_, fun b3 => ⟨⟨by omega, al ++ [s], ?_, seen_more hG b3⟩, by omega⟩⟩, fun b2 => right_no fun hR => by have := (hJ.2 hR.2).1.1; omega⟩, fun b1 => right_no fun hR => by have := (hJ.2 hR.2).1.1; omega⟩
      · have := (hJ.2 hR.2).1.1.2.2
        rcases hG s with ⟨a, b⟩ | ⟨a, b⟩
        · omega
        · exact this b
      · rw [← hJ]
        have hn : s ∉ al := by rcases hG s with ⟨a, b⟩ | ⟨a, b⟩; exact b; omega
        simp only [List.append_assoc, List.singleton_append]
        exact ⟨fun q => ⟨⟨⟨b1, b2, hn⟩, q.1⟩, q.2⟩, fun q => ⟨q.1.2, q.2⟩⟩
    · obtain ⟨j0, al, hJ, hG⟩ := hj
      rw [ixEnd k, List.append_nil] at hJ
      exact ⟨⟨by omega, al, ⟨fun q => hJ.1 ⟨trivial, q⟩, fun q => (hJ.2 q).2⟩, hG⟩, by omega⟩
  · obtain ⟨h0, all, hI, hS⟩ := hi
    rw [ixEnd h] at hI
    exact right_yes ⟨by omega, hI.1 trivial⟩
theorem pright_t : Told Try.prog 37 pright_con := pright_told csOk_nil pright_ok
theorem findP_step {id : Int} {r : Route} {l : List Route} {w : Option Spot} (h : findP id (r :: l) = w) :
    (0 ≤ whereS ⟨id, false⟩ r.stops → w = some (spotAt r id)) ∧ (0 ≤ whereS ⟨id, true⟩ r.stops → w = some (spotAt r id)) ∧ (whereS ⟨id, false⟩ r.stops < 0 → whereS ⟨id, true⟩ r.stops < 0 → findP id l = w) := by
  rw [findP, show (spotAt r id).pick = whereS ⟨id, false⟩ r.stops from rfl, show (spotAt r id).drop = whereS ⟨id, true⟩ r.stops from rfl] at h
  refine ⟨fun a => ?_, fun a => ?_, fun a b => ?_⟩
  · rw [if_pos (Or.inl a)] at h; exact h.symm
  · rw [if_pos (Or.inr a)] at h; exact h.symm
  · rw [if_neg (by omega)] at h; exact h
theorem pfind_ok : pfind_vc := by
  unfold pfind_vc
  simp only [bad_false, int0, nilOf, decide_eq_true_eq, decide_eq_false_iff_not, Bool.not_eq_true', Bool.not_eq_false', Bool.not_true, Bool.not_false, Bool.false_eq_true, Bool.true_eq_false, eq_self, true_and, and_true, false_or, or_false, false_implies, true_implies, implies_true, Int.not_lt, Int.not_le, gt_iff_lt, ge_iff_le, ne_eq]
  rintro x ⟨hl, hr⟩ id
  have hl := hl.le
  refine ⟨fun i => 0 ≤ i ∧ findP id (x.drop i.toNat) = findP id x, fun i => x.length - i.toNat, ⟨by omega, rfl⟩, fun i hi => ⟨fun h => ?_, fun h => ?_⟩⟩
  · obtain ⟨h0, hI⟩ := hi
    obtain ⟨e1, e2, e3, e4⟩ := ix rz hl h0 h
    rw [e4] at hI
    obtain ⟨s1, s2, s3⟩ := findP_step hI
    rw [e1]; dsimp only; rw [e2]
    refine ⟨⟨h0, h⟩, e3, fun a => ⟨fun b => ?_, fun b => ⟨⟨by omega, s3 a b⟩, by omega⟩⟩, fun a => ?_⟩
    · rw [s2 b]; exact ⟨⟨rfl, rfl, rfl, rfl⟩, rfl⟩
    · rw [s1 a]; exact ⟨⟨rfl, rfl, rfl, rfl⟩, rfl⟩
  · obtain ⟨h0, hI⟩ := hi
    rw [ixEnd h] at hI
    rw [← hI]; exact ⟨⟨rfl, rfl, rfl, rfl⟩, rfl⟩
theorem pfind_t : Told Try.prog 36 pfind_con := pfind_told (csOk_cons sidx_t csOk_nil) pfind_ok
theorem findD_step {id : Int} {r : Driver} {l : List Driver} {w : Option Driver} (h : findD id (r :: l) = w) : (r.id = id → w = some r) ∧ (¬ r.id = id → findD id l = w) := by
  rw [findD] at h
  refine ⟨fun a => ?_, fun a => ?_⟩
  · rw [if_pos a] at h; exact h.symm
  · rw [if_neg a] at h; exact h
theorem findD_none {id : Int} {l : List Driver} : findD id l = none ↔ ∀ d ∈ l, d.id ≠ id := by
  induction l with
  | nil => simp [findD]
  | cons d l ih => rw [findD]; split <;> simp_all
theorem cdriver_ok : cdriver_vc := by
  unfold cdriver_vc
  simp only [bad_false, int0, nilOf, decide_eq_true_eq, decide_eq_false_iff_not, Bool.not_eq_true', Bool.not_eq_false', Bool.not_true, Bool.not_false, Bool.false_eq_true, Bool.true_eq_false, eq_self, true_and, and_true, false_or, or_false, false_implies, true_implies, implies_true, Int.not_lt, Int.not_le, gt_iff_lt, ge_iff_le, ne_eq]
  rintro x hl id
  have hl := hl.le
  refine ⟨fun i => 0 ≤ i ∧ findD id (x.drop i.toNat) = findD id x, fun i => x.length - i.toNat, ⟨by omega, rfl⟩, fun i hi => ⟨fun h => ?_, fun h => ?_⟩⟩
  · obtain ⟨h0, hI⟩ := hi
    obtain ⟨e1, e2, e3, e4⟩ := ix (FK.zero .driver) hl h0 h
    rw [e4] at hI
    obtain ⟨s1, s2⟩ := findD_step hI
    rw [e1]; dsimp only; rw [e2]
    refine ⟨⟨h0, h⟩, e3, fun a => ?_, fun a => ⟨⟨by omega, s2 a⟩, by omega⟩⟩
    rw [s1 a]; exact ⟨⟨rfl, rfl, rfl, rfl, rfl, rfl⟩, rfl⟩
  · obtain ⟨h0, hI⟩ := hi
    rw [ixEnd h] at hI
    rw [← hI]; exact ⟨⟨rfl, rfl, rfl, rfl, rfl, rfl⟩, rfl⟩
theorem cdriver_t : Told Try.prog 40 cdriver_con := cdriver_told csOk_nil cdriver_ok
theorem rCdriver_ok : rCdriver_vc := by
  unfold rCdriver_vc
  simp only [bad_false, int0, nilOf, decide_eq_true_eq, decide_eq_false_iff_not, Bool.not_eq_true', Bool.not_eq_false', Bool.not_true, Bool.not_false, Bool.false_eq_true, Bool.true_eq_false, eq_self, true_and, and_true, false_or, or_false, false_implies, true_implies, implies_true, Int.not_lt, Int.not_le, gt_iff_lt, ge_iff_le, ne_eq]
  rintro x hl id
  have hl := hl.le
  refine ⟨fun i => 0 ≤ i ∧ findD id (x.drop i.toNat) = findD id x, fun i => x.length - i.toNat, ⟨by omega, rfl⟩, fun i hi => ⟨fun h => ?_, fun h => ?_⟩⟩
  · obtain ⟨h0, hI⟩ := hi
    obtain ⟨e1, e2, e3, e4⟩ := ix (FK.zero .driver) hl h0 h
    rw [e4] at hI
    obtain ⟨s1, s2⟩ := findD_step hI
    rw [e1]; dsimp only; rw [e2]
    refine ⟨⟨h0, h⟩, e3, fun a => ⟨⟨h0, h⟩, e3, ?_⟩, fun a => ⟨⟨by omega, s2 a⟩, by omega⟩⟩
    rw [s1 a]; exact ⟨⟨rfl, rfl, rfl, rfl, rfl, rfl⟩, rfl⟩
  · obtain ⟨h0, hI⟩ := hi
    rw [ixEnd h] at hI
    rw [← hI]; exact ⟨⟨rfl, rfl, rfl, rfl, rfl, rfl⟩, rfl⟩
theorem rCdriver_t : Told Try.prog 73 rCdriver_con := rCdriver_told csOk_nil rCdriver_ok
theorem numberP_bound (id : Int) (l : List Route) : -1 ≤ numberP id l ∧ numberP id l < l.length := by
  induction l with
  | nil => simp [numberP]
  | cons x l ih =>
    rw [numberP]
    split
    · simp only [List.length_cons]; omega
    · split <;> simp only [List.length_cons] <;> omega
theorem numberP_step {id : Int} {r : Route} {l : List Route} {i : Nat} {w : Int} (h : w = if numberP id (r :: l) < 0 then -1 else numberP id (r :: l) + i) : (r.driver = id → (i : Int) = w) ∧ (¬ r.driver = id → w = if numberP id l < 0 then -1 else numberP id l + ((i + 1 : Nat) : Int)) := by
  have hb := (numberP_bound id l).1
  rw [numberP] at h
  constructor
  · intro e; rw [if_pos e] at h; simpa using h.symm
  · intro e; rw [if_neg e] at h
    by_cases h2 : numberP id l < 0
    · rw [if_pos h2] at h ⊢; simpa using h
    · rw [if_neg h2] at h ⊢; rw [if_neg (by omega)] at h; omega
theorem routed_number {id : Int} {l : List Route} : (numberP id l < 0 → routed id l = none) ∧ (0 ≤ numberP id l → routed id l = some (l.getD (numberP id l).toNat rz) ∧ (l.getD (numberP id l).toNat rz).driver = id) := by
  induction l with
  | nil => simp [numberP, routed]
  | cons r l ih =>
    rw [numberP, routed]
    by_cases e : r.driver = id
    · rw [if_pos e, if_pos e]; simp [e]
    · rw [if_neg e, if_neg e]
      by_cases h2 : numberP id l < 0
      · rw [if_pos h2]; simp [ih.1 h2]
      · rw [if_neg h2]
        have h3 : 0 ≤ numberP id l := by omega
        refine ⟨fun q => by omega, fun q => ?_⟩
        rw [show (numberP id l + 1).toNat = (numberP id l).toNat + 1 by omega, List.getD_cons_succ]
        exact ih.2 h3
end Go.Eng

/- Plans: the document's own Right; what goes together; what is kept: it is so. -/
set_option linter.unusedVariables false
set_option linter.unusedSimpArgs false
namespace Go.Eng
open Go Go.Proofs
def lastD (x : List Route) (i : Int) : Int := if 0 < i then (x.getD (i - 1).toNat rz).driver else 0
theorem rPright_ok : rPright_vc := by
  unfold rPright_vc
  simp only [bad_false, int0, nilOf, decide_eq_true_eq, decide_eq_false_iff_not, Bool.not_eq_true', Bool.not_eq_false', Bool.not_true, Bool.not_false, Bool.false_eq_true, Bool.true_eq_false, eq_self, true_and, and_true, false_or, or_false, false_implies, true_implies, implies_true, Int.not_lt, Int.not_le, gt_iff_lt, ge_iff_le, ne_eq]
  rintro x ⟨hl, hr⟩
  have hl := hl.le
  refine ⟨fun h8 => right_no fun hR => by have := hR.1; omega, fun h8 => ⟨fun all i => 0 ≤ i ∧ 0 ≤ lastD x i ∧ (okR (lastD x i) all (x.drop i.toNat) ↔ okR 0 [] x) ∧ all.length ≤ 80 * i.toNat, fun _ i => x.length - i.toNat, ⟨by omega, by simp [lastD], Iff.rfl, by simp⟩, fun all i hi => ⟨fun h => ?_, fun h => ?_⟩⟩⟩
  · obtain ⟨h0, hL, hI, hA⟩ := hi
    obtain ⟨e1, e2, e3, e4⟩ := ix rz hl h0 h
    have hrl := route_len hr _ (getD_mem rz e3)
    rw [e4, okR] at hI
    have hlast : lastD x (i + 1) = (x.getD i.toNat rz).driver := by unfold lastD; rw [if_pos (by omega), show i + 1 - 1 = i by omega]
    rw [e1]; dsimp only; rw [e2, hlast]
    change List Route at x
    have hprev : 0 < i → (wrap (i - 1) = i - 1 ∧ (i - 1).toNat < x.length ∧ (x.getD (i - 1).toNat rz).driver = lastD x i) := fun q => ⟨wrap_id (by omega) (by omega), by omega, by unfold lastD; rw [if_pos q]⟩
    have hfst : i ≤ 0 → lastD x i = 0 := fun q => by unfold lastD; rw [if_neg (by omega)]
    generalize lastD x i = last at *
    generalize x.getD i.toNat { driver := 0, served := 0, stops := [] } = r at *
    unfold okR1 at hI
    refine ⟨⟨h0, h⟩, e3, fun a1 => ⟨fun a2 => ⟨fun hp => ?A, fun hp => ?B⟩, fun a2 => right_no fun hR => by have := hI.2 hR.2; omega⟩, fun a1 => right_no fun hR => by have := hI.2 hR.2; omega⟩
    case' A =>
      obtain ⟨p1, p2, p3⟩ := hprev hp
      rw [p1, p3]
      refine ⟨⟨by omega, by omega⟩, p2, fun a3 => ?C, fun a3 => right_no fun hR => by have := hI.2 hR.2; omega⟩
    case' B => have a3 : last < r.driver := by rw [hfst hp]; omega
    all_goals
      refine ⟨fun b1 => ⟨fun b2 => ⟨fun b3 => right_no fun hR => by have := hI.2 hR.2; omega, fun b3 => ?_⟩, fun b2 => right_no fun hR => by have := hI.2 hR.2; omega⟩, fun b1 => right_no fun hR => by have := hI.2 hR.2; omega⟩
      have hI' : (okS all r.stops ∧ okR r.driver (all ++ r.stops) (x.drop (i.toNat + 1))) ↔ okR 0 [] x := by
        rw [← hI]; exact ⟨fun q => ⟨⟨a3, a2, by omega, b2, b3⟩, q⟩, fun q => q.2⟩
      refine ⟨fun al j => 0 ≤ j ∧ j ≤ r.stops.length ∧ ((okS al (r.stops.drop j.toNat) ∧ okR r.driver (al ++ r.stops.drop j.toNat) (x.drop (i.toNat + 1))) ↔ okR 0 [] x) ∧ al.length ≤ 80 * i.toNat + j.toNat, fun _ j => r.stops.length - j.toNat, ⟨by omega, by omega, by simpa using hI', by simpa using hA⟩, fun al j hj => ⟨fun k => ?_, fun k => ?_⟩⟩
      · obtain ⟨j0, j1, hJ, hB⟩ := hj
        obtain ⟨d1, d2, d3, d4⟩ := ix (FK.zero .stop) hrl j0 k
        rw [d4, okS] at hJ
        rw [d1]; dsimp only; rw [d2]
        generalize r.stops.getD j.toNat (FK.zero .stop) = s at *
        refine ⟨⟨j0, k⟩, d3, fun q1 => ⟨fun q2 => right_no fun hR => by have := (hJ.2 hR.2).1.1; omega, fun q2 => ?_⟩, fun q1 => right_no fun hR => by have := (hJ.2 hR.2).1.1; omega⟩
        refine ⟨fun t => 0 ≤ t ∧ s ∉ al.take t.toNat, fun t => al.length - t.toNat, ⟨by omega, by simp⟩, fun t ht => ⟨fun g => ?_, fun g => ?_⟩⟩
        · obtain ⟨t0, hT⟩ := ht
          obtain ⟨g1, g2, g3, g4⟩ := ix (FK.zero .stop) (by omega) t0 g
          rw [g1]; dsimp only; rw [g2]
          have hm := getD_mem (FK.zero .stop) g3
          refine ⟨⟨t0, g⟩, g3, fun y => right_no fun hR => ?_, fun y => ⟨⟨by omega, ?_⟩, by omega⟩⟩
          · rw [(elEqS _ _).1 y] at hm
            exact (hJ.2 hR.2).1.1.2.2 hm
          · have hy := (elEqS' _ _).1 y
            rw [List.take_succ_eq_append_getElem g3, List.mem_append, ← getD_get (FK.zero .stop) g3]
            rintro (z | z)
            · exact hT z
            · exact hy (List.mem_singleton.1 z).symm
        · obtain ⟨t0, hT⟩ := ht
          rw [List.take_of_length_le (by omega)] at hT
          refine ⟨by simp; omega, ⟨by omega, by omega, ?_, by simp; omega⟩, by omega⟩
          rw [← hJ]
          simp only [List.append_assoc, List.singleton_append]
          exact ⟨fun q => ⟨⟨⟨q1, q2, hT⟩, q.1⟩, q.2⟩, fun q => ⟨q.1.2, q.2⟩⟩
      · obtain ⟨j0, j1, hJ, hB⟩ := hj
        rw [ixEnd k, List.append_nil] at hJ
        exact ⟨⟨by omega, by omega, ⟨fun q => hJ.1 ⟨trivial, q⟩, fun q => (hJ.2 q).2⟩, by omega⟩, by omega⟩
  · obtain ⟨h0, hL, hI, hA⟩ := hi
    rw [ixEnd h] at hI
    exact right_yes ⟨by omega, hI.1 trivial⟩
theorem rPright_t : Told Try.prog 79 rPright_con := rPright_told csOk_nil rPright_ok
theorem all_range {p : Nat → Bool} {n : Nat} : (List.range n).all p = true ↔ ∀ k, k < n → p k = true := by simp
theorem wellP_iff {m : Option MapD} {ds : List Driver} {os : List Order} {p : List Route} : wellP m ds os p = true ↔ m.isSome = true ∧ ds.length ≤ 8 ∧ knownO m os = true ∧ rightP p = true ∧ ∀ k, k < ds.length → okD m ds k = true := by
  unfold wellP
  simp [and_assoc]
theorem well_no {m : Option MapD} {ds : List Driver} {os : List Order} {p : List Route} (h : ¬ wellP m ds os p = true) : false = wellP m ds os p := by simpa using h
theorem okD_iff {m : Option MapD} {ds : List Driver} {k : Nat} : okD m ds k = true ↔ driverE m (ds.getD k (FK.zero .driver)) = 0 ∧ (findD (ds.getD k (FK.zero .driver)).id (ds.take k)) = none := by
  simp [okD]
theorem ctog_ok : ctog_vc := by
  unfold ctog_vc
  simp only [bad_false, int0, nilOf, decide_eq_true_eq, decide_eq_false_iff_not, Bool.not_eq_true', Bool.not_eq_false', Bool.not_true, Bool.not_false, Bool.false_eq_true, Bool.true_eq_false, eq_self, true_and, and_true, false_or, or_false, false_implies, true_implies, implies_true, Int.not_lt, Int.not_le, gt_iff_lt, ge_iff_le, ne_eq]
  refine ⟨fun ds _ os _ p _ _ => rfl, ?_⟩
  intro m hm ds hd os ho p hp hmo
  have hd := hd.le
  refine ⟨fun a => ⟨hmo, fun b => ⟨fun c => well_no fun hw => by have := (wellP_iff.1 hw).2.2.2.1; exact absurd (c.symm.trans this) (by decide), fun c => ?_⟩, fun b => well_no fun hw => by have := (wellP_iff.1 hw).2.2.1; exact absurd (b.symm.trans this) (by decide)⟩, fun a => well_no fun hw => by have := (wellP_iff.1 hw).2.1; omega⟩
  refine ⟨fun i => 0 ≤ i ∧ i ≤ ds.length ∧ ∀ k, k < i.toNat → okD (some m) ds k = true, fun i => ds.length - i.toNat, ⟨by omega, by omega, fun k hk => by simp at hk⟩, fun i hi => ⟨fun h => ?_, fun h => ?_⟩⟩
  · obtain ⟨h0, h1, hI⟩ := hi
    obtain ⟨e1, e2, e3, e4⟩ := ix (FK.zero .driver) hd h0 h
    rw [e1]; dsimp only; rw [e2]
    have hp : part ds (Int.toNat 0) (i.toNat - Int.toNat 0) = ds.take i.toNat := by simp [part]
    rw [hp]
    refine ⟨⟨h0, h⟩, e3, ⟨by omega, by omega, by omega⟩, by simp; omega, fun q => ⟨hmo, fun r => well_no fun hw => ?_, fun r => ⟨⟨by omega, by omega, fun k hk => ?_⟩, by omega⟩⟩, fun q => well_no fun hw => ?_⟩
    · exact r (okD_iff.1 ((wellP_iff.1 hw).2.2.2.2 _ e3)).1
    · by_cases e : k < i.toNat
      · exact hI k e
      · rw [show k = i.toNat by omega, okD_iff]; exact ⟨r, by simpa using q⟩
    · have := (okD_iff.1 ((wellP_iff.1 hw).2.2.2.2 _ e3)).2
      rw [this] at q; cases q
  · obtain ⟨h0, h1, hI⟩ := hi
    exact (wellP_iff.2 ⟨rfl, by omega, b, c, fun k hk => hI k (by omega)⟩).symm
theorem ctog_t : Told Try.prog 39 ctog_con := ctog_told (csOk_cons known_t (csOk_cons pright_t (csOk_cons cdriver_t (csOk_cons driver_t csOk_nil)))) ctog_ok
theorem rWell_ok : rWell_vc := by
  unfold rWell_vc
  simp only [bad_false, int0, nilOf, decide_eq_true_eq, decide_eq_false_iff_not, Bool.not_eq_true', Bool.not_eq_false', Bool.not_true, Bool.not_false, Bool.false_eq_true, Bool.true_eq_false, eq_self, true_and, and_true, false_or, or_false, false_implies, true_implies, implies_true, Int.not_lt, Int.not_le, gt_iff_lt, ge_iff_le, ne_eq]
  refine ⟨fun ds _ os _ p _ _ => rfl, ?_⟩
  intro m hm ds hd os ho p hp hmo
  have hd := hd.le
  refine ⟨fun a => ⟨fun b => ⟨fun c => well_no fun hw => by have := (wellP_iff.1 hw).2.2.2.1; exact absurd (c.symm.trans this) (by decide), fun c => ?_⟩, fun b => well_no fun hw => by have := (wellP_iff.1 hw).2.2.1; exact absurd (b.symm.trans this) (by decide)⟩, fun a => well_no fun hw => by have := (wellP_iff.1 hw).2.1; omega⟩
  refine ⟨fun i => 0 ≤ i ∧ i ≤ ds.length ∧ ∀ k, k < i.toNat → okD (some m) ds k = true, fun i => ds.length - i.toNat, ⟨by omega, by omega, fun k hk => by simp at hk⟩, fun i hi => ⟨fun h => ?_, fun h => ?_⟩⟩
  · obtain ⟨h0, h1, hI⟩ := hi
    obtain ⟨e1, e2, e3, e4⟩ := ix (FK.zero .driver) hd h0 h
    rw [e1]; dsimp only; rw [e2]
    refine ⟨⟨h0, h⟩, e3, fun r => well_no fun hw => r (okD_iff.1 ((wellP_iff.1 hw).2.2.2.2 _ e3)).1, fun r => ?_⟩
    refine ⟨fun j => 0 ≤ j ∧ j ≤ i ∧ ∀ k, k < j.toNat → (ds.getD k (FK.zero .driver)).id ≠ (ds.getD i.toNat (FK.zero .driver)).id, fun j => ds.length - j.toNat, ⟨by omega, by omega, fun k hk => by simp at hk⟩, fun j hj => ⟨fun g => ?_, fun g => ?_⟩⟩
    · obtain ⟨j0, j1, hJ⟩ := hj
      obtain ⟨d1, d2, d3, d4⟩ := ix (FK.zero .driver) hd j0 (show j < ds.length by omega)
      rw [d1]; dsimp only; rw [d2]
      refine ⟨⟨j0, by omega⟩, d3, ⟨h0, h⟩, e3, fun q => well_no fun hw => ?_, fun q => ⟨⟨by omega, by omega, fun k hk => ?_⟩, by omega⟩⟩
      · have hn := findD_none.1 (okD_iff.1 ((wellP_iff.1 hw).2.2.2.2 _ e3)).2
        refine hn (ds.getD j.toNat (FK.zero .driver)) ?_ q
        rw [getD_get _ d3]
        exact List.mem_take_iff_getElem.2 ⟨j.toNat, by omega, rfl⟩
      · by_cases e : k < j.toNat
        · exact hJ k e
        · rw [show k = j.toNat by omega]; exact q
    · obtain ⟨j0, j1, hJ⟩ := hj
      refine ⟨⟨by omega, by omega, fun k hk => ?_⟩, by omega⟩
      by_cases e : k < i.toNat
      · exact hI k e
      · rw [show k = i.toNat by omega, okD_iff]
        refine ⟨r, findD_none.2 fun d hd' => ?_⟩
        obtain ⟨t, ht, rfl⟩ := List.mem_take_iff_getElem.1 hd'
        have := hJ t (by omega)
        rwa [getD_get _ (show t < ds.length by omega)] at this
  · obtain ⟨h0, h1, hI⟩ := hi
    exact (wellP_iff.2 ⟨rfl, by omega, b, c, fun k hk => hI k (by omega)⟩).symm
theorem rWell_t : Told Try.prog 72 rWell_con := rWell_told (csOk_cons rKnown_t (csOk_cons rPright_t (csOk_cons rDriver_t csOk_nil))) rWell_ok
theorem keptP_iff {a b : List Route} : keptP a b = true ↔ KeptP a b := by simp [keptP]
theorem kept_no {a b : List Route} (h : ¬ KeptP a b) : false = keptP a b := by
  cases e : keptP a b with
  | false => rfl
  | true => exact absurd (keptP_iff.1 e) h
theorem kept_yes {a b : List Route} (h : KeptP a b) : true = keptP a b := (keptP_iff.2 h).symm
theorem right_ne {p : List Route} (h : rightP p = false) : ¬ RightP p := fun q => by rw [rightP_iff.2 q] at h; cases h
theorem okR_mem {p : List Route} {last : Int} {all : List Stop} (h : okR last all p) : ∀ r ∈ p, last < r.driver ∧ r.driver ≤ 1000000 ∧ r.stops.length ≤ 80 ∧ 0 ≤ r.served ∧ r.served ≤ r.stops.length := by
  induction p generalizing last all with
  | nil => simp
  | cons a l ih =>
    intro r hr
    rcases List.mem_cons.1 hr with rfl | hr
    · exact h.1
    · have := ih h.2.2 r hr
      have := h.1.1
      refine ⟨by omega, by omega, by omega, by omega, by omega⟩
theorem routed_mem {id : Int} {p : List Route} {r : Route} (h : routed id p = some r) : r ∈ p ∧ r.driver = id := by
  induction p with
  | nil => cases h
  | cons a l ih =>
    rw [routed] at h
    split at h
    · cases h; simp [*]
    · exact ⟨List.mem_cons_of_mem _ (ih h).1, (ih h).2⟩
theorem routed_none {id : Int} {p : List Route} : routed id p = none ↔ ∀ r ∈ p, r.driver ≠ id := by
  induction p with
  | nil => simp [routed]
  | cons d l ih => rw [routed]; split <;> simp_all
theorem routed_drop {id : Int} {p : List Route} {i : Nat} (h : i < p.length) (hn : routed id (p.take i) = none) (he : (p.getD i rz).driver = id) : routed id p = some (p.getD i rz) := by
  induction p generalizing i with
  | nil => simp at h
  | cons a l ih =>
    rw [routed]
    cases i with
    | zero => rw [List.getD_cons_zero] at he ⊢; rw [if_pos he]
    | succ i =>
      rw [List.take_succ_cons, routed] at hn
      split at hn
      · cases hn
      · rename_i hne
        rw [if_neg hne, List.getD_cons_succ]
        exact ih (by simpa using h) hn (by simpa using he)
theorem take_same {a b : List Stop} {n : Nat} (ha : n ≤ a.length) (hb : n ≤ b.length) : a.take n = b.take n ↔ ∀ k, k < n → a.getD k (FK.zero .stop) = b.getD k (FK.zero .stop) := by
  constructor
  · intro h k hk
    rw [getD_get _ (show k < a.length by omega), getD_get _ (show k < b.length by omega)]
    have h1 : (a.take n)[k]'(by rw [List.length_take]; omega) = (b.take n)[k]'(by rw [List.length_take]; omega) := by simp only [h]
    simpa using h1
  · intro h
    apply List.ext_getElem
    · simp only [List.length_take]; omega
    · intro k h1 h2
      rw [List.length_take] at h1
      have := h k (by omega)
      rw [getD_get _ (show k < a.length by omega), getD_get _ (show k < b.length by omega)] at this
      simpa using this
/-- The rows of the later plan, up to one. -/
def KeptN (old new : List Route) (i : Nat) : Prop := ∀ k, k < i → keptR old (new.getD k rz)
theorem keptN_more {old new : List Route} {i : Nat} (h : KeptN old new i) (hk : keptR old (new.getD i rz)) : KeptN old new (i + 1) := fun k hk' => by
  by_cases e : k < i
  · exact h k e
  · rw [show k = i by omega]; exact hk
def HasN (old new : List Route) (i : Nat) : Prop := ∀ k, k < i → (routed (old.getD k rz).driver new).isSome = true
theorem hasN_more {old new : List Route} {i : Nat} (h : HasN old new i) (hk : (routed (old.getD i rz).driver new).isSome = true) : HasN old new (i + 1) := fun k hk' => by
  by_cases e : k < i
  · exact h k e
  · rw [show k = i by omega]; exact hk
theorem kept_all {old new : List Route} : KeptP old new ↔ RightP old ∧ RightP new ∧ HasN old new old.length ∧ KeptN old new new.length := by
  unfold KeptP HasN KeptN
  rw [forall_getD rz, forall_getD rz (l := new)]
/-- One route of the later plan beside the earlier one's. -/
theorem keptR_iff {old : List Route} {r o : Route} (ho : (routed r.driver old).getD ⟨0, 0, []⟩ = o) (hr : r.served ≤ r.stops.length) (hs : r.served = o.served) (hol : o.served ≤ o.stops.length) (h0 : 0 ≤ r.served) : keptR old r ↔ ∀ k, k < r.served.toNat → r.stops.getD k (FK.zero .stop) = o.stops.getD k (FK.zero .stop) := by
  unfold keptR
  rw [ho, take_same (by omega) (by omega)]
  exact ⟨fun h => h.2, fun h => ⟨hs, h⟩⟩
end Go.Eng

/- Certificates, in plain words; what the functions tell. -/
set_option linter.unusedVariables false
set_option linter.unusedSimpArgs false
namespace Go.Eng
open Go Go.Proofs
def makeGo (m : MapD) (ds : List Driver) (os : List Order) : Nat → List Route → Except Fault (List (List Visit))
  | _, [] => .ok []
  | i, r :: l => match findD r.driver ds with
    | none => .error ⟨i, 8⟩
    | some d => match drive (some m) d os r.stops with
      | .error f => .error ⟨i, f.why⟩
      | .ok v => match makeGo m ds os (i + 1) l with
        | .error f => .error f
        | .ok vs => .ok (v :: vs)
noncomputable def makeP (m : Option MapD) (ds : List Driver) (os : List Order) (p : List Route) : Except Fault (List (List Visit)) := match m with
  | none => .error ⟨0, 1⟩
  | some x => if wellP m ds os p then makeGo x ds os 0 p else .error ⟨0, 1⟩
def certR (r : Except Fault (List (List Visit))) : List (List Visit) := match r with | .ok vs => vs | .error _ => []
def cfauR (r : Except Fault (List (List Visit))) : Fault := match r with | .ok _ => ⟨0, 0⟩ | .error f => f
def Visit.stop (v : Visit) : Stop := ⟨v.order, v.drop⟩
def loadN (o : Order) (v : Visit) (load : Int) : Int := if v.drop then load - o.size else load + o.size
def lateN (m : MapD) (d : Driver) (o : Order) (left at' : Int) (v : Visit) : Bool :=
  decide (v.arrive ≠ left + tm m at' (siteOf o v.drop).pl) || !(begin_ (siteOf o v.drop).win v.arrive).2 || decide (v.start ≠ (begin_ (siteOf o v.drop).win v.arrive).1) || decide (v.leave ≠ (begin_ (siteOf o v.drop).win v.arrive).1 + (siteOf o v.drop).sv) || decide (d.hi < v.leave)
def nextE (m : MapD) (d : Driver) (o : Order) (left load : Int) (v : Visit) (at' : Int) : Int :=
  if v.load ≠ loadN o v load ∨ d.room < loadN o v load then 14 else if lateN m d o left at' v then 15 else 0
def checkGo (m : MapD) (d : Driver) (os : List Order) : List Stop → List Visit → Pos → Int
  | _, [], p => if p.load = 0 then 0 else 18
  | ah, v :: l, p => match findO os v.order with
    | none => 8
    | some o => if v.drop && !stands ah ⟨v.order, false⟩ then 17 else if nextE m d o p.now p.load v p.pos ≠ 0 then nextE m d o p.now p.load v p.pos
      else checkGo m d os (ah ++ [v.stop]) l ⟨v.leave, (siteOf o v.drop).pl, v.load⟩
def checkedE (m : MapD) (d : Driver) (os : List Order) (ss : List Stop) (l : List Visit) : Int := if l.map Visit.stop = ss then checkGo m d os [] l ⟨d.lo, d.home, 0⟩ else 4
def checkAll (m : MapD) (ds : List Driver) (os : List Order) : Nat → List Route → List (List Visit) → Fault
  | i, r :: p, l :: c => match findD r.driver ds with
    | none => ⟨i, 8⟩
    | some d => if checkedE m d os r.stops l ≠ 0 then ⟨i, checkedE m d os r.stops l⟩ else checkAll m ds os (i + 1) p c
  | _, _, _ => ⟨0, 0⟩
noncomputable def checkP (m : Option MapD) (ds : List Driver) (os : List Order) (p : List Route) (c : List (List Visit)) : Fault := match m with
  | none => ⟨0, 1⟩
  | some x => if wellP m ds os p then (if c.length = p.length then checkAll x ds os 0 p c else ⟨0, 4⟩) else ⟨0, 1⟩
def CertFits (c : List (List Visit)) : Prop := c.length * 24 ≤ 140737488351232 ∧ ∀ l ∈ c, l.length * 48 ≤ 140737488351232
structure NextPre (m : MapD) (o : Order) (ahead v : Visit) (at' : Int) : Prop where
  map : MapOk m
  site : SiteOk m (siteOf o v.drop)
  at_ : AtOk m at' ahead.leave
  load : -1000000 ≤ ahead.load ∧ ahead.load ≤ 1000000
  size : 0 ≤ o.size ∧ o.size ≤ 1000
structure CheckPre (m : MapD) (d : Driver) (os : List Order) (ss : List Stop) : Prop where
  timed : TimedPre m d os ss
  nodup : ss.Nodup
/-! ### Contracts -/
noncomputable def cmake_con : Con := ⟨[.q .map 101, .c (.a (.f .driver)), .c (.a (.f .order)), .c (.a .route)], fun m ds os p => ⟨some (MapOkO m), [⟨none, [.c (.od (.rows .visit) 83 (certR (makeP m ds os p))), .r (SK.enc (.f .fault) (cfauR (makeP m ds os p)))]⟩]⟩⟩
noncomputable def cmake_cs : Cons := [(39, ctog_con), (40, cdriver_con), (41, timed_con), (20, good_con)]
def cmake_la : List (Nat × LA) := [(5, ⟨[0, 1, 2, 9, 24, 25], [.appd 10 (.rows .visit) 83, .i 26]⟩)]
noncomputable def rCmake_con : Con := ⟨[.q .map 115, .c (.a (.f .driver)), .c (.a (.f .order)), .c (.a .route)], fun m ds os p => ⟨some (MapOkO m), [⟨none, [.c (.od (.rows .visit) 83 (certR (makeP m ds os p))), .r (SK.enc (.f .fault) (cfauR (makeP m ds os p)))]⟩]⟩⟩
noncomputable def rCmake_cs : Cons := [(72, rWell_con), (73, rCdriver_con), (46, rDrive_con)]
def rCmake_la : List (Nat × LA) := [(5, ⟨[0, 1, 2, 3, 9], [.appd 10 (.rows .visit) 83, .i 11]⟩)]
end Go.Eng

/- The conditions of functions, as print.. of the engine told them. -/
set_option linter.unusedVariables false
namespace Go.Eng
open Go Go.Proofs
def cmake_vc : Prop :=
  (∀ (x : List Driver), LenOk x.length → ∀ (x_2 : List Order), LenOk x_2.length → ∀ (x_4 : List Route), (LenOk x_4.length ∧ ∀ (r : Route), List.Mem r x_4 → LenOk r.stops.length) → (∀ (x : MapD), none = some x → MapOk x) → (∀ (x : MapD), none
  = some x → MapOk x) ∧ ((!wellP none x x_2 x_4) = true → ((0 : Int) = (cfauR (makeP none x x_2 x_4)).spot ∧ (1 : Int) = (cfauR (makeP none x x_2 x_4)).why) ∧ certR (makeP none x x_2 x_4) = nilOf (List Visit)) ∧ ((!wellP none x x_2 x_4) =
  false → ∃ (inv : List (List Visit) → Int → Prop), ∃ (μ : List (List Visit) → Int → Nat), ((((↑x_4.length : Int) = (↑x_4.length : Int) ∧ (0 : Int) = (0 : Int)) ∧ ((0 : Int) = (0 : Int) ∧ (0 : Int) = (0 : Int)) ∧ x_4 = x_4 ∧ nilOf (List
  Visit) = nilOf (List Visit) ∧ x_2 = x_2 ∧ x = x) ∧ inv [] (0 : Int)) ∧ ∀ (x_8 : List (List Visit)) (x_9 : Int), inv x_8 x_9 → (decide (x_9 < (↑x_4.length : Int)) = true → ((0 : Int) ≤ x_9 ∧ x_9 < (↑x_4.length : Int)) ∧ x_9.toNat <
  x_4.length ∧ ((!(findD (x_4.getD x_9.toNat (Route.mk (0 : Int) (0 : Int) [])).driver x).isSome) = true → (x_9 = (cfauR (makeP none x x_2 x_4)).spot ∧ (8 : Int) = (cfauR (makeP none x x_2 x_4)).why) ∧ certR (makeP none x x_2 x_4) = nilOf
  (List Visit)) ∧ ((!(findD (x_4.getD x_9.toNat (Route.mk (0 : Int) (0 : Int) [])).driver x).isSome) = false → Bad (nat_lit 4) Oper (Oper.mk (some (nat_lit 48)) (Op.call (Call.mk (Callee.value (Operand.func (nat_lit 41))) (Array.mk
  [Operand.tmp (nat_lit 43), Operand.tmp (nat_lit 44), Operand.tmp (nat_lit 45), Operand.tmp (nat_lit 47)]) (Array.mk [nat_lit 35, nat_lit 44, nat_lit 24, nat_lit 39]))) (nat_lit 84) "cert.go:47" (Array.mk [Edge.mk (nat_lit 0) Ground.data,
  Edge.mk (nat_lit 1) Ground.data, Edge.mk (nat_lit 2) Ground.data, Edge.mk (nat_lit 4) Ground.data]) none))) ∧ (decide (x_9 < (↑x_4.length : Int)) = false → ((0 : Int) = (cfauR (makeP none x x_2 x_4)).spot ∧ (0 : Int) = (cfauR (makeP none x
  x_2 x_4)).why) ∧ x_8 = certR (makeP none x x_2 x_4)))) ∧ ∀ (x : MapD), LenOk x.l.length → ∀ (x_2 : List Driver), LenOk x_2.length → ∀ (x_4 : List Order), LenOk x_4.length → ∀ (x_6 : List Route), (LenOk x_6.length ∧ ∀ (r : Route), List.Mem r
  x_6 → LenOk r.stops.length) → (∀ (x_8 : MapD), some x = some x_8 → MapOk x_8) → (∀ (x_9 : MapD), some x = some x_9 → MapOk x_9) ∧ ((!wellP (some x) x_2 x_4 x_6) = true → ((0 : Int) = (cfauR (makeP (some x) x_2 x_4 x_6)).spot ∧ (1 : Int) =
  (cfauR (makeP (some x) x_2 x_4 x_6)).why) ∧ certR (makeP (some x) x_2 x_4 x_6) = nilOf (List Visit)) ∧ ((!wellP (some x) x_2 x_4 x_6) = false → ∃ (inv : List (List Visit) → Int → Prop), ∃ (μ : List (List Visit) → Int → Nat), ((((↑x_6.length
  : Int) = (↑x_6.length : Int) ∧ (0 : Int) = (0 : Int)) ∧ (x.n = x.n ∧ (0 : Int) = (0 : Int) ∧ (0 : Int) = (0 : Int)) ∧ x.l = x.l ∧ x_6 = x_6 ∧ nilOf (List Visit) = nilOf (List Visit) ∧ x_4 = x_4 ∧ x_2 = x_2) ∧ inv [] (0 : Int)) ∧ ∀ (x_10 :
  List (List Visit)) (x_11 : Int), inv x_10 x_11 → (decide (x_11 < (↑x_6.length : Int)) = true → ((0 : Int) ≤ x_11 ∧ x_11 < (↑x_6.length : Int)) ∧ x_11.toNat < x_6.length ∧ ((!(findD (x_6.getD x_11.toNat (Route.mk (0 : Int) (0 : Int)
  [])).driver x_2).isSome) = true → (x_11 = (cfauR (makeP (some x) x_2 x_4 x_6)).spot ∧ (8 : Int) = (cfauR (makeP (some x) x_2 x_4 x_6)).why) ∧ certR (makeP (some x) x_2 x_4 x_6) = nilOf (List Visit)) ∧ ((!(findD (x_6.getD x_11.toNat
  (Route.mk (0 : Int) (0 : Int) [])).driver x_2).isSome) = false → TimedPre x ((findD (x_6.getD x_11.toNat (Route.mk (0 : Int) (0 : Int) [])).driver x_2).getD FK.driver.zero) x_4 (x_6.getD x_11.toNat (Route.mk (0 : Int) (0 : Int) [])).stops ∧
  ((!good (fauR (driveT x ((findD (x_6.getD x_11.toNat (Route.mk (0 : Int) (0 : Int) [])).driver x_2).getD FK.driver.zero) x_4 (x_6.getD x_11.toNat (Route.mk (0 : Int) (0 : Int) [])).stops))) = true → (x_11 = (cfauR (makeP (some x) x_2 x_4
  x_6)).spot ∧ (fauR (driveT x ((findD (x_6.getD x_11.toNat (Route.mk (0 : Int) (0 : Int) [])).driver x_2).getD FK.driver.zero) x_4 (x_6.getD x_11.toNat (Route.mk (0 : Int) (0 : Int) [])).stops)).why = (cfauR (makeP (some x) x_2 x_4
  x_6)).why) ∧ certR (makeP (some x) x_2 x_4 x_6) = nilOf (List Visit)) ∧ ((!good (fauR (driveT x ((findD (x_6.getD x_11.toNat (Route.mk (0 : Int) (0 : Int) [])).driver x_2).getD FK.driver.zero) x_4 (x_6.getD x_11.toNat (Route.mk (0 : Int) (0
  : Int) [])).stops))) = false → (x_10.length + [visR (driveT x ((findD (x_6.getD x_11.toNat (Route.mk (0 : Int) (0 : Int) [])).driver x_2).getD FK.driver.zero) x_4 (x_6.getD x_11.toNat (Route.mk (0 : Int) (0 : Int) [])).stops)].length) *
  (K.rows FK.visit).byt ≤ (140737488355328 : Nat) ∧ (((↑x_6.length : Int) = (↑x_6.length : Int) ∧ wrap (x_11 + (1 : Int)) = wrap (x_11 + (1 : Int))) ∧ (x.n = x.n ∧ (0 : Int) = (0 : Int) ∧ (0 : Int) = (0 : Int)) ∧ x.l = x.l ∧ x_6 = x_6 ∧ x_10
  ++ [visR (driveT x ((findD (x_6.getD x_11.toNat (Route.mk (0 : Int) (0 : Int) [])).driver x_2).getD FK.driver.zero) x_4 (x_6.getD x_11.toNat (Route.mk (0 : Int) (0 : Int) [])).stops)] = x_10 ++ [visR (driveT x ((findD (x_6.getD x_11.toNat
  (Route.mk (0 : Int) (0 : Int) [])).driver x_2).getD FK.driver.zero) x_4 (x_6.getD x_11.toNat (Route.mk (0 : Int) (0 : Int) [])).stops)] ∧ x_4 = x_4 ∧ x_2 = x_2) ∧ inv (x_10 ++ [visR (driveT x ((findD (x_6.getD x_11.toNat (Route.mk (0 : Int)
  (0 : Int) [])).driver x_2).getD FK.driver.zero) x_4 (x_6.getD x_11.toNat (Route.mk (0 : Int) (0 : Int) [])).stops)]) (wrap (x_11 + (1 : Int))) ∧ μ (x_10 ++ [visR (driveT x ((findD (x_6.getD x_11.toNat (Route.mk (0 : Int) (0 : Int)
  [])).driver x_2).getD FK.driver.zero) x_4 (x_6.getD x_11.toNat (Route.mk (0 : Int) (0 : Int) [])).stops)]) (wrap (x_11 + (1 : Int))) < μ x_10 x_11))) ∧ (decide (x_11 < (↑x_6.length : Int)) = false → ((0 : Int) = (cfauR (makeP (some x) x_2
  x_4 x_6)).spot ∧ (0 : Int) = (cfauR (makeP (some x) x_2 x_4 x_6)).why) ∧ x_10 = certR (makeP (some x) x_2 x_4 x_6)))
theorem cmake_told (hc : CsOk Try.prog cmake_cs) (h : cmake_vc) : Told Try.prog 19 cmake_con := told (A := cmake_la) tabOk mixed hc Try.func19 (by kernel_rfl) (by kernel_rfl) h
def rCmake_vc : Prop :=
  (∀ (x : List Driver), LenOk x.length → ∀ (x_2 : List Order), LenOk x_2.length → ∀ (x_4 : List Route), (LenOk x_4.length ∧ ∀ (r : Route), List.Mem r x_4 → LenOk r.stops.length) → (∀ (x : MapD), none = some x → MapOk x) → (∀ (x : MapD), none
  = some x → MapOk x) ∧ ((!wellP none x x_2 x_4) = true → ((0 : Int) = (cfauR (makeP none x x_2 x_4)).spot ∧ (1 : Int) = (cfauR (makeP none x x_2 x_4)).why) ∧ certR (makeP none x x_2 x_4) = nilOf (List Visit)) ∧ ((!wellP none x x_2 x_4) =
  false → ∃ (inv : List (List Visit) → Int → Prop), ∃ (μ : List (List Visit) → Int → Nat), (((0 : Int) = (0 : Int) ∧ ((0 : Int) = (0 : Int) ∧ (0 : Int) = (0 : Int)) ∧ nilOf (List Visit) = nilOf (List Visit) ∧ x_4 = x_4 ∧ x_2 = x_2 ∧ x = x) ∧
  inv [] (0 : Int)) ∧ ∀ (x_8 : List (List Visit)) (x_9 : Int), inv x_8 x_9 → (decide (x_9 < (↑x_4.length : Int)) = true → ((0 : Int) ≤ x_9 ∧ x_9 < (↑x_4.length : Int)) ∧ x_9.toNat < x_4.length ∧ ((!(findD (x_4.getD x_9.toNat (Route.mk (0 :
  Int) (0 : Int) [])).driver x).isSome) = true → (x_9 = (cfauR (makeP none x x_2 x_4)).spot ∧ (8 : Int) = (cfauR (makeP none x x_2 x_4)).why) ∧ certR (makeP none x x_2 x_4) = nilOf (List Visit)) ∧ ((!(findD (x_4.getD x_9.toNat (Route.mk (0 :
  Int) (0 : Int) [])).driver x).isSome) = false → ((0 : Int) ≤ x_9 ∧ x_9 < (↑x_4.length : Int)) ∧ x_9.toNat < x_4.length ∧ (∀ (x : MapD), none = some x → MapOk x) ∧ ((!decide ((fauR (drive none ((findD (x_4.getD x_9.toNat (Route.mk (0 : Int)
  (0 : Int) [])).driver x).getD FK.driver.zero) x_2 (x_4.getD x_9.toNat (Route.mk (0 : Int) (0 : Int) [])).stops)).why = (0 : Int))) = true → (x_9 = (cfauR (makeP none x x_2 x_4)).spot ∧ (fauR (drive none ((findD (x_4.getD x_9.toNat (Route.mk
  (0 : Int) (0 : Int) [])).driver x).getD FK.driver.zero) x_2 (x_4.getD x_9.toNat (Route.mk (0 : Int) (0 : Int) [])).stops)).why = (cfauR (makeP none x x_2 x_4)).why) ∧ certR (makeP none x x_2 x_4) = nilOf (List Visit)) ∧ ((!decide ((fauR
  (drive none ((findD (x_4.getD x_9.toNat (Route.mk (0 : Int) (0 : Int) [])).driver x).getD FK.driver.zero) x_2 (x_4.getD x_9.toNat (Route.mk (0 : Int) (0 : Int) [])).stops)).why = (0 : Int))) = false → (x_8.length + [visR (drive none ((findD
  (x_4.getD x_9.toNat (Route.mk (0 : Int) (0 : Int) [])).driver x).getD FK.driver.zero) x_2 (x_4.getD x_9.toNat (Route.mk (0 : Int) (0 : Int) [])).stops)].length) * (K.rows FK.visit).byt ≤ (140737488355328 : Nat) ∧ (wrap (x_9 + (1 : Int)) =
  wrap (x_9 + (1 : Int)) ∧ ((0 : Int) = (0 : Int) ∧ (0 : Int) = (0 : Int)) ∧ x_8 ++ [visR (drive none ((findD (x_4.getD x_9.toNat (Route.mk (0 : Int) (0 : Int) [])).driver x).getD FK.driver.zero) x_2 (x_4.getD x_9.toNat (Route.mk (0 : Int) (0
  : Int) [])).stops)] = x_8 ++ [visR (drive none ((findD (x_4.getD x_9.toNat (Route.mk (0 : Int) (0 : Int) [])).driver x).getD FK.driver.zero) x_2 (x_4.getD x_9.toNat (Route.mk (0 : Int) (0 : Int) [])).stops)] ∧ x_4 = x_4 ∧ x_2 = x_2 ∧ x = x)
  ∧ inv (x_8 ++ [visR (drive none ((findD (x_4.getD x_9.toNat (Route.mk (0 : Int) (0 : Int) [])).driver x).getD FK.driver.zero) x_2 (x_4.getD x_9.toNat (Route.mk (0 : Int) (0 : Int) [])).stops)]) (wrap (x_9 + (1 : Int))) ∧ μ (x_8 ++ [visR
  (drive none ((findD (x_4.getD x_9.toNat (Route.mk (0 : Int) (0 : Int) [])).driver x).getD FK.driver.zero) x_2 (x_4.getD x_9.toNat (Route.mk (0 : Int) (0 : Int) [])).stops)]) (wrap (x_9 + (1 : Int))) < μ x_8 x_9))) ∧ (decide (x_9 <
  (↑x_4.length : Int)) = false → ((0 : Int) = (cfauR (makeP none x x_2 x_4)).spot ∧ (0 : Int) = (cfauR (makeP none x x_2 x_4)).why) ∧ x_8 = certR (makeP none x x_2 x_4)))) ∧ ∀ (x : MapD), LenOk x.l.length → ∀ (x_2 : List Driver), LenOk
  x_2.length → ∀ (x_4 : List Order), LenOk x_4.length → ∀ (x_6 : List Route), (LenOk x_6.length ∧ ∀ (r : Route), List.Mem r x_6 → LenOk r.stops.length) → (∀ (x_8 : MapD), some x = some x_8 → MapOk x_8) → (∀ (x_9 : MapD), some x = some x_9 →
  MapOk x_9) ∧ ((!wellP (some x) x_2 x_4 x_6) = true → ((0 : Int) = (cfauR (makeP (some x) x_2 x_4 x_6)).spot ∧ (1 : Int) = (cfauR (makeP (some x) x_2 x_4 x_6)).why) ∧ certR (makeP (some x) x_2 x_4 x_6) = nilOf (List Visit)) ∧ ((!wellP (some
  x) x_2 x_4 x_6) = false → ∃ (inv : List (List Visit) → Int → Prop), ∃ (μ : List (List Visit) → Int → Nat), (((0 : Int) = (0 : Int) ∧ (x.n = x.n ∧ (0 : Int) = (0 : Int) ∧ (0 : Int) = (0 : Int)) ∧ x.l = x.l ∧ nilOf (List Visit) = nilOf (List
  Visit) ∧ x_6 = x_6 ∧ x_4 = x_4 ∧ x_2 = x_2) ∧ inv [] (0 : Int)) ∧ ∀ (x_10 : List (List Visit)) (x_11 : Int), inv x_10 x_11 → (decide (x_11 < (↑x_6.length : Int)) = true → ((0 : Int) ≤ x_11 ∧ x_11 < (↑x_6.length : Int)) ∧ x_11.toNat <
  x_6.length ∧ ((!(findD (x_6.getD x_11.toNat (Route.mk (0 : Int) (0 : Int) [])).driver x_2).isSome) = true → (x_11 = (cfauR (makeP (some x) x_2 x_4 x_6)).spot ∧ (8 : Int) = (cfauR (makeP (some x) x_2 x_4 x_6)).why) ∧ certR (makeP (some x)
  x_2 x_4 x_6) = nilOf (List Visit)) ∧ ((!(findD (x_6.getD x_11.toNat (Route.mk (0 : Int) (0 : Int) [])).driver x_2).isSome) = false → ((0 : Int) ≤ x_11 ∧ x_11 < (↑x_6.length : Int)) ∧ x_11.toNat < x_6.length ∧ (∀ (x_15 : MapD), some x = some
  x_15 → MapOk x_15) ∧ ((!decide ((fauR (drive (some x) ((findD (x_6.getD x_11.toNat (Route.mk (0 : Int) (0 : Int) [])).driver x_2).getD FK.driver.zero) x_4 (x_6.getD x_11.toNat (Route.mk (0 : Int) (0 : Int) [])).stops)).why = (0 : Int))) =
  true → (x_11 = (cfauR (makeP (some x) x_2 x_4 x_6)).spot ∧ (fauR (drive (some x) ((findD (x_6.getD x_11.toNat (Route.mk (0 : Int) (0 : Int) [])).driver x_2).getD FK.driver.zero) x_4 (x_6.getD x_11.toNat (Route.mk (0 : Int) (0 : Int)
  [])).stops)).why = (cfauR (makeP (some x) x_2 x_4 x_6)).why) ∧ certR (makeP (some x) x_2 x_4 x_6) = nilOf (List Visit)) ∧ ((!decide ((fauR (drive (some x) ((findD (x_6.getD x_11.toNat (Route.mk (0 : Int) (0 : Int) [])).driver x_2).getD
  FK.driver.zero) x_4 (x_6.getD x_11.toNat (Route.mk (0 : Int) (0 : Int) [])).stops)).why = (0 : Int))) = false → (x_10.length + [visR (drive (some x) ((findD (x_6.getD x_11.toNat (Route.mk (0 : Int) (0 : Int) [])).driver x_2).getD
  FK.driver.zero) x_4 (x_6.getD x_11.toNat (Route.mk (0 : Int) (0 : Int) [])).stops)].length) * (K.rows FK.visit).byt ≤ (140737488355328 : Nat) ∧ (wrap (x_11 + (1 : Int)) = wrap (x_11 + (1 : Int)) ∧ (x.n = x.n ∧ (0 : Int) = (0 : Int) ∧ (0 :
  Int) = (0 : Int)) ∧ x.l = x.l ∧ x_10 ++ [visR (drive (some x) ((findD (x_6.getD x_11.toNat (Route.mk (0 : Int) (0 : Int) [])).driver x_2).getD FK.driver.zero) x_4 (x_6.getD x_11.toNat (Route.mk (0 : Int) (0 : Int) [])).stops)] = x_10 ++
  [visR (drive (some x) ((findD (x_6.getD x_11.toNat (Route.mk (0 : Int) (0 : Int) [])).driver x_2).getD FK.driver.zero) x_4 (x_6.getD x_11.toNat (Route.mk (0 : Int) (0 : Int) [])).stops)] ∧ x_6 = x_6 ∧ x_4 = x_4 ∧ x_2 = x_2) ∧ inv (x_10 ++
  [visR (drive (some x) ((findD (x_6.getD x_11.toNat (Route.mk (0 : Int) (0 : Int) [])).driver x_2).getD FK.driver.zero) x_4 (x_6.getD x_11.toNat (Route.mk (0 : Int) (0 : Int) [])).stops)]) (wrap (x_11 + (1 : Int))) ∧ μ (x_10 ++ [visR (drive
  (some x) ((findD (x_6.getD x_11.toNat (Route.mk (0 : Int) (0 : Int) [])).driver x_2).getD FK.driver.zero) x_4 (x_6.getD x_11.toNat (Route.mk (0 : Int) (0 : Int) [])).stops)]) (wrap (x_11 + (1 : Int))) < μ x_10 x_11))) ∧ (decide (x_11 <
  (↑x_6.length : Int)) = false → ((0 : Int) = (cfauR (makeP (some x) x_2 x_4 x_6)).spot ∧ (0 : Int) = (cfauR (makeP (some x) x_2 x_4 x_6)).why) ∧ x_10 = certR (makeP (some x) x_2 x_4 x_6)))
theorem rCmake_told (hc : CsOk Try.prog rCmake_cs) (h : rCmake_vc) : Told Try.prog 50 rCmake_con := told (A := rCmake_la) tabOk mixed hc Try.func50 (by kernel_rfl) (by kernel_rfl) h
end Go.Eng

/- How late stops may be begun; an order put between stops: in plain words; what the functions tell. -/
set_option linter.unusedVariables false
set_option linter.unusedSimpArgs false
namespace Go.Eng
open Go Go.Proofs
def untilOf (m : MapD) (d : Driver) (os : List Order) (s : Stop) : List Stop → List Int → Int
  | n :: _, t :: _ => min d.hi (t - tm m (stopSite os s).pl (stopSite os n).pl)
  | _, _ => d.hi
def latest (m : MapD) (d : Driver) (os : List Order) : List Stop → List Int
  | [] => []
  | s :: l => (last_ (stopSite os s).win (stopSite os s).sv (untilOf m d os s l (latest m d os l))).1 :: latest m d os l
def latR (m : Option MapD) (d : Driver) (os : List Order) (ss : List Stop) : List Int := match m with
  | none => []
  | some x => if good (fauR (drive m d os ss)) then latest x d os ss else []
def putOk (ss : List Stop) (i j : Int) : Bool := decide (0 ≤ i) && decide (i ≤ j) && decide (j ≤ ss.length)
def putS (ss : List Stop) (id i j : Int) : List Stop := if putOk ss i j then ss.take i.toNat ++ [⟨id, false⟩] ++ (ss.drop i.toNat).take (j.toNat - i.toNat) ++ [⟨id, true⟩] ++ ss.drop j.toNat else []
def fits (m : Option MapD) (d : Driver) (os : List Order) (ss : List Stop) (o : Order) (i j : Int) : Bool :=
  putOk ss i j && good (fauR (drive m d os ss)) && (findO os o.id).isNone && good (fauR (drive m d (os ++ [o]) (putS ss o.id i j)))

/-! ### Contracts -/
def sput_con : Con := ⟨[.c (.a (.f .stop)), .c .i, .c .i, .c .i], fun ss id i j => ⟨some (ss.length * 16 ≤ 140737488351232), [⟨none, [.c (.o .stop 70 (putS ss id i j))]⟩]⟩⟩
def sput_cs : Cons := []
def sput_la : List (Nat × LA) := []
def sfits_con : Con := ⟨[.q .map 101, .r (.f .driver), .c (.a (.f .order)), .c (.a (.f .stop)), .r (.f .order), .c .i, .c .i], fun m d os ss o i j => ⟨some (MapOkO m ∧ os.length * 80 ≤ 140737488351232 ∧ ss.length * 16 ≤ 140737488351232), [⟨none, [.c (.b (fits m d os ss o i j))]⟩]⟩⟩
def sfits_cs : Cons := [(30, drive_con), (34, find_con), (20, good_con), (16, sput_con)]
def sfits_la : List (Nat × LA) := []
def rSput_con : Con := ⟨[.c (.a (.f .stop)), .c .i, .c .i, .c .i], fun ss id i j => ⟨some (ss.length * 16 ≤ 140737488351232 ∧ putOk ss i j = true), [⟨none, [.c (.o .stop 70 (putS ss id i j))]⟩]⟩⟩
def rSput_cs : Cons := []
def rSput_la : List (Nat × LA) := [(3, ⟨[0, 1, 2, 3], [.app 9 .stop 70, .i 10]⟩)]
end Go.Eng

/- The conditions of functions, as print.. of the engine told them. -/
set_option linter.unusedVariables false
namespace Go.Eng
open Go Go.Proofs
def sput_vc : Prop :=
  ∀ (x : List Stop), LenOk x.length → ∀ (x_2 x_3 x_4 : Int), x.length * (16 : Nat) ≤ (140737488351232 : Nat) → (decide (x_3 < (0 : Int)) = false → (decide (x_4 < x_3) = false → (decide (x_4 > (↑x.length : Int)) = true → putS x x_2 x_3 x_4 =
  nilOf Stop) ∧ (decide (x_4 > (↑x.length : Int)) = false → ((0 : Int) ≤ (0 : Int) ∧ (0 : Int) ≤ wrap ((↑x.length : Int) + (2 : Int)) ∧ wrap ((↑x.length : Int) + (2 : Int)) * ((8 : Int) * (↑(2 : Nat) : Int)) ≤ (281474976710656 : Int)) ∧ ((0 :
  Int) ≤ (0 : Int) ∧ (0 : Int) ≤ x_3 ∧ x_3 ≤ (↑x.length : Int)) ∧ ((Int.toNat (0 : Int) + (x_3.toNat - Int.toNat (0 : Int))).le x.length ∧ ((List.replicate (Int.toNat (0 : Int)) FK.stop.zero).length + (part x (Int.toNat (0 : Int)) (x_3.toNat
  - Int.toNat (0 : Int))).length) * ((8 : Nat) * (2 : Nat)) ≤ (140737488355328 : Nat)) ∧ (True ∧ ((List.replicate (Int.toNat (0 : Int)) FK.stop.zero ++ part x (Int.toNat (0 : Int)) (x_3.toNat - Int.toNat (0 : Int))).length + [Stop.mk x_2
  false].length) * ((8 : Nat) * (2 : Nat)) ≤ (140737488355328 : Nat)) ∧ ((0 : Int) ≤ x_3 ∧ x_3 ≤ x_4 ∧ x_4 ≤ (↑x.length : Int)) ∧ ((x_3.toNat + (x_4.toNat - x_3.toNat)).le x.length ∧ ((List.replicate (Int.toNat (0 : Int)) FK.stop.zero ++ part
  x (Int.toNat (0 : Int)) (x_3.toNat - Int.toNat (0 : Int)) ++ [Stop.mk x_2 false]).length + (part x x_3.toNat (x_4.toNat - x_3.toNat)).length) * ((8 : Nat) * (2 : Nat)) ≤ (140737488355328 : Nat)) ∧ (True ∧ ((List.replicate (Int.toNat (0 :
  Int)) FK.stop.zero ++ part x (Int.toNat (0 : Int)) (x_3.toNat - Int.toNat (0 : Int)) ++ [Stop.mk x_2 false] ++ part x x_3.toNat (x_4.toNat - x_3.toNat)).length + [Stop.mk x_2 true].length) * ((8 : Nat) * (2 : Nat)) ≤ (140737488355328 :
  Nat)) ∧ ((0 : Int) ≤ x_4 ∧ x_4 ≤ (↑x.length : Int) ∧ (↑x.length : Int) ≤ (↑x.length : Int)) ∧ ((x_4.toNat + ((↑x.length : Int).toNat - x_4.toNat)).le x.length ∧ ((List.replicate (Int.toNat (0 : Int)) FK.stop.zero ++ part x (Int.toNat (0 :
  Int)) (x_3.toNat - Int.toNat (0 : Int)) ++ [Stop.mk x_2 false] ++ part x x_3.toNat (x_4.toNat - x_3.toNat) ++ [Stop.mk x_2 true]).length + (part x x_4.toNat ((↑x.length : Int).toNat - x_4.toNat)).length) * ((8 : Nat) * (2 : Nat)) ≤
  (140737488355328 : Nat)) ∧ List.replicate (Int.toNat (0 : Int)) FK.stop.zero ++ part x (Int.toNat (0 : Int)) (x_3.toNat - Int.toNat (0 : Int)) ++ [Stop.mk x_2 false] ++ part x x_3.toNat (x_4.toNat - x_3.toNat) ++ [Stop.mk x_2 true] ++ part
  x x_4.toNat ((↑x.length : Int).toNat - x_4.toNat) = putS x x_2 x_3 x_4)) ∧ (decide (x_4 < x_3) = !false → putS x x_2 x_3 x_4 = nilOf Stop)) ∧ (decide (x_3 < (0 : Int)) = !false → putS x x_2 x_3 x_4 = nilOf Stop)
theorem sput_told (hc : CsOk Try.prog sput_cs) (h : sput_vc) : Told Try.prog 16 sput_con := told (A := sput_la) tabOk mixed hc Try.func16 (by kernel_rfl) (by kernel_rfl) h
def sfits_vc : Prop :=
  (∀ (x : Driver) (x_1 : List Order), LenOk x_1.length → ∀ (x_3 : List Stop), LenOk x_3.length → ∀ (x_5 : Order) (x_6 x_7 : Int), (∀ (x : MapD), none = some x → MapOk x) ∧ x_1.length * (80 : Nat) ≤ (140737488351232 : Nat) ∧ x_3.length * (16 :
  Nat) ≤ (140737488351232 : Nat) → (decide (x_6 < (0 : Int)) = false → (decide (x_7 < x_6) = false → (decide (x_7 > (↑x_3.length : Int)) = true → false = fits none x x_1 x_3 x_5 x_6 x_7) ∧ (decide (x_7 > (↑x_3.length : Int)) = false → (∀ (x :
  MapD), none = some x → MapOk x) ∧ ((!good (fauR (drive none x x_1 x_3))) = false → ((findO x_1 x_5.id).isSome = true → false = fits none x x_1 x_3 x_5 x_6 x_7) ∧ ((findO x_1 x_5.id).isSome = false → ((0 : Int) ≤ (0 : Int) ∧ (0 : Int) ≤ wrap
  ((↑x_1.length : Int) + (1 : Int)) ∧ wrap ((↑x_1.length : Int) + (1 : Int)) * ((8 : Int) * (↑(10 : Nat) : Int)) ≤ (281474976710656 : Int)) ∧ (True ∧ ((List.replicate (Int.toNat (0 : Int)) FK.order.zero).length + x_1.length) * ((8 : Nat) *
  (10 : Nat)) ≤ (140737488355328 : Nat)) ∧ (True ∧ ((List.replicate (Int.toNat (0 : Int)) FK.order.zero ++ x_1).length + [x_5].length) * ((8 : Nat) * (10 : Nat)) ≤ (140737488355328 : Nat)) ∧ x_3.length * (16 : Nat) ≤ (140737488351232 : Nat) ∧
  (∀ (x : MapD), none = some x → MapOk x) ∧ good (fauR (drive none x (List.replicate (Int.toNat (0 : Int)) FK.order.zero ++ x_1 ++ [x_5]) (putS x_3 x_5.id x_6 x_7))) = fits none x x_1 x_3 x_5 x_6 x_7)) ∧ ((!good (fauR (drive none x x_1 x_3)))
  = !false → false = fits none x x_1 x_3 x_5 x_6 x_7))) ∧ (decide (x_7 < x_6) = !false → false = fits none x x_1 x_3 x_5 x_6 x_7)) ∧ (decide (x_6 < (0 : Int)) = !false → false = fits none x x_1 x_3 x_5 x_6 x_7)) ∧ ∀ (x : MapD), LenOk
  x.l.length → ∀ (x_2 : Driver) (x_3 : List Order), LenOk x_3.length → ∀ (x_5 : List Stop), LenOk x_5.length → ∀ (x_7 : Order) (x_8 x_9 : Int), (∀ (x_10 : MapD), some x = some x_10 → MapOk x_10) ∧ x_3.length * (80 : Nat) ≤ (140737488351232 :
  Nat) ∧ x_5.length * (16 : Nat) ≤ (140737488351232 : Nat) → (decide (x_8 < (0 : Int)) = false → (decide (x_9 < x_8) = false → (decide (x_9 > (↑x_5.length : Int)) = true → false = fits (some x) x_2 x_3 x_5 x_7 x_8 x_9) ∧ (decide (x_9 >
  (↑x_5.length : Int)) = false → (∀ (x_14 : MapD), some x = some x_14 → MapOk x_14) ∧ ((!good (fauR (drive (some x) x_2 x_3 x_5))) = false → ((findO x_3 x_7.id).isSome = true → false = fits (some x) x_2 x_3 x_5 x_7 x_8 x_9) ∧ ((findO x_3
  x_7.id).isSome = false → ((0 : Int) ≤ (0 : Int) ∧ (0 : Int) ≤ wrap ((↑x_3.length : Int) + (1 : Int)) ∧ wrap ((↑x_3.length : Int) + (1 : Int)) * ((8 : Int) * (↑(10 : Nat) : Int)) ≤ (281474976710656 : Int)) ∧ (True ∧ ((List.replicate
  (Int.toNat (0 : Int)) FK.order.zero).length + x_3.length) * ((8 : Nat) * (10 : Nat)) ≤ (140737488355328 : Nat)) ∧ (True ∧ ((List.replicate (Int.toNat (0 : Int)) FK.order.zero ++ x_3).length + [x_7].length) * ((8 : Nat) * (10 : Nat)) ≤
  (140737488355328 : Nat)) ∧ x_5.length * (16 : Nat) ≤ (140737488351232 : Nat) ∧ (∀ (x_16 : MapD), some x = some x_16 → MapOk x_16) ∧ good (fauR (drive (some x) x_2 (List.replicate (Int.toNat (0 : Int)) FK.order.zero ++ x_3 ++ [x_7]) (putS
  x_5 x_7.id x_8 x_9))) = fits (some x) x_2 x_3 x_5 x_7 x_8 x_9)) ∧ ((!good (fauR (drive (some x) x_2 x_3 x_5))) = !false → false = fits (some x) x_2 x_3 x_5 x_7 x_8 x_9))) ∧ (decide (x_9 < x_8) = !false → false = fits (some x) x_2 x_3 x_5
  x_7 x_8 x_9)) ∧ (decide (x_8 < (0 : Int)) = !false → false = fits (some x) x_2 x_3 x_5 x_7 x_8 x_9)
theorem sfits_told (hc : CsOk Try.prog sfits_cs) (h : sfits_vc) : Told Try.prog 15 sfits_con := told (A := sfits_la) tabOk mixed hc Try.func15 (by kernel_rfl) (by kernel_rfl) h
def rSput_vc : Prop :=
  ∀ (x : List Stop), LenOk x.length → ∀ (x_2 x_3 x_4 : Int), x.length * (16 : Nat) ≤ (140737488351232 : Nat) ∧ putOk x x_3 x_4 = true → ∃ (inv : List Stop → Int → Prop), ∃ (μ : List Stop → Int → Nat), (((x_2 = x_2 ∧ x_3 = x_3 ∧ x_4 = x_4 ∧ (0
  : Int) = (0 : Int)) ∧ nilOf Stop = nilOf Stop ∧ x = x) ∧ inv [] (0 : Int)) ∧ ∀ (x_6 : List Stop) (x_7 : Int), inv x_6 x_7 → (decide (x_7 ≤ (↑x.length : Int)) = true → (decide (x_7 = x_3) = true → (True ∧ (x_6.length + [Stop.mk x_2
  false].length) * ((8 : Nat) * (2 : Nat)) ≤ (140737488355328 : Nat)) ∧ (decide (x_7 = x_4) = true → (True ∧ ((x_6 ++ [Stop.mk x_2 false]).length + [Stop.mk x_2 true].length) * ((8 : Nat) * (2 : Nat)) ≤ (140737488355328 : Nat)) ∧ (decide (x_7
  < (↑x.length : Int)) = true → ((0 : Int) ≤ x_7 ∧ x_7 < (↑x.length : Int)) ∧ x_7.toNat < x.length ∧ (True ∧ ((x_6 ++ [Stop.mk x_2 false] ++ [Stop.mk x_2 true]).length + [x.getD x_7.toNat FK.stop.zero].length) * ((8 : Nat) * (2 : Nat)) ≤
  (140737488355328 : Nat)) ∧ ((x_2 = x_2 ∧ x_3 = x_3 ∧ x_4 = x_4 ∧ wrap (x_7 + (1 : Int)) = wrap (x_7 + (1 : Int))) ∧ x_6 ++ [Stop.mk x_2 false] ++ [Stop.mk x_2 true] ++ [x.getD x_7.toNat FK.stop.zero] = x_6 ++ [Stop.mk x_2 false] ++ [Stop.mk
  x_2 true] ++ [x.getD x_7.toNat FK.stop.zero] ∧ x = x) ∧ inv (x_6 ++ [Stop.mk x_2 false] ++ [Stop.mk x_2 true] ++ [x.getD x_7.toNat FK.stop.zero]) (wrap (x_7 + (1 : Int))) ∧ μ (x_6 ++ [Stop.mk x_2 false] ++ [Stop.mk x_2 true] ++ [x.getD
  x_7.toNat FK.stop.zero]) (wrap (x_7 + (1 : Int))) < μ x_6 x_7) ∧ (decide (x_7 < (↑x.length : Int)) = false → ((x_2 = x_2 ∧ x_3 = x_3 ∧ x_4 = x_4 ∧ wrap (x_7 + (1 : Int)) = wrap (x_7 + (1 : Int))) ∧ x_6 ++ [Stop.mk x_2 false] ++ [Stop.mk x_2
  true] = x_6 ++ [Stop.mk x_2 false] ++ [Stop.mk x_2 true] ∧ x = x) ∧ inv (x_6 ++ [Stop.mk x_2 false] ++ [Stop.mk x_2 true]) (wrap (x_7 + (1 : Int))) ∧ μ (x_6 ++ [Stop.mk x_2 false] ++ [Stop.mk x_2 true]) (wrap (x_7 + (1 : Int))) < μ x_6
  x_7)) ∧ (decide (x_7 = x_4) = false → (decide (x_7 < (↑x.length : Int)) = true → ((0 : Int) ≤ x_7 ∧ x_7 < (↑x.length : Int)) ∧ x_7.toNat < x.length ∧ (True ∧ ((x_6 ++ [Stop.mk x_2 false]).length + [x.getD x_7.toNat FK.stop.zero].length) *
  ((8 : Nat) * (2 : Nat)) ≤ (140737488355328 : Nat)) ∧ ((x_2 = x_2 ∧ x_3 = x_3 ∧ x_4 = x_4 ∧ wrap (x_7 + (1 : Int)) = wrap (x_7 + (1 : Int))) ∧ x_6 ++ [Stop.mk x_2 false] ++ [x.getD x_7.toNat FK.stop.zero] = x_6 ++ [Stop.mk x_2 false] ++
  [x.getD x_7.toNat FK.stop.zero] ∧ x = x) ∧ inv (x_6 ++ [Stop.mk x_2 false] ++ [x.getD x_7.toNat FK.stop.zero]) (wrap (x_7 + (1 : Int))) ∧ μ (x_6 ++ [Stop.mk x_2 false] ++ [x.getD x_7.toNat FK.stop.zero]) (wrap (x_7 + (1 : Int))) < μ x_6
  x_7) ∧ (decide (x_7 < (↑x.length : Int)) = false → ((x_2 = x_2 ∧ x_3 = x_3 ∧ x_4 = x_4 ∧ wrap (x_7 + (1 : Int)) = wrap (x_7 + (1 : Int))) ∧ x_6 ++ [Stop.mk x_2 false] = x_6 ++ [Stop.mk x_2 false] ∧ x = x) ∧ inv (x_6 ++ [Stop.mk x_2 false])
  (wrap (x_7 + (1 : Int))) ∧ μ (x_6 ++ [Stop.mk x_2 false]) (wrap (x_7 + (1 : Int))) < μ x_6 x_7))) ∧ (decide (x_7 = x_3) = false → (decide (x_7 = x_4) = true → (True ∧ (x_6.length + [Stop.mk x_2 true].length) * ((8 : Nat) * (2 : Nat)) ≤
  (140737488355328 : Nat)) ∧ (decide (x_7 < (↑x.length : Int)) = true → ((0 : Int) ≤ x_7 ∧ x_7 < (↑x.length : Int)) ∧ x_7.toNat < x.length ∧ (True ∧ ((x_6 ++ [Stop.mk x_2 true]).length + [x.getD x_7.toNat FK.stop.zero].length) * ((8 : Nat) *
  (2 : Nat)) ≤ (140737488355328 : Nat)) ∧ ((x_2 = x_2 ∧ x_3 = x_3 ∧ x_4 = x_4 ∧ wrap (x_7 + (1 : Int)) = wrap (x_7 + (1 : Int))) ∧ x_6 ++ [Stop.mk x_2 true] ++ [x.getD x_7.toNat FK.stop.zero] = x_6 ++ [Stop.mk x_2 true] ++ [x.getD x_7.toNat
  FK.stop.zero] ∧ x = x) ∧ inv (x_6 ++ [Stop.mk x_2 true] ++ [x.getD x_7.toNat FK.stop.zero]) (wrap (x_7 + (1 : Int))) ∧ μ (x_6 ++ [Stop.mk x_2 true] ++ [x.getD x_7.toNat FK.stop.zero]) (wrap (x_7 + (1 : Int))) < μ x_6 x_7) ∧ (decide (x_7 <
  (↑x.length : Int)) = false → ((x_2 = x_2 ∧ x_3 = x_3 ∧ x_4 = x_4 ∧ wrap (x_7 + (1 : Int)) = wrap (x_7 + (1 : Int))) ∧ x_6 ++ [Stop.mk x_2 true] = x_6 ++ [Stop.mk x_2 true] ∧ x = x) ∧ inv (x_6 ++ [Stop.mk x_2 true]) (wrap (x_7 + (1 : Int)))
  ∧ μ (x_6 ++ [Stop.mk x_2 true]) (wrap (x_7 + (1 : Int))) < μ x_6 x_7)) ∧ (decide (x_7 = x_4) = false → (decide (x_7 < (↑x.length : Int)) = true → ((0 : Int) ≤ x_7 ∧ x_7 < (↑x.length : Int)) ∧ x_7.toNat < x.length ∧ (True ∧ (x_6.length +
  [x.getD x_7.toNat FK.stop.zero].length) * ((8 : Nat) * (2 : Nat)) ≤ (140737488355328 : Nat)) ∧ ((x_2 = x_2 ∧ x_3 = x_3 ∧ x_4 = x_4 ∧ wrap (x_7 + (1 : Int)) = wrap (x_7 + (1 : Int))) ∧ x_6 ++ [x.getD x_7.toNat FK.stop.zero] = x_6 ++ [x.getD
  x_7.toNat FK.stop.zero] ∧ x = x) ∧ inv (x_6 ++ [x.getD x_7.toNat FK.stop.zero]) (wrap (x_7 + (1 : Int))) ∧ μ (x_6 ++ [x.getD x_7.toNat FK.stop.zero]) (wrap (x_7 + (1 : Int))) < μ x_6 x_7) ∧ (decide (x_7 < (↑x.length : Int)) = false → ((x_2
  = x_2 ∧ x_3 = x_3 ∧ x_4 = x_4 ∧ wrap (x_7 + (1 : Int)) = wrap (x_7 + (1 : Int))) ∧ x_6 = x_6 ∧ x = x) ∧ inv x_6 (wrap (x_7 + (1 : Int))) ∧ μ x_6 (wrap (x_7 + (1 : Int))) < μ x_6 x_7)))) ∧ (decide (x_7 ≤ (↑x.length : Int)) = false → x_6 =
  putS x x_2 x_3 x_4)
theorem rSput_told (hc : CsOk Try.prog rSput_cs) (h : rSput_vc) : Told Try.prog 71 rSput_con := told (A := rSput_la) tabOk mixed hc Try.func71 (by kernel_rfl) (by kernel_rfl) h
end Go.Eng

/- How late stops may be begun; an order put between stops: it is so. -/
set_option linter.unusedVariables false
set_option linter.unusedSimpArgs false
namespace Go.Eng
open Go Go.Proofs

theorem drive_none_bad {d : Driver} {os : List Order} {ss : List Stop} : good (fauR (drive none d os ss)) = false := rfl
theorem putOk_iff {ss : List Stop} {i j : Int} : putOk ss i j = true ↔ 0 ≤ i ∧ i ≤ j ∧ j ≤ ss.length := by
  simp [putOk, and_assoc]
theorem putS_in {ss : List Stop} {id i j : Int} (h : 0 ≤ i ∧ i ≤ j ∧ j ≤ ss.length) : putS ss id i j = ss.take i.toNat ++ [⟨id, false⟩] ++ (ss.drop i.toNat).take (j.toNat - i.toNat) ++ [⟨id, true⟩] ++ ss.drop j.toNat := by
  unfold putS; rw [if_pos (putOk_iff.2 h)]
theorem putS_out {ss : List Stop} {id i j : Int} (h : ¬ (0 ≤ i ∧ i ≤ j ∧ j ≤ ss.length)) : putS ss id i j = [] := by
  unfold putS; rw [if_neg]; rw [putOk_iff]; exact h
theorem putS_length {ss : List Stop} {id i j : Int} (h : 0 ≤ i ∧ i ≤ j ∧ j ≤ ss.length) : (putS ss id i j).length = ss.length + 2 := by
  rw [putS_in h]
  simp only [List.length_append, List.length_take, List.length_drop, List.length_cons, List.length_nil]
  omega
theorem sput_ok : sput_vc := by
  unfold sput_vc
  simp only [bad_false, int0, nilOf, decide_eq_true_eq, decide_eq_false_iff_not, Bool.not_eq_true', Bool.not_eq_false', Bool.not_true, Bool.not_false, Bool.false_eq_true, Bool.true_eq_false, eq_self, true_and, and_true, false_or, or_false, false_implies, true_implies, implies_true, Int.not_lt, Int.not_le, gt_iff_lt, ge_iff_le, ne_eq]
  intro ss hl id i j hb
  have hl := hl.le
  refine ⟨fun h1 => ⟨fun h2 => ⟨fun h3 => putS_out (by omega), fun h3 => ?_⟩, fun h2 => putS_out (by omega)⟩, fun h1 => putS_out (by omega)⟩
  rw [putS_in ⟨h1, h2, h3⟩, wrap_id (by omega) (by omega)]
  simp only [part, List.length_append, List.length_take, List.length_drop, List.length_cons, List.length_nil, List.length_replicate, Int.toNat_zero, Nat.le_eq, List.replicate_zero, List.nil_append, List.drop_zero, Nat.sub_zero, Int.toNat_natCast]
  refine ⟨by omega, by omega, by omega, by omega, by omega, by omega, by omega, by omega, by omega, ?_⟩
  congr 1
  exact List.take_of_length_le (by rw [List.length_drop]; omega)
theorem sput_t : Told Try.prog 16 sput_con := sput_told csOk_nil sput_ok
/-- What is still to come. -/
def remS (ss : List Stop) (id : Int) (i j k : Nat) : List Stop :=
  if k ≤ i then (ss.drop k).take (i - k) ++ ([⟨id, false⟩] ++ ((ss.drop i).take (j - i) ++ ([⟨id, true⟩] ++ ss.drop j)))
  else if k ≤ j then (ss.drop k).take (j - k) ++ ([⟨id, true⟩] ++ ss.drop j) else ss.drop k
theorem remS_step {ss : List Stop} {id : Int} {i j k : Nat} (hij : i ≤ j) (hj : j ≤ ss.length) :
    remS ss id i j k = (if k = i then [⟨id, false⟩] else []) ++ ((if k = j then [⟨id, true⟩] else []) ++ ((if k < ss.length then [ss.getD k (FK.zero .stop)] else []) ++ remS ss id i j (k + 1))) := by
  have hd : k < ss.length → ss.drop k = ss.getD k (FK.zero .stop) :: ss.drop (k + 1) := fun h => getD_drop h
  have hd' : ¬ k < ss.length → ss.drop k = [] ∧ ss.drop (k + 1) = [] := fun h => ⟨List.drop_eq_nil_of_le (by omega), List.drop_eq_nil_of_le (by omega)⟩
  unfold remS
  have T : ∀ {p : Prop}, p → (p ↔ True) := fun h => iff_true_intro h
  have F : ∀ {p : Prop}, ¬ p → (p ↔ False) := fun h => iff_false_intro h
  by_cases h1 : k < i
  · rw [hd (by omega), show i - k = (i - (k + 1)) + 1 by omega, List.take_succ_cons]
    simp only [T (show k ≤ i by omega), F (show ¬ k = i by omega), F (show ¬ k = j by omega), T (show k + 1 ≤ i by omega), T (show k < ss.length by omega), if_true, if_false, List.nil_append, List.cons_append]
  · by_cases h2 : k = i
    · subst h2
      by_cases h3 : k = j
      · subst h3
        simp only [Nat.le_refl, F (show ¬ k + 1 ≤ k by omega), if_true, if_false, Nat.sub_self, List.take_zero, List.nil_append]
        by_cases h4 : k < ss.length
        · simp only [h4, if_true, hd h4, List.cons_append, List.nil_append]
        · simp only [h4, if_false, (hd' h4).1, (hd' h4).2]; rfl
      · simp only [Nat.le_refl, h3, F (show ¬ k + 1 ≤ k by omega), T (show k + 1 ≤ j by omega), T (show k < ss.length by omega), if_true, if_false, Nat.sub_self, List.take_zero, List.nil_append]
        rw [hd (by omega), show j - k = (j - (k + 1)) + 1 by omega, List.take_succ_cons]
        simp only [List.cons_append, List.nil_append]
    · by_cases h3 : k < j
      · simp only [F (show ¬ k ≤ i by omega), h2, F (show ¬ k = j by omega), F (show ¬ k + 1 ≤ i by omega), T (show k ≤ j by omega), T (show k + 1 ≤ j by omega), T (show k < ss.length by omega), if_true, if_false, List.nil_append]
        rw [hd (by omega), show j - k = (j - (k + 1)) + 1 by omega, List.take_succ_cons]
        simp only [List.cons_append, List.nil_append]
      · by_cases h4 : k = j
        · subst h4
          simp only [F (show ¬ k ≤ i by omega), h2, F (show ¬ k + 1 ≤ i by omega), Nat.le_refl, F (show ¬ k + 1 ≤ k by omega), if_true, if_false, Nat.sub_self, List.take_zero, List.nil_append]
          by_cases h5 : k < ss.length
          · simp only [h5, if_true, hd h5, List.cons_append, List.nil_append]
          · simp only [h5, if_false, (hd' h5).1, (hd' h5).2]; rfl
        · simp only [F (show ¬ k ≤ i by omega), h2, h4, F (show ¬ k + 1 ≤ i by omega), F (show ¬ k ≤ j by omega), F (show ¬ k + 1 ≤ j by omega), if_false, List.nil_append]
          by_cases h5 : k < ss.length
          · simp only [h5, if_true, hd h5, List.cons_append, List.nil_append]
          · simp only [h5, if_false, (hd' h5).1, (hd' h5).2]; rfl
theorem remS_zero {ss : List Stop} {id i j : Int} (h : 0 ≤ i ∧ i ≤ j ∧ j ≤ ss.length) : remS ss id i.toNat j.toNat 0 = putS ss id i j := by
  rw [putS_in h]
  unfold remS
  rw [if_pos (by omega)]
  simp
theorem remS_end {ss : List Stop} {id : Int} {i j k : Nat} (hij : i ≤ j) (hj : j ≤ ss.length) (h : ss.length < k) : remS ss id i j k = [] := by
  unfold remS
  rw [if_neg (by omega), if_neg (by omega)]
  exact List.drop_eq_nil_of_le (by omega)
theorem rSput_ok : rSput_vc := by
  unfold rSput_vc
  simp only [bad_false, int0, nilOf, decide_eq_true_eq, decide_eq_false_iff_not, Bool.not_eq_true', Bool.not_eq_false', Bool.not_true, Bool.not_false, Bool.false_eq_true, Bool.true_eq_false, eq_self, true_and, and_true, false_or, or_false, false_implies, true_implies, implies_true, Int.not_lt, Int.not_le, gt_iff_lt, ge_iff_le, ne_eq]
  intro ss hl id i j hb
  have hl := hl.le
  obtain ⟨hb, hp⟩ := hb
  have hp := putOk_iff.1 hp
  have hlen := putS_length (id := id) hp
  refine ⟨fun l k => 0 ≤ k ∧ k ≤ ss.length + 1 ∧ l ++ remS ss id i.toNat j.toNat k.toNat = putS ss id i j, fun l k => ss.length + 2 - k.toNat, ⟨by omega, by omega, ?_⟩, fun l k hi => ⟨fun h => ?_, fun h => ?_⟩⟩
  · rw [List.nil_append]; exact remS_zero hp
  · obtain ⟨k0, k1, hI⟩ := hi
    rw [remS_step (by omega) (by omega)] at hI
    have hll : l.length ≤ ss.length + 2 := by rw [← hlen, ← hI]; simp
    rw [wrap_id (by omega) (by omega)]
    dsimp only
    rw [show (k + 1).toNat = k.toNat + 1 by omega]
    have hlt : k < ss.length ↔ k.toNat < ss.length := by omega
    have hki : k = i ↔ k.toNat = i.toNat := by omega
    have hkj : k = j ↔ k.toNat = j.toNat := by omega
    have fin : ∀ l' : List Stop, l' ++ remS ss id i.toNat j.toNat (k.toNat + 1) = putS ss id i j → (0 ≤ k + 1 ∧ k + 1 ≤ ss.length + 1 ∧ l' ++ remS ss id i.toNat j.toNat (k.toNat + 1) = putS ss id i j) ∧ ss.length + 2 - (k.toNat + 1) < ss.length + 2 - k.toNat := fun l' h' => ⟨⟨by omega, by omega, h'⟩, by omega⟩
    have leng : ∀ l' : List Stop, l' ++ remS ss id i.toNat j.toNat (k.toNat + 1) = putS ss id i j → l'.length ≤ ss.length + 2 := fun l' h' => by rw [← hlen, ← h']; simp
    refine ⟨fun h1 => ?_, fun h1 => ?_⟩
    · rw [if_pos (hki.1 h1)] at hI
      refine ⟨?_, fun h2 => ?_, fun h2 => ?_⟩
      · have : (l ++ [Stop.mk id false]).length ≤ ss.length + 2 := by rw [← hlen, ← hI]; simp <;> omega
        simp at this ⊢; omega
      · rw [if_pos (hkj.1 h2)] at hI
        refine ⟨?_, fun h3 => ?_, fun h3 => ?_⟩
        · have : (l ++ [Stop.mk id false] ++ [Stop.mk id true]).length ≤ ss.length + 2 := by rw [← hlen, ← hI]; simp <;> omega
          simp at this ⊢; omega
        · rw [if_pos (hlt.1 h3)] at hI
          have e : l ++ [Stop.mk id false] ++ [Stop.mk id true] ++ [ss.getD k.toNat (FK.zero .stop)] ++ remS ss id i.toNat j.toNat (k.toNat + 1) = putS ss id i j := by rw [← hI]; simp
          refine ⟨⟨k0, h3⟩, by omega, ?_, fin _ e⟩
          have := leng _ e
          simp at this ⊢; omega
        · rw [if_neg (by omega)] at hI
          exact fin _ (by rw [← hI]; simp)
      · rw [if_neg (by omega)] at hI
        refine ⟨fun h3 => ?_, fun h3 => ?_⟩
        · rw [if_pos (hlt.1 h3)] at hI
          have e : l ++ [Stop.mk id false] ++ [ss.getD k.toNat (FK.zero .stop)] ++ remS ss id i.toNat j.toNat (k.toNat + 1) = putS ss id i j := by rw [← hI]; simp
          refine ⟨⟨k0, h3⟩, by omega, ?_, fin _ e⟩
          have := leng _ e
          simp at this ⊢; omega
        · rw [if_neg (by omega)] at hI
          exact fin _ (by rw [← hI]; simp)
    · rw [if_neg (by omega)] at hI
      refine ⟨fun h2 => ?_, fun h2 => ?_⟩
      · rw [if_pos (hkj.1 h2)] at hI
        refine ⟨?_, fun h3 => ?_, fun h3 => ?_⟩
        · have : (l ++ [Stop.mk id true]).length ≤ ss.length + 2 := by rw [← hlen, ← hI]; simp <;> omega
          simp at this ⊢; omega
        · rw [if_pos (hlt.1 h3)] at hI
          have e : l ++ [Stop.mk id true] ++ [ss.getD k.toNat (FK.zero .stop)] ++ remS ss id i.toNat j.toNat (k.toNat + 1) = putS ss id i j := by rw [← hI]; simp
          refine ⟨⟨k0, h3⟩, by omega, ?_, fin _ e⟩
          have := leng _ e
          simp at this ⊢; omega
        · rw [if_neg (by omega)] at hI
          exact fin _ (by rw [← hI]; simp)
      · rw [if_neg (by omega)] at hI
        refine ⟨fun h3 => ?_, fun h3 => ?_⟩
        · rw [if_pos (hlt.1 h3)] at hI
          have e : l ++ [ss.getD k.toNat (FK.zero .stop)] ++ remS ss id i.toNat j.toNat (k.toNat + 1) = putS ss id i j := by rw [← hI]; simp
          refine ⟨⟨k0, h3⟩, by omega, ?_, fin _ e⟩
          have := leng _ e
          simp at this ⊢; omega
        · rw [if_neg (by omega)] at hI
          exact fin _ (by rw [← hI]; simp)
  · obtain ⟨k0, k1, hI⟩ := hi
    rw [remS_end (by omega) (by omega) (by omega), List.append_nil] at hI
    exact hI
theorem rSput_t : Told Try.prog 71 rSput_con := rSput_told csOk_nil rSput_ok
theorem findO_isNone {os : List Order} {id : Int} : (findO os id).isNone = !(findO os id).isSome := by cases findO os id <;> rfl
theorem fits_out {m : Option MapD} {d : Driver} {os : List Order} {ss : List Stop} {o : Order} {i j : Int} (h : ¬ (0 ≤ i ∧ i ≤ j ∧ j ≤ ss.length)) : fits m d os ss o i j = false := by
  have : putOk ss i j = false := by
    cases hh : putOk ss i j with
    | false => rfl
    | true => exact absurd (putOk_iff.1 hh) h
  simp [fits, this]
theorem fits_in {m : Option MapD} {d : Driver} {os : List Order} {ss : List Stop} {o : Order} {i j : Int} (h : 0 ≤ i ∧ i ≤ j ∧ j ≤ ss.length) : fits m d os ss o i j = (good (fauR (drive m d os ss)) && !(findO os o.id).isSome && good (fauR (drive m d (os ++ [o]) (putS ss o.id i j)))) := by
  unfold fits
  rw [putOk_iff.2 h, findO_isNone, Bool.true_and]
theorem sfits_gen (m : Option MapD) (d : Driver) (os : List Order) (ss : List Stop) (o : Order) (i j : Int) (hl : LenOk os.length) (hm : MapOkO m) (hb : os.length * 80 ≤ 140737488351232) (hb' : ss.length * 16 ≤ 140737488351232) :
    (0 ≤ i → (i ≤ j → ((ss.length : Int) < j → false = fits m d os ss o i j) ∧ (j ≤ ss.length → MapOkO m ∧ (good (fauR (drive m d os ss)) = true → ((findO os o.id).isSome = true → false = fits m d os ss o i j) ∧
      ((findO os o.id).isSome = false → ((0 : Int) ≤ 0 ∧ 0 ≤ wrap (↑os.length + 1) ∧ wrap (↑os.length + 1) * (8 * ((10 : Nat) : Int)) ≤ 281474976710656) ∧ ((List.replicate (Int.toNat 0) (FK.zero .order)).length + os.length) * (8 * 10) ≤ 140737488355328 ∧
        ((List.replicate (Int.toNat 0) (FK.zero .order) ++ os).length + [o].length) * (8 * 10) ≤ 140737488355328 ∧ ss.length * 16 ≤ 140737488351232 ∧ MapOkO m ∧ good (fauR (drive m d (List.replicate (Int.toNat 0) (FK.zero .order) ++ os ++ [o]) (putS ss o.id i j))) = fits m d os ss o i j)) ∧
      (good (fauR (drive m d os ss)) = false → false = fits m d os ss o i j))) ∧ (j < i → false = fits m d os ss o i j)) ∧ (i < 0 → false = fits m d os ss o i j) := by
  have hl := hl.le
  refine ⟨fun h1 => ⟨fun h2 => ⟨fun h3 => (fits_out (by omega)).symm, fun h3 => ⟨hm, fun h4 => ⟨fun h5 => ?_, fun h5 => ?_⟩, fun h4 => ?_⟩⟩, fun h2 => (fits_out (by omega)).symm⟩, fun h1 => (fits_out (by omega)).symm⟩
  · rw [fits_in ⟨h1, h2, h3⟩, h5]; simp
  · rw [fits_in ⟨h1, h2, h3⟩, h5, h4, wrap_id (by omega) (by omega)]
    refine ⟨by omega, by simp; omega, by simp; omega, by omega, hm, ?_⟩
    simp
  · rw [fits_in ⟨h1, h2, h3⟩, h4]; simp
theorem sfits_ok : sfits_vc := by
  unfold sfits_vc
  simp only [bad_false, int0, nilOf, decide_eq_true_eq, decide_eq_false_iff_not, Bool.not_eq_true', Bool.not_eq_false', Bool.not_true, Bool.not_false, Bool.false_eq_true, Bool.true_eq_false, eq_self, true_and, and_true, false_or, or_false, false_implies, true_implies, implies_true, Int.not_lt, Int.not_le, gt_iff_lt, ge_iff_le, ne_eq]
  exact ⟨fun d os hl ss _ o i j ⟨hm, hb, hb'⟩ => sfits_gen none d os ss o i j hl hm hb hb', fun m _ d os hl ss _ o i j ⟨hm, hb, hb'⟩ => sfits_gen (some m) d os ss o i j hl hm hb hb'⟩
theorem sfits_t : Told Try.prog 15 sfits_con := sfits_told (csOk_cons drive_t (csOk_cons find_t (csOk_cons goodF_t (csOk_cons sput_t csOk_nil)))) sfits_ok

/-! ### Latest times -/
theorem last_bound (w : Win) (s u : Int) : 0 ≤ (last_ w s u).1 ∧ (last_ w s u).1 ≤ 1000000 := by
  unfold last_
  split
  · rename_i h
    simp only [Bool.and_eq_true, decide_eq_true_eq] at h
    obtain ⟨⟨⟨h1, h2⟩, h3⟩, h4⟩ := h
    have := right_iff.1 h1
    dsimp only
    omega
  · exact ⟨by decide, by decide⟩
theorem last_ref {w : Win} {s u : Int} (h0 : 0 ≤ s) (h1 : s ≤ 1000000) (hu : -10000000 ≤ u) (hu' : u ≤ 10000000) : lastRef w s u = last_ w s u := by
  unfold lastRef last_
  rw [wrap_id (by omega) (by omega)]
  cases hr : right w with
  | false => simp
  | true =>
    have := right_iff.1 hr
    by_cases h : w.lo ≤ u - s
    · rw [if_pos (by simp; omega), if_pos (by omega), if_pos (by simp; omega)]
    · rw [if_neg (c := (true && decide (0 ≤ s) && decide (0 ≤ u) && decide (w.lo ≤ u - s)) = true) (by simp; omega)]
      split
      · rw [if_neg (by omega)]
      · rfl
theorem latest_bound {m : MapD} {d : Driver} {os : List Order} : ∀ (l : List Stop), ∀ t ∈ latest m d os l, 0 ≤ t ∧ t ≤ 1000000
  | [], t, h => by cases h
  | s :: l, t, h => by
    unfold latest at h
    rcases List.mem_cons.1 h with rfl | h
    · exact last_bound _ _ _
    · exact latest_bound l t h
theorem latest_length {m : MapD} {d : Driver} {os : List Order} : ∀ (l : List Stop), (latest m d os l).length = l.length
  | [] => rfl
  | s :: l => by simp [latest, latest_length l]
theorem rep_set {α : Type} (k : Nat) (z v : α) (L : List α) : (List.replicate (k + 1) z ++ L).set k v = List.replicate k z ++ v :: L := by
  rw [List.replicate_succ', List.append_assoc, List.set_append_right _ _ (by simp)]
  simp
theorem rep_get {α : Type} (k : Nat) (z v d : α) (L : List α) : (List.replicate k z ++ v :: L).getD k d = v := by
  simp [List.getD_eq_getElem?_getD]
def behindOf (os : List Order) : List Stop → Int
  | [] => -1
  | s :: _ => (stopSite os s).pl
end Go.Eng

/- Plans copied, stops put in and taken out, in plain words; what the functions tell. -/
set_option linter.unusedVariables false
set_option linter.unusedSimpArgs false
namespace Go.Eng
open Go Go.Proofs
/-- A list of routes that fits into memory. -/
def PlanFits (p : List Route) : Prop := p.length * 40 ≤ 140737488351232 ∧ ∀ r ∈ p, r.stops.length * 16 ≤ 140737488351232
noncomputable def sameP (a b : List Route) : Bool := @decide (a = b) (Classical.propDecidable _)
def begunP (id : Int) (p : List Route) : Bool := p.any fun r => (r.stops.take r.served.toNat).any fun s => decide (s.order = id)
def goneP (p : List Route) (ids : List Int) (id : Int) : Bool := ids.contains id && !begunP id p
def keepS (p : List Route) (ids : List Int) (ss : List Stop) : List Stop := ss.filter fun s => !goneP p ids s.order
def withoutP (p : List Route) (ids : List Int) : List Route := p.map fun r => ⟨r.driver, r.served, keepS p ids r.stops⟩
def spotOk (r : Route) (s : Spot) : Bool := decide (r.stops.length ≤ 78) && decide (r.served ≤ s.pick) && decide (s.pick ≤ s.drop) && decide (s.drop ≤ r.stops.length)
def withAt (id : Int) (s : Spot) : List Route → Option (List Route)
  | [] => none
  | r :: l => if r.driver = s.driver then (if spotOk r s then some (⟨r.driver, r.served, putS r.stops id s.pick s.drop⟩ :: l) else none) else match withAt id s l with | none => none | some l' => some (r :: l')
noncomputable def withP (p : List Route) (id : Int) (s : Spot) : Option (List Route) := if rightP p && decide (1 ≤ id) && decide (id ≤ 1000000) && (findP id p).isNone then withAt id s p else none
/-! ### Contracts -/
def kcopy_con : Con := ⟨[.c (.a .route)], fun p => ⟨some (PlanFits p), [⟨none, [.c (.od .route 41 p)]⟩]⟩⟩
def kcopy_cs : Cons := []
def kcopy_la : List (Nat × LA) := [(3, ⟨[0], [.appd 3 .route 41, .i 4]⟩)]
def pcopy_con : Con := ⟨[.c (.a .route)], fun p => ⟨some (PlanFits p), [⟨none, [.c (.od .route 41 p)]⟩]⟩⟩
def pcopy_cs : Cons := []
def pcopy_la : List (Nat × LA) := [(3, ⟨[6, 7], [.appd 3 .route 41, .i 8]⟩)]
noncomputable def kroutes_con : Con := ⟨[.c (.a .route), .c (.a .route)], fun a b => one [.c (.b (sameP a b))]⟩
noncomputable def kroutes_cs : Cons := [(49, sameS_con)]
def kroutes_la : List (Nat × LA) := [(4, ⟨[0, 1], [.i 5]⟩)]
noncomputable def pwith_con : Con := ⟨[.c (.a .route), .c .i, .r (.f .spot)], fun p id s => one [.c (.od .route 41 ((withP p id s).getD [])), .c (.b (withP p id s).isSome)]⟩
noncomputable def pwith_cs : Cons := [(36, pfind_con), (37, pright_con), (38, pcopy_con), (16, sput_con)]
def pwith_la : List (Nat × LA) := [(5, ⟨[0, 1, 5, 33, 34], [.i 35]⟩)]
end Go.Eng

/- The conditions of functions, as print.. of the engine told them. -/
set_option linter.unusedVariables false
namespace Go.Eng
open Go Go.Proofs
def kcopy_vc : Prop :=
  ∀ (x : List Route), (LenOk x.length ∧ ∀ (r : Route), List.Mem r x → LenOk r.stops.length) → (x.length * (40 : Nat) ≤ (140737488351232 : Nat) ∧ ∀ (r : Route), List.Mem r x → r.stops.length * (16 : Nat) ≤ (140737488351232 : Nat)) → ∃ (inv :
  List Route → Int → Prop), ∃ (μ : List Route → Int → Nat), (((0 : Int) = (0 : Int) ∧ nilOf Route = nilOf Route ∧ x = x) ∧ inv [] (0 : Int)) ∧ ∀ (x_3 : List Route) (x_4 : Int), inv x_3 x_4 → (decide (x_4 < (↑x.length : Int)) = true → ((0 :
  Int) ≤ x_4 ∧ x_4 < (↑x.length : Int)) ∧ x_4.toNat < x.length ∧ ((0 : Int) ≤ x_4 ∧ x_4 < (↑x.length : Int)) ∧ x_4.toNat < x.length ∧ ((0 : Int) ≤ x_4 ∧ x_4 < (↑x.length : Int)) ∧ x_4.toNat < x.length ∧ (True ∧ ((0 : Nat) + (x.getD x_4.toNat
  (Route.mk (0 : Int) (0 : Int) [])).stops.length) * ((8 : Nat) * (2 : Nat)) ≤ (140737488355328 : Nat)) ∧ (x_3.length + [Route.mk (x.getD x_4.toNat (Route.mk (0 : Int) (0 : Int) [])).driver (x.getD x_4.toNat (Route.mk (0 : Int) (0 : Int)
  [])).served ([] ++ (x.getD x_4.toNat (Route.mk (0 : Int) (0 : Int) [])).stops)].length) * K.route.byt ≤ (140737488355328 : Nat) ∧ (wrap (x_4 + (1 : Int)) = wrap (x_4 + (1 : Int)) ∧ x_3 ++ [Route.mk (x.getD x_4.toNat (Route.mk (0 : Int) (0 :
  Int) [])).driver (x.getD x_4.toNat (Route.mk (0 : Int) (0 : Int) [])).served ([] ++ (x.getD x_4.toNat (Route.mk (0 : Int) (0 : Int) [])).stops)] = x_3 ++ [Route.mk (x.getD x_4.toNat (Route.mk (0 : Int) (0 : Int) [])).driver (x.getD
  x_4.toNat (Route.mk (0 : Int) (0 : Int) [])).served ([] ++ (x.getD x_4.toNat (Route.mk (0 : Int) (0 : Int) [])).stops)] ∧ x = x) ∧ inv (x_3 ++ [Route.mk (x.getD x_4.toNat (Route.mk (0 : Int) (0 : Int) [])).driver (x.getD x_4.toNat (Route.mk
  (0 : Int) (0 : Int) [])).served ([] ++ (x.getD x_4.toNat (Route.mk (0 : Int) (0 : Int) [])).stops)]) (wrap (x_4 + (1 : Int))) ∧ μ (x_3 ++ [Route.mk (x.getD x_4.toNat (Route.mk (0 : Int) (0 : Int) [])).driver (x.getD x_4.toNat (Route.mk (0 :
  Int) (0 : Int) [])).served ([] ++ (x.getD x_4.toNat (Route.mk (0 : Int) (0 : Int) [])).stops)]) (wrap (x_4 + (1 : Int))) < μ x_3 x_4) ∧ (decide (x_4 < (↑x.length : Int)) = false → x_3 = x)
theorem kcopy_told (hc : CsOk Try.prog kcopy_cs) (h : kcopy_vc) : Told Try.prog 23 kcopy_con := told (A := kcopy_la) tabOk mixed hc Try.func23 (by kernel_rfl) (by kernel_rfl) h
def pcopy_vc : Prop :=
  ∀ (x : List Route), (LenOk x.length ∧ ∀ (r : Route), List.Mem r x → LenOk r.stops.length) → (x.length * (40 : Nat) ≤ (140737488351232 : Nat) ∧ ∀ (r : Route), List.Mem r x → r.stops.length * (16 : Nat) ≤ (140737488351232 : Nat)) → ∃ (inv :
  List Route → Int → Prop), ∃ (μ : List Route → Int → Nat), ((((↑x.length : Int) = (↑x.length : Int) ∧ (0 : Int) = (0 : Int)) ∧ x = x ∧ nilOf Route = nilOf Route) ∧ inv [] (0 : Int)) ∧ ∀ (x_3 : List Route) (x_4 : Int), inv x_3 x_4 → (decide
  (x_4 < (↑x.length : Int)) = true → ((0 : Int) ≤ x_4 ∧ x_4 < (↑x.length : Int)) ∧ x_4.toNat < x.length ∧ (True ∧ (x.getD x_4.toNat (Route.mk (0 : Int) (0 : Int) [])).stops.length * ((8 : Nat) * (2 : Nat)) ≤ (140737488355328 : Nat)) ∧
  (x_3.length + [x.getD x_4.toNat (Route.mk (0 : Int) (0 : Int) [])].length) * K.route.byt ≤ (140737488355328 : Nat) ∧ (((↑x.length : Int) = (↑x.length : Int) ∧ wrap (x_4 + (1 : Int)) = wrap (x_4 + (1 : Int))) ∧ x = x ∧ x_3 ++ [x.getD
  x_4.toNat (Route.mk (0 : Int) (0 : Int) [])] = x_3 ++ [x.getD x_4.toNat (Route.mk (0 : Int) (0 : Int) [])]) ∧ inv (x_3 ++ [x.getD x_4.toNat (Route.mk (0 : Int) (0 : Int) [])]) (wrap (x_4 + (1 : Int))) ∧ μ (x_3 ++ [x.getD x_4.toNat (Route.mk
  (0 : Int) (0 : Int) [])]) (wrap (x_4 + (1 : Int))) < μ x_3 x_4) ∧ (decide (x_4 < (↑x.length : Int)) = false → x_3 = x)
theorem pcopy_told (hc : CsOk Try.prog pcopy_cs) (h : pcopy_vc) : Told Try.prog 38 pcopy_con := told (A := pcopy_la) tabOk mixed hc Try.func38 (by kernel_rfl) (by kernel_rfl) h
def kroutes_vc : Prop :=
  ∀ (x : List Route), (LenOk x.length ∧ ∀ (r : Route), List.Mem r x → LenOk r.stops.length) → ∀ (x_2 : List Route), (LenOk x_2.length ∧ ∀ (r : Route), List.Mem r x_2 → LenOk r.stops.length) → ((!decide ((↑x.length : Int) = (↑x_2.length :
  Int))) = true → false = sameP x x_2) ∧ ((!decide ((↑x.length : Int) = (↑x_2.length : Int))) = false → ∃ (inv : Int → Prop), ∃ (μ : Int → Nat), (((0 : Int) = (0 : Int) ∧ x_2 = x_2 ∧ x = x) ∧ inv (0 : Int)) ∧ ∀ (x_5 : Int), inv x_5 → (decide
  (x_5 < (↑x.length : Int)) = true → ((0 : Int) ≤ x_5 ∧ x_5 < (↑x.length : Int)) ∧ x_5.toNat < x.length ∧ ((0 : Int) ≤ x_5 ∧ x_5 < (↑x_2.length : Int)) ∧ x_5.toNat < x_2.length ∧ ((!decide ((x.getD x_5.toNat (Route.mk (0 : Int) (0 : Int)
  [])).driver = (x_2.getD x_5.toNat (Route.mk (0 : Int) (0 : Int) [])).driver)) = false → ((0 : Int) ≤ x_5 ∧ x_5 < (↑x.length : Int)) ∧ x_5.toNat < x.length ∧ ((0 : Int) ≤ x_5 ∧ x_5 < (↑x_2.length : Int)) ∧ x_5.toNat < x_2.length ∧ ((!decide
  ((x.getD x_5.toNat (Route.mk (0 : Int) (0 : Int) [])).served = (x_2.getD x_5.toNat (Route.mk (0 : Int) (0 : Int) [])).served)) = false → ((0 : Int) ≤ x_5 ∧ x_5 < (↑x.length : Int)) ∧ x_5.toNat < x.length ∧ ((0 : Int) ≤ x_5 ∧ x_5 <
  (↑x_2.length : Int)) ∧ x_5.toNat < x_2.length ∧ ((!same (x.getD x_5.toNat (Route.mk (0 : Int) (0 : Int) [])).stops (x_2.getD x_5.toNat (Route.mk (0 : Int) (0 : Int) [])).stops) = true → false = sameP x x_2) ∧ ((!same (x.getD x_5.toNat
  (Route.mk (0 : Int) (0 : Int) [])).stops (x_2.getD x_5.toNat (Route.mk (0 : Int) (0 : Int) [])).stops) = false → (wrap (x_5 + (1 : Int)) = wrap (x_5 + (1 : Int)) ∧ x_2 = x_2 ∧ x = x) ∧ inv (wrap (x_5 + (1 : Int))) ∧ μ (wrap (x_5 + (1 :
  Int))) < μ x_5)) ∧ ((!decide ((x.getD x_5.toNat (Route.mk (0 : Int) (0 : Int) [])).served = (x_2.getD x_5.toNat (Route.mk (0 : Int) (0 : Int) [])).served)) = !false → false = sameP x x_2)) ∧ ((!decide ((x.getD x_5.toNat (Route.mk (0 : Int)
  (0 : Int) [])).driver = (x_2.getD x_5.toNat (Route.mk (0 : Int) (0 : Int) [])).driver)) = !false → false = sameP x x_2)) ∧ (decide (x_5 < (↑x.length : Int)) = false → true = sameP x x_2))
theorem kroutes_told (hc : CsOk Try.prog kroutes_cs) (h : kroutes_vc) : Told Try.prog 25 kroutes_con := told (A := kroutes_la) tabOk mixed hc Try.func25 (by kernel_rfl) (by kernel_rfl) h
def pwith_vc : Prop :=
  ∀ (x : List Route), (LenOk x.length ∧ ∀ (r : Route), List.Mem r x → LenOk r.stops.length) → ∀ (x_2 : Int) (x_3 : Spot), ((!rightP x) = false → (decide (x_2 < (1 : Int)) = false → (decide (x_2 > (1000000 : Int)) = false → ((findP x_2
  x).isSome = true → false = (withP x x_2 x_3).isSome ∧ (withP x x_2 x_3).getD [] = nilOf Route) ∧ ((findP x_2 x).isSome = false → ∃ (inv : Int → Prop), ∃ (μ : Int → Nat), (((x_2 = x_2 ∧ (↑x.length : Int) = (↑x.length : Int) ∧ (0 : Int) = (0
  : Int)) ∧ (x_3.driver = x_3.driver ∧ x_3.pick = x_3.pick ∧ x_3.drop = x_3.drop ∧ x_3.cost = x_3.cost) ∧ x = x) ∧ inv (0 : Int)) ∧ ∀ (x_8 : Int), inv x_8 → (decide (x_8 < (↑x.length : Int)) = true → ((0 : Int) ≤ x_8 ∧ x_8 < (↑x.length :
  Int)) ∧ x_8.toNat < x.length ∧ ((!decide ((x.getD x_8.toNat (Route.mk (0 : Int) (0 : Int) [])).driver = x_3.driver)) = true → ((x_2 = x_2 ∧ (↑x.length : Int) = (↑x.length : Int) ∧ wrap (x_8 + (1 : Int)) = wrap (x_8 + (1 : Int))) ∧
  (x_3.driver = x_3.driver ∧ x_3.pick = x_3.pick ∧ x_3.drop = x_3.drop ∧ x_3.cost = x_3.cost) ∧ x = x) ∧ inv (wrap (x_8 + (1 : Int))) ∧ μ (wrap (x_8 + (1 : Int))) < μ x_8) ∧ ((!decide ((x.getD x_8.toNat (Route.mk (0 : Int) (0 : Int)
  [])).driver = x_3.driver)) = false → (decide ((↑(x.getD x_8.toNat (Route.mk (0 : Int) (0 : Int) [])).stops.length : Int) > (78 : Int)) = false → (decide (x_3.pick < (x.getD x_8.toNat (Route.mk (0 : Int) (0 : Int) [])).served) = false →
  (decide (x_3.drop < x_3.pick) = false → (decide (x_3.drop > (↑(x.getD x_8.toNat (Route.mk (0 : Int) (0 : Int) [])).stops.length : Int)) = true → false = (withP x x_2 x_3).isSome ∧ (withP x x_2 x_3).getD [] = nilOf Route) ∧ (decide (x_3.drop
  > (↑(x.getD x_8.toNat (Route.mk (0 : Int) (0 : Int) [])).stops.length : Int)) = false → (x.length * (40 : Nat) ≤ (140737488351232 : Nat) ∧ ∀ (r : Route), List.Mem r x → r.stops.length * (16 : Nat) ≤ (140737488351232 : Nat)) ∧ (x.getD
  x_8.toNat (Route.mk (0 : Int) (0 : Int) [])).stops.length * (16 : Nat) ≤ (140737488351232 : Nat) ∧ ((0 : Int) ≤ x_8 ∧ x_8 < (↑x.length : Int)) ∧ x_8.toNat < x.length ∧ true = (withP x x_2 x_3).isSome ∧ x.set x_8.toNat (Route.mk (x.getD
  x_8.toNat (Route.mk (0 : Int) (0 : Int) [])).driver (x.getD x_8.toNat (Route.mk (0 : Int) (0 : Int) [])).served (putS (x.getD x_8.toNat (Route.mk (0 : Int) (0 : Int) [])).stops x_2 x_3.pick x_3.drop)) = (withP x x_2 x_3).getD [])) ∧ (decide
  (x_3.drop < x_3.pick) = !false → false = (withP x x_2 x_3).isSome ∧ (withP x x_2 x_3).getD [] = nilOf Route)) ∧ (decide (x_3.pick < (x.getD x_8.toNat (Route.mk (0 : Int) (0 : Int) [])).served) = !false → false = (withP x x_2 x_3).isSome ∧
  (withP x x_2 x_3).getD [] = nilOf Route)) ∧ (decide ((↑(x.getD x_8.toNat (Route.mk (0 : Int) (0 : Int) [])).stops.length : Int) > (78 : Int)) = !false → false = (withP x x_2 x_3).isSome ∧ (withP x x_2 x_3).getD [] = nilOf Route))) ∧ (decide
  (x_8 < (↑x.length : Int)) = false → false = (withP x x_2 x_3).isSome ∧ (withP x x_2 x_3).getD [] = nilOf Route))) ∧ (decide (x_2 > (1000000 : Int)) = !false → false = (withP x x_2 x_3).isSome ∧ (withP x x_2 x_3).getD [] = nilOf Route)) ∧
  (decide (x_2 < (1 : Int)) = !false → false = (withP x x_2 x_3).isSome ∧ (withP x x_2 x_3).getD [] = nilOf Route)) ∧ ((!rightP x) = !false → false = (withP x x_2 x_3).isSome ∧ (withP x x_2 x_3).getD [] = nilOf Route)
theorem pwith_told (hc : CsOk Try.prog pwith_cs) (h : pwith_vc) : Told Try.prog 18 pwith_con := told (A := pwith_la) tabOk mixed hc Try.func18 (by kernel_rfl) (by kernel_rfl) h
end Go.Eng

/- Plans copied, stops put in and taken out: it is so. -/
set_option linter.unusedVariables false
set_option linter.unusedSimpArgs false
namespace Go.Eng
open Go Go.Proofs
theorem takeS {α : Type} {l : List α} {i : Nat} (d : α) (h : i < l.length) : l.take (i + 1) = l.take i ++ [l.getD i d] := by
  rw [List.take_succ_eq_append_getElem h, getD_get d h]
theorem kcopy_ok : kcopy_vc := by
  unfold kcopy_vc
  simp only [bad_false, int0, nilOf, decide_eq_true_eq, decide_eq_false_iff_not, Bool.not_eq_true', Bool.not_eq_false', Bool.not_true, Bool.not_false, Bool.false_eq_true, Bool.true_eq_false, eq_self, true_and, and_true, false_or, or_false, false_implies, true_implies, implies_true, Int.not_lt, Int.not_le, gt_iff_lt, ge_iff_le, ne_eq]
  rintro x ⟨hl, hr⟩ ⟨hb, hb'⟩
  have hl := hl.le
  refine ⟨fun o i => 0 ≤ i ∧ i ≤ x.length ∧ o = x.take i.toNat, fun _ i => x.length - i.toNat, ⟨by omega, by omega, by simp⟩, fun o i hi => ⟨fun h => ?_, fun h => ?_⟩⟩
  · obtain ⟨h0, h1, rfl⟩ := hi
    obtain ⟨e1, e2, e3, e4⟩ := ix rz hl h0 h
    have hm := hb' _ (getD_mem rz e3)
    rw [e1]; dsimp only; rw [e2, takeS rz e3]
    change List Route at x
    generalize x.getD i.toNat { driver := 0, served := 0, stops := [] } = r at *
    refine ⟨⟨h0, h⟩, e3, ⟨h0, h⟩, e3, ⟨h0, h⟩, e3, by omega, ?_, ⟨by omega, by omega, by simp⟩, by omega⟩
    simp only [K.byt, List.length_take, List.length_cons, List.length_nil]; omega
  · obtain ⟨h0, h1, rfl⟩ := hi
    exact List.take_of_length_le (by omega)
theorem kcopy_t : Told Try.prog 23 kcopy_con := kcopy_told csOk_nil kcopy_ok
theorem pcopy_ok : pcopy_vc := by
  unfold pcopy_vc
  simp only [bad_false, int0, nilOf, decide_eq_true_eq, decide_eq_false_iff_not, Bool.not_eq_true', Bool.not_eq_false', Bool.not_true, Bool.not_false, Bool.false_eq_true, Bool.true_eq_false, eq_self, true_and, and_true, false_or, or_false, false_implies, true_implies, implies_true, Int.not_lt, Int.not_le, gt_iff_lt, ge_iff_le, ne_eq]
  rintro x ⟨hl, hr⟩ ⟨hb, hb'⟩
  have hl := hl.le
  refine ⟨fun o i => 0 ≤ i ∧ i ≤ x.length ∧ o = x.take i.toNat, fun _ i => x.length - i.toNat, ⟨by omega, by omega, by simp⟩, fun o i hi => ⟨fun h => ?_, fun h => ?_⟩⟩
  · obtain ⟨h0, h1, rfl⟩ := hi
    obtain ⟨e1, e2, e3, e4⟩ := ix rz hl h0 h
    have hm := hb' _ (getD_mem rz e3)
    rw [e1]; dsimp only; rw [e2, takeS rz e3]
    change List Route at x
    generalize x.getD i.toNat { driver := 0, served := 0, stops := [] } = r at *
    refine ⟨⟨h0, h⟩, e3, by omega, ?_, ⟨by omega, by omega, rfl⟩, by omega⟩
    simp only [K.byt, List.length_take, List.length_cons, List.length_nil]; omega
  · obtain ⟨h0, h1, rfl⟩ := hi
    exact List.take_of_length_le (by omega)
theorem pcopy_t : Told Try.prog 38 pcopy_con := pcopy_told csOk_nil pcopy_ok
theorem sameP_iff {a b : List Route} : sameP a b = true ↔ a = b := by simp [sameP]
theorem sameP_no {a b : List Route} (h : a ≠ b) : false = sameP a b := by simp [sameP, h]
theorem kroutes_ok : kroutes_vc := by
  unfold kroutes_vc
  simp only [bad_false, int0, nilOf, decide_eq_true_eq, decide_eq_false_iff_not, Bool.not_eq_true', Bool.not_eq_false', Bool.not_true, Bool.not_false, Bool.false_eq_true, Bool.true_eq_false, eq_self, true_and, and_true, false_or, or_false, false_implies, true_implies, implies_true, Int.not_lt, Int.not_le, gt_iff_lt, ge_iff_le, ne_eq]
  rintro x ⟨hl, hr⟩ y ⟨hl', hr'⟩
  have hl := hl.le
  refine ⟨fun hn => sameP_no fun e => hn (by rw [e]), fun hn => ⟨fun i => 0 ≤ i ∧ i ≤ x.length ∧ x.take i.toNat = y.take i.toNat, fun i => x.length - i.toNat, ⟨by omega, by omega, by simp⟩, fun i hi => ⟨fun h => ?_, fun h => ?_⟩⟩⟩
  · obtain ⟨h0, h1, hI⟩ := hi
    obtain ⟨e1, e2, e3, e4⟩ := ix rz hl h0 h
    have e3' : i.toNat < y.length := by omega
    have hT := takeS rz e3
    have hT' := takeS rz e3'
    have hne : x.getD i.toNat rz ≠ y.getD i.toNat rz → false = sameP x y := fun q => sameP_no fun e => q (by rw [e])
    rw [e1]; dsimp only; rw [e2]
    have b1 : 0 ≤ i ∧ i < (x.length : Int) := ⟨h0, h⟩
    have b2 : 0 ≤ i ∧ i < (y.length : Int) := ⟨h0, by omega⟩
    change List Route at x y
    generalize x.getD i.toNat { driver := 0, served := 0, stops := [] } = r at *
    generalize y.getD i.toNat { driver := 0, served := 0, stops := [] } = r' at *
    refine ⟨b1, e3, b2, e3', fun q1 => ⟨b1, e3, b2, e3', fun q2 => ⟨b1, e3, b2, e3', fun q3 => hne fun e => ?_, fun q3 => ⟨⟨by omega, by omega, ?_⟩, by omega⟩⟩, fun q2 => hne fun e => q2 (by rw [e])⟩, fun q1 => hne fun e => q1 (by rw [e])⟩
    · rw [e, same_self] at q3; cases q3
    · rw [hT, hT', hI]
      have : r = r' := by
        cases r; cases r'
        have q4 := same_iff.1 q3
        clear q3
        simp only at q1 q2 q4
        subst q1 q2 q4; rfl
      rw [this]
  · obtain ⟨h0, h1, hI⟩ := hi
    rw [List.take_of_length_le (by omega), List.take_of_length_le (by omega)] at hI
    exact (sameP_iff.2 hI).symm
theorem kroutes_t : Told Try.prog 25 kroutes_con := kroutes_told (csOk_cons sameS_t csOk_nil) kroutes_ok
theorem withAt_none {id : Int} {s : Spot} {p : List Route} (h : ∀ r ∈ p, r.driver ≠ s.driver) : withAt id s p = none := by
  induction p with
  | nil => rfl
  | cons r l ih =>
    rw [withAt, if_neg (h r (by simp)), ih fun q hq => h q (by simp [hq])]
theorem withAt_at {id : Int} {s : Spot} {p : List Route} {i : Nat} (hi : i < p.length) (hb : ∀ k, k < i → (p.getD k rz).driver ≠ s.driver) (hd : (p.getD i rz).driver = s.driver) :
    withAt id s p = if spotOk (p.getD i rz) s then some (p.set i ⟨(p.getD i rz).driver, (p.getD i rz).served, putS (p.getD i rz).stops id s.pick s.drop⟩) else none := by
  induction p generalizing i with
  | nil => simp at hi
  | cons r l ih =>
    cases i with
    | zero =>
      rw [withAt, List.getD_cons_zero] at *
      rw [if_pos hd]; rfl
    | succ i =>
      have h0 := hb 0 (by omega)
      rw [List.getD_cons_zero] at h0
      rw [withAt, if_neg h0, List.getD_cons_succ]
      rw [ih (by simpa using hi) (fun k hk => by simpa using hb (k + 1) (by omega)) (by simpa using hd)]
      by_cases e : spotOk (l.getD i rz) s
      · rw [if_pos e, if_pos e]; rfl
      · rw [if_neg e, if_neg e]
theorem withP_out {p : List Route} {id : Int} {s : Spot} (h : ¬ (rightP p = true ∧ 1 ≤ id ∧ id ≤ 1000000 ∧ findP id p = none)) : withP p id s = none := by
  unfold withP
  rw [if_neg]
  intro q
  simp [and_assoc] at q
  exact h ⟨q.1, q.2.1, q.2.2.1, by simpa using q.2.2.2⟩
theorem withP_in {p : List Route} {id : Int} {s : Spot} (h : rightP p = true ∧ 1 ≤ id ∧ id ≤ 1000000 ∧ findP id p = none) : withP p id s = withAt id s p := by
  unfold withP
  rw [if_pos]
  simp [h.1, h.2.1, h.2.2.1, h.2.2.2]
theorem pwith_ok : pwith_vc := by
  unfold pwith_vc
  simp only [bad_false, int0, nilOf, decide_eq_true_eq, decide_eq_false_iff_not, Bool.not_eq_true', Bool.not_eq_false', Bool.not_true, Bool.not_false, Bool.false_eq_true, Bool.true_eq_false, eq_self, true_and, and_true, false_or, or_false, false_implies, true_implies, implies_true, Int.not_lt, Int.not_le, gt_iff_lt, ge_iff_le, ne_eq]
  rintro x ⟨hl, hr⟩ id s
  have hl := hl.le
  have no : withP x id s = none → false = (withP x id s).isSome ∧ (withP x id s).getD [] = [] := fun h => by rw [h]; exact ⟨rfl, rfl⟩
  refine ⟨fun a => ⟨fun b => ⟨fun c => ⟨fun d => no (withP_out fun q => ?_), fun d => ?_⟩, fun c => no (withP_out fun q => by omega)⟩, fun b => no (withP_out fun q => by omega)⟩, fun a => no (withP_out fun q => by rw [q.1] at a; cases a)⟩
  · rw [q.2.2.2] at d; cases d
  have hn : findP id x = none := by simpa using d
  have hR := rightP_iff.1 a
  have hin := withP_in (s := s) ⟨a, b, c, hn⟩
  rw [hin] at no ⊢
  refine ⟨fun i => 0 ≤ i ∧ i ≤ x.length ∧ ∀ k, k < i.toNat → (x.getD k rz).driver ≠ s.driver, fun i => x.length - i.toNat, ⟨by omega, by omega, fun k hk => by simp at hk⟩, fun i hi => ⟨fun h => ?_, fun h => ?_⟩⟩
  · obtain ⟨h0, h1, hI⟩ := hi
    obtain ⟨e1, e2, e3, e4⟩ := ix rz hl h0 h
    rw [e1]; dsimp only; rw [e2]
    have hat := withAt_at (id := id) e3 hI
    have hfit : PlanFits x := ⟨by have := hR.1; omega, fun r hr => by have := (okR_mem hR.2 r hr).2.2.1; omega⟩
    refine ⟨⟨h0, h⟩, e3, fun q => ⟨⟨by omega, by omega, fun k hk => ?_⟩, by omega⟩, fun q => ?_⟩
    · by_cases e : k < i.toNat
      · exact hI k e
      · rw [show k = i.toNat by omega]; exact q
    have hat := hat q
    change List Route at x
    generalize hgr : x.getD i.toNat { driver := 0, served := 0, stops := [] } = r at *
    have bad : ¬ spotOk r s = true → false = (withAt id s x).isSome ∧ (withAt id s x).getD [] = [] := fun q => no (by rw [hat, if_neg q])
    refine ⟨fun f1 => ⟨fun f2 => ⟨fun f3 => ⟨fun f4 => bad fun q => ?_, fun f4 => ?_⟩, fun f3 => bad fun q => ?_⟩, fun f2 => bad fun q => ?_⟩, fun f1 => bad fun q => ?_⟩
    · simp [spotOk] at q; omega
    · have : spotOk r s = true := by simp [spotOk]; omega
      rw [hat, if_pos this]
      exact ⟨hfit, by omega, ⟨h0, h⟩, e3, rfl, rfl⟩
    · simp [spotOk] at q; omega
    · simp [spotOk] at q; omega
    · simp [spotOk] at q; omega
  · obtain ⟨h0, h1, hI⟩ := hi
    refine no (withAt_none ((forall_getD rz).2 fun k hk => hI k (by omega)))
theorem pwith_t : Told Try.prog 18 pwith_con := pwith_told (csOk_cons pfind_t (csOk_cons pright_t (csOk_cons pcopy_t (csOk_cons sput_t csOk_nil)))) pwith_ok
end Go.Eng

/- Plans: plain laws that others use. -/
set_option linter.unusedVariables false
set_option linter.unusedSimpArgs false
namespace Go.Eng
open Go Go.Proofs
theorem stands_iff {l : List Stop} {s : Stop} : stands l s = true ↔ s ∈ l := by
  unfold stands
  rw [List.any_eq_true]
  constructor
  · rintro ⟨x, hx, he⟩
    have : x = s := by cases x; cases s; simpa [sEq] using he
    exact this ▸ hx
  · intro h
    exact ⟨s, h, by simp [sEq]⟩
theorem whereS_iff {s : Stop} {l : List Stop} : (whereS s l < 0 ↔ stands l s = false) ∧ (0 ≤ whereS s l ↔ stands l s = true) := by
  have key : 0 ≤ whereS s l ↔ s ∈ l := by
    induction l with
    | nil => simp [whereS]
    | cons x l ih =>
      rw [whereS]
      by_cases e : x = s
      · rw [if_pos e]; simp [e]
      · rw [if_neg e]
        have e' : ¬ s = x := fun q => e q.symm
        have hb := (whereS_bound s l).1
        rw [List.mem_cons]
        by_cases h2 : whereS s l < 0
        · rw [if_pos h2]
          have : s ∉ l := fun q => by have := ih.2 q; omega
          simp [e', this]
        · rw [if_neg h2]
          have : s ∈ l := ih.1 (by omega)
          simp only [this, or_true, iff_true]
          omega
  constructor
  · rw [← Bool.not_eq_true, stands_iff, ← key]; omega
  · rw [stands_iff, ← key]
theorem stop_known {m : MapD} {os : List Order} {s : Stop} (hk : knownO (some m) os = true) (h : (findO os s.order).isSome = true) :
    SiteOk m (stopSite os s) ∧ (0 ≤ (stopSite os s).lo ∧ (stopSite os s).lo ≤ (stopSite os s).hi ∧ (stopSite os s).hi ≤ 1000000) ∧ 1 ≤ (fo os s.order).size ∧ (fo os s.order).size ≤ 1000 := by
  have ho := (fo_ok hk h).1
  refine ⟨siteOf_ok ho s.drop, ?_, ho.size⟩
  unfold stopSite siteOf
  split
  · exact ho.dw
  · exact ho.pw
theorem take_more {α : Type} {l : List α} {i : Nat} (d : α) (h : i < l.length) : l.take (i + 1) = l.take i ++ [l.getD i d] := by
  rw [List.take_succ_eq_append_getElem h, getD_get d h]
theorem findD_mem {id : Int} {l : List Driver} {d : Driver} (h : findD id l = some d) : d ∈ l ∧ d.id = id := by
  induction l with
  | nil => cases h
  | cons a l ih =>
    rw [findD] at h
    split at h
    · cases h; simp [*]
    · exact ⟨List.mem_cons_of_mem _ (ih h).1, (ih h).2⟩
theorem well_driver {m : MapD} {ds : List Driver} {os : List Order} {p : List Route} (h : wellP (some m) ds os p = true) {d : Driver} (hd : d ∈ ds) : driverE (some m) d = 0 := by
  obtain ⟨k, hk, rfl⟩ := List.getElem_of_mem hd
  have := (okD_iff.1 ((wellP_iff.1 h).2.2.2.2 k hk)).1
  rwa [getD_get _ hk] at this
theorem well_timed {m : MapD} {ds : List Driver} {os : List Order} {p : List Route} (hm : MapOk m) (h : wellP (some m) ds os p = true) {r : Route} (hr : r ∈ p) {d : Driver} (hd : d ∈ ds) : TimedPre m d os r.stops :=
  ⟨hm, driverE_ok (well_driver h hd), (wellP_iff.1 h).2.2.1, (okR_mem (rightP_iff.1 (wellP_iff.1 h).2.2.2.1).2 r hr).2.2.1⟩
theorem flatMap_drop {α β : Type} {f : α → List β} {l : List α} {i : Nat} (d : α) (h : i < l.length) : (l.drop i).flatMap f = f (l.getD i d) ++ (l.drop (i + 1)).flatMap f := by
  rw [getD_drop h, List.flatMap_cons]
theorem routed_self {last : Int} {all : List Stop} {p : List Route} (h : okR last all p) : ∀ r ∈ p, routed r.driver p = some r := by
  induction p generalizing last all with
  | nil => simp
  | cons a l ih =>
    intro r hr
    rw [routed]
    rcases List.mem_cons.1 hr with rfl | hr
    · rw [if_pos rfl]
    · have := (okR_mem h.2.2 r hr).1
      rw [if_neg (by omega)]
      exact ih h.2.2 r hr
theorem kept_self {p : List Route} : keptP p p = rightP p := by
  cases e : rightP p with
  | false => exact (kept_no fun h => right_ne e h.1).symm
  | true =>
    have hR := rightP_iff.1 e
    refine keptP_iff.2 ⟨hR, hR, fun r hr => by rw [routed_self hR.2 r hr]; rfl, fun r hr => ?_⟩
    unfold keptR; rw [routed_self hR.2 r hr]; exact ⟨rfl, rfl⟩
end Go.Eng

/- Certificates: it is so. -/
set_option linter.unusedVariables false
set_option linter.unusedSimpArgs false
namespace Go.Eng
open Go Go.Proofs
/-- What is still to be made. -/
theorem makeGo_step {m : MapD} {ds : List Driver} {os : List Order} {i : Nat} {r : Route} {l : List Route} {vs : List (List Visit)} {W : Except Fault (List (List Visit))} (h : W = match makeGo m ds os i (r :: l) with | .error f => .error f | .ok w => .ok (vs ++ w)) :
    (findD r.driver ds = none → W = .error ⟨i, 8⟩) ∧ (∀ d, findD r.driver ds = some d → (∀ f, drive (some m) d os r.stops = .error f → W = .error ⟨i, f.why⟩) ∧
      ∀ v, drive (some m) d os r.stops = .ok v → W = match makeGo m ds os (i + 1) l with | .error f => .error f | .ok w => .ok (vs ++ [v] ++ w)) := by
  rw [makeGo] at h
  refine ⟨fun e => by rw [e] at h; exact h, fun d e => ⟨fun f ef => by rw [e] at h; dsimp only at h; rw [ef] at h; exact h, fun v ev => ?_⟩⟩
  rw [e] at h; dsimp only at h; rw [ev] at h; dsimp only at h
  rw [h]
  cases makeGo m ds os (i + 1) l with
  | error f => rfl
  | ok w => simp
theorem well_drive {m : MapD} {ds : List Driver} {os : List Order} {p : List Route} (h : wellP (some m) ds os p = true) {r : Route} (hr : r ∈ p) {d : Driver} (hd : d ∈ ds) : drive (some m) d os r.stops = driveT m d os r.stops := by
  have hR := rightP_iff.1 (wellP_iff.1 h).2.2.2.1
  have : fitB (some m) d os r.stops = true := by
    simp [fitB, well_driver h hd, (wellP_iff.1 h).2.2.1, (okR_mem hR.2 r hr).2.2.1]
  unfold drive
  dsimp only
  rw [if_pos this]
theorem driveT_good {r : Except Fault (List Visit)} : (good (fauR r) = true → (∃ v, r = .ok v) ∨ ∃ f, r = .error f ∧ f.why = 0) ∧ (good (fauR r) = false → ∃ f, r = .error f) := by
  cases r with
  | ok v => exact ⟨fun _ => .inl ⟨v, rfl⟩, fun h => by simp [fauR, good] at h⟩
  | error f => exact ⟨fun h => .inr ⟨f, rfl, of_decide_eq_true h⟩, fun _ => ⟨f, rfl⟩⟩
theorem driveT_ok {m : MapD} {d : Driver} {os : List Order} {ss : List Stop} (h : good (fauR (driveT m d os ss)) = true) : ∃ v, driveT m d os ss = .ok v := by
  rcases driveT_good.1 h with h | ⟨f, h1, h2⟩
  · exact h
  · exact absurd h2 (driveGo_why h1)
theorem byt_rows : (K.rows FK.visit).byt = 24 := rfl
theorem cmake_ok : cmake_vc := by
  unfold cmake_vc
  simp only [bad_false, int0, nilOf, decide_eq_true_eq, decide_eq_false_iff_not, Bool.not_eq_true', Bool.not_eq_false', Bool.not_true, Bool.not_false, Bool.false_eq_true, Bool.true_eq_false, eq_self, true_and, and_true, false_or, or_false, false_implies, true_implies, implies_true, Int.not_lt, Int.not_le, gt_iff_lt, ge_iff_le, ne_eq]
  refine ⟨fun ds _ os _ p _ hmo => ⟨hmo, fun _ => ⟨⟨rfl, rfl⟩, rfl⟩, fun h => by cases h⟩, ?_⟩
  intro m hm ds hd os ho p hp hmo
  have hpl := hp.1.le
  refine ⟨hmo, fun h => by simp [makeP, h, cfauR, certR], fun hw => ?_⟩
  have hR := rightP_iff.1 (wellP_iff.1 hw).2.2.2.1
  have hM : makeP (some m) ds os p = makeGo m ds os 0 p := by simp [makeP, hw]
  rw [hM]
  refine ⟨fun vs i => 0 ≤ i ∧ i ≤ p.length ∧ vs.length ≤ i.toNat ∧ makeGo m ds os 0 p = (match makeGo m ds os i.toNat (p.drop i.toNat) with | .error f => .error f | .ok w => .ok (vs ++ w)), fun _ i => p.length - i.toNat, ⟨by omega, by omega, by simp, ?_⟩, fun vs i hi => ⟨fun h => ?_, fun h => ?_⟩⟩
  · simp only [Int.toNat_zero, List.drop_zero, List.nil_append]
    cases makeGo m ds os 0 p <;> rfl
  · obtain ⟨h0, h1, hL, hI⟩ := hi
    obtain ⟨e1, e2, e3, e4⟩ := ix rz hpl h0 h
    have hrm := getD_mem rz e3
    have h8 := hR.1
    rw [e4] at hI
    rw [e1]; dsimp only; rw [e2]
    obtain ⟨s1, s2⟩ := makeGo_step hI
    change List Route at p
    generalize p.getD i.toNat { driver := 0, served := 0, stops := [] } = r at *
    refine ⟨⟨h0, h⟩, e3, fun q => ?_, fun q => ?_⟩
    · rw [s1 (by simpa using q)]
      exact ⟨⟨by show i = ((i.toNat : Nat) : Int); omega, rfl⟩, rfl⟩
    · obtain ⟨d, hd'⟩ := Option.isSome_iff_exists.1 q
      obtain ⟨t1, t2⟩ := s2 d hd'
      have hwd := well_drive hw hrm (findD_mem hd').1
      rw [hd']
      dsimp only [Option.getD]
      rw [hwd] at t1 t2
      refine ⟨well_timed (hmo m rfl) hw hrm (findD_mem hd').1, fun g => ?_, fun g => ?_⟩
      · obtain ⟨f, hf⟩ := driveT_good.2 g
        rw [t1 f hf, hf]
        exact ⟨⟨by show i = ((i.toNat : Nat) : Int); omega, rfl⟩, rfl⟩
      · obtain ⟨v, hv⟩ := driveT_ok g
        rw [byt_rows, hv]
        refine ⟨by simp only [List.length_cons, List.length_nil]; omega, ⟨by omega, by omega, by simp only [List.length_append, List.length_cons, List.length_nil]; omega, t2 v hv⟩, by omega⟩
  · obtain ⟨h0, h1, hL, hI⟩ := hi
    rw [ixEnd h] at hI
    rw [hI]
    simp [makeGo, cfauR, certR]
theorem cmake_t : Told Try.prog 19 cmake_con := cmake_told (csOk_cons ctog_t (csOk_cons cdriver_t (csOk_cons timed_t (csOk_cons goodF_t csOk_nil)))) cmake_ok
end Go.Eng

/- Plans: plain laws of what is right, and what is kept. -/
set_option linter.unusedVariables false
set_option linter.unusedSimpArgs false
namespace Go.Eng
open Go Go.Proofs
theorem routed_driver {id : Int} {p : List Route} {r : Route} (h : routed id p = some r) : r.driver = id := (routed_mem h).2
theorem kept_trans {a b c : List Route} (h : KeptP a b) (h' : KeptP b c) : KeptP a c := by
  obtain ⟨ra, rb, h1, h2⟩ := h
  obtain ⟨_, rc, h3, h4⟩ := h'
  refine ⟨ra, rc, fun r hr => ?_, fun r hr => ?_⟩
  · obtain ⟨q, hq⟩ := Option.isSome_iff_exists.1 (h1 r hr)
    have := h3 q (routed_mem hq).1
    rwa [(routed_mem hq).2] at this
  · have hk := h4 r hr
    unfold keptR at hk ⊢
    cases e : routed r.driver b with
    | none =>
      rw [e] at hk
      cases e' : routed r.driver a with
      | none => exact hk
      | some p =>
        have := h1 p (routed_mem e').1
        rw [(routed_mem e').2, e] at this; cases this
    | some q =>
      rw [e] at hk
      have hq := h2 q (routed_mem e).1
      unfold keptR at hq
      rw [(routed_mem e).2] at hq
      dsimp only [Option.getD] at hk
      refine ⟨hk.1.trans hq.1, ?_⟩
      rw [hk.2, hk.1]; exact hq.2
/-- Routes of the same drivers, with the same done. -/
def SimR (r r' : Route) : Prop := r'.driver = r.driver ∧ r'.served = r.served ∧ r'.stops.take r.served.toNat = r.stops.take r.served.toNat
inductive SimL : List Route → List Route → Prop
  | nil : SimL [] []
  | cons {r r' : Route} {l l' : List Route} : SimR r r' → SimL l l' → SimL (r :: l) (r' :: l')
theorem SimL.refl : ∀ (l : List Route), SimL l l
  | [] => .nil
  | r :: l => .cons ⟨rfl, rfl, rfl⟩ (SimL.refl l)
theorem SimL.symm {l l' : List Route} (h : SimL l l') : SimL l' l := by
  induction h with
  | nil => exact .nil
  | cons h _ ih => exact .cons ⟨h.1.symm, h.2.1.symm, by rw [h.2.1]; exact h.2.2.symm⟩ ih
theorem SimL.routed {l l' : List Route} (h : SimL l l') (id : Int) : (routed id l = none → Go.Eng.routed id l' = none) ∧ ∀ r, routed id l = some r → ∃ r', Go.Eng.routed id l' = some r' ∧ SimR r r' := by
  induction h with
  | nil => exact ⟨fun _ => rfl, fun r h => by cases h⟩
  | @cons r r' l l' h _ ih =>
    simp only [Go.Eng.routed]
    rw [h.1]
    by_cases e : r.driver = id
    · rw [if_pos e, if_pos e]
      exact ⟨fun q => (by cases q), fun q hq => by cases hq; exact ⟨r', rfl, h⟩⟩
    · rw [if_neg e, if_neg e]; exact ih
theorem sim_kept {l l' : List Route} (h : SimL l l') (hl : RightP l) (hl' : RightP l') : KeptP l l' := by
  refine ⟨hl, hl', fun r hr => ?_, fun r hr => ?_⟩
  · obtain ⟨r', e, _⟩ := (h.routed r.driver).2 r (routed_self hl.2 r hr)
    rw [e]; rfl
  · obtain ⟨q, e, hs⟩ := (h.symm.routed r.driver).2 r (routed_self hl'.2 r hr)
    unfold keptR
    rw [e]
    exact ⟨hs.2.1.symm, hs.2.2.symm⟩
def Rise : Int → List Route → Prop
  | _, [] => True
  | last, r :: l => okR1 last r ∧ Rise r.driver l
def flatS (p : List Route) : List Stop := p.flatMap (·.stops)
theorem okS_iff {all l : List Stop} : okS all l ↔ (∀ s ∈ l, (1 ≤ s.order ∧ s.order ≤ 1000000) ∧ s ∉ all) ∧ l.Nodup := by
  induction l generalizing all with
  | nil => simp [okS]
  | cons s l ih =>
    rw [okS, ih, List.nodup_cons]
    constructor
    · rintro ⟨⟨h1, h2, h3⟩, h4, h5⟩
      refine ⟨fun t ht => ?_, fun hm => ?_, h5⟩
      · rcases List.mem_cons.1 ht with rfl | ht
        · exact ⟨⟨h1, h2⟩, h3⟩
        · have := h4 t ht
          exact ⟨this.1, fun q => this.2 (by simp [q])⟩
      · exact (h4 s hm).2 (by simp)
    · rintro ⟨h1, h2, h3⟩
      have hs := h1 s (by simp)
      refine ⟨⟨hs.1.1, hs.1.2, hs.2⟩, fun t ht => ⟨(h1 t (by simp [ht])).1, ?_⟩, h3⟩
      intro q
      rcases List.mem_append.1 q with q | q
      · exact (h1 t (by simp [ht])).2 q
      · rw [List.mem_singleton.1 q] at ht; exact h2 ht
theorem okR_iff {last : Int} {all : List Stop} {p : List Route} : okR last all p ↔ Rise last p ∧ okS all (flatS p) := by
  induction p generalizing last all with
  | nil => simp [okR, Rise, flatS, okS]
  | cons r l ih =>
    rw [okR, Rise, ih]
    have : flatS (r :: l) = r.stops ++ flatS l := by simp [flatS]
    rw [this, okS_iff, okS_iff, okS_iff, List.nodup_append]
    constructor
    · rintro ⟨h1, ⟨h2, h3⟩, h4, h5, h6⟩
      refine ⟨⟨h1, h4⟩, fun s hs => ?_, h3, h6, fun a ha b hb e => ?_⟩
      · rcases List.mem_append.1 hs with q | q
        · exact h2 s q
        · have := h5 s q; exact ⟨this.1, fun z => this.2 (by simp [z])⟩
      · subst e; exact (h5 a hb).2 (by simp [ha])
    · rintro ⟨⟨h1, h4⟩, h2, h3, h6, h7⟩
      refine ⟨h1, ⟨fun s hs => h2 s (by simp [hs]), h3⟩, h4, fun s hs => ⟨(h2 s (by simp [hs])).1, fun q => ?_⟩, h6⟩
      rcases List.mem_append.1 q with q | q
      · exact (h2 s (by simp [hs])).2 q
      · exact h7 s q s hs rfl
theorem right_iff' {p : List Route} : RightP p ↔ p.length ≤ 8 ∧ Rise 0 p ∧ (∀ s ∈ flatS p, 1 ≤ s.order ∧ s.order ≤ 1000000) ∧ (flatS p).Nodup := by
  unfold RightP
  rw [okR_iff, okS_iff]
  simp
theorem findP_none {id : Int} {p : List Route} (h : findP id p = none) : ∀ s ∈ flatS p, s.order ≠ id := by
  induction p with
  | nil => simp [flatS]
  | cons r l ih =>
    rw [findP] at h
    split at h
    · cases h
    · rename_i hn
      intro s hs
      have : flatS (r :: l) = r.stops ++ flatS l := by simp [flatS]
      rw [this] at hs
      rcases List.mem_append.1 hs with q | q
      · rintro rfl
        apply hn
        cases hd : s.drop with
        | false => left; exact whereS_iff.2.2 (stands_iff.2 (by cases s; simp_all))
        | true => right; exact whereS_iff.2.2 (stands_iff.2 (by cases s; simp_all))
      · exact ih h s q
theorem putS_perm {ss : List Stop} {id i j : Int} (h : 0 ≤ i ∧ i ≤ j ∧ j ≤ ss.length) : (putS ss id i j).Perm (⟨id, false⟩ :: ⟨id, true⟩ :: ss) := by
  rw [putS_in h]
  have e : ss = ss.take i.toNat ++ ((ss.drop i.toNat).take (j.toNat - i.toNat) ++ ss.drop j.toNat) := by
    have h1 : ss.drop j.toNat = (ss.drop i.toNat).drop (j.toNat - i.toNat) := by rw [List.drop_drop]; congr 1; omega
    rw [h1, List.take_append_drop, List.take_append_drop]
  generalize ss.take i.toNat = A at *
  generalize (ss.drop i.toNat).take (j.toNat - i.toNat) = B at *
  generalize ss.drop j.toNat = C at *
  rw [e]
  have p1 : (A ++ [(⟨id, false⟩ : Stop)] ++ B ++ [(⟨id, true⟩ : Stop)] ++ C).Perm ((⟨id, false⟩ : Stop) :: (A ++ B ++ [(⟨id, true⟩ : Stop)] ++ C)) := by
    simp only [List.append_assoc, List.singleton_append]
    exact List.perm_middle
  refine p1.trans (.cons _ ?_)
  have : A ++ B ++ [(⟨id, true⟩ : Stop)] ++ C = (A ++ B) ++ ⟨id, true⟩ :: C := by simp
  rw [this]
  refine List.perm_middle.trans ?_
  rw [List.append_assoc]
theorem putS_take {ss : List Stop} {id i j : Int} {n : Nat} (h : 0 ≤ i ∧ i ≤ j ∧ j ≤ ss.length) (hn : n ≤ i.toNat) : (putS ss id i j).take n = ss.take n := by
  rw [putS_in h]
  simp only [List.append_assoc]
  rw [List.take_append_of_le_length (by rw [List.length_take]; omega), List.take_take]
  congr 1; omega
theorem withAt_sim {id : Int} {s : Spot} : ∀ {p x : List Route} {last : Int}, withAt id s p = some x → Rise last p → Rise last x ∧ SimL p x ∧ (flatS x).Perm (⟨id, false⟩ :: ⟨id, true⟩ :: flatS p) ∧ x.length = p.length
  | [], x, last, h, _ => by cases h
  | r :: l, x, last, h, hr => by
    rw [withAt] at h
    split at h
    · split at h
      · rename_i hd hs
        cases h
        simp only [spotOk, Bool.and_eq_true, decide_eq_true_eq] at hs
        obtain ⟨h1, h2⟩ := hr
        obtain ⟨o1, o2, o3, o4, o5⟩ := h1
        have hb : 0 ≤ s.pick ∧ s.pick ≤ s.drop ∧ s.drop ≤ r.stops.length := by omega
        have hlen := putS_length (id := id) hb
        refine ⟨⟨⟨o1, o2, by dsimp only; omega, o4, by dsimp only; omega⟩, h2⟩, .cons ⟨rfl, rfl, putS_take hb (by omega)⟩ (.refl l), ?_, rfl⟩
        have e1 : flatS (⟨r.driver, r.served, putS r.stops id s.pick s.drop⟩ :: l) = putS r.stops id s.pick s.drop ++ flatS l := by simp [flatS]
        have e2 : flatS (r :: l) = r.stops ++ flatS l := by simp [flatS]
        rw [e1, e2]
        exact (putS_perm hb).append_right (flatS l)
      · cases h
    · cases hw : withAt id s l with
      | none => rw [hw] at h; cases h
      | some l' =>
        rw [hw] at h
        cases h
        obtain ⟨i1, i2, i3, i4⟩ := withAt_sim hw hr.2
        refine ⟨⟨hr.1, i1⟩, .cons ⟨rfl, rfl, rfl⟩ i2, ?_, by simp [i4]⟩
        have e1 : flatS (r :: l') = r.stops ++ flatS l' := by simp [flatS]
        have e2 : flatS (r :: l) = r.stops ++ flatS l := by simp [flatS]
        rw [e1, e2]
        refine (i3.append_left r.stops).trans ?_
        refine List.perm_middle.trans (.cons _ ?_)
        exact List.perm_middle
theorem with_right {p x : List Route} {id : Int} {s : Spot} (h : withP p id s = some x) : RightP p ∧ RightP x ∧ SimL p x := by
  unfold withP at h
  split at h
  · rename_i hc
    simp only [Bool.and_eq_true, decide_eq_true_eq] at hc
    obtain ⟨⟨⟨c1, c2⟩, c3⟩, c4⟩ := hc
    have hR := rightP_iff.1 c1
    obtain ⟨r1, r2, r3, r4⟩ := right_iff'.1 hR
    obtain ⟨w1, w2, w3, w4⟩ := withAt_sim h r2
    refine ⟨hR, right_iff'.2 ⟨by omega, w1, fun t ht => ?_, ?_⟩, w2⟩
    · have := w3.mem_iff.1 ht
      simp only [List.mem_cons] at this
      rcases this with rfl | rfl | q
      · exact ⟨c2, c3⟩
      · exact ⟨c2, c3⟩
      · exact r3 t q
    · rw [w3.nodup_iff, List.nodup_cons, List.nodup_cons]
      have hf := findP_none (by simpa using c4 : findP id p = none)
      refine ⟨?_, ?_, r4⟩
      · intro q
        rcases List.mem_cons.1 q with q | q
        · cases q
        · exact hf _ q rfl
      · intro q; exact hf _ q rfl
  · cases h
theorem filter_take {α : Type} {f : α → Bool} : ∀ {l : List α} {n : Nat}, (∀ x ∈ l.take n, f x = true) → (l.filter f).take n = l.take n
  | [], n, _ => by simp
  | x :: l, 0, _ => by simp
  | x :: l, n + 1, h => by
    rw [List.take_succ_cons] at h
    have hx := h x (by simp)
    rw [List.filter_cons_of_pos hx, List.take_succ_cons, List.take_succ_cons, filter_take fun y hy => h y (by simp [hy])]
theorem without_right {p : List Route} {ids : List Int} (h : RightP p) : RightP (withoutP p ids) ∧ SimL p (withoutP p ids) := by
  have hk : ∀ r ∈ p, ∀ s ∈ r.stops.take r.served.toNat, (!goneP p ids s.order) = true := by
    intro r hr s hs
    have : begunP s.order p = true := by
      unfold begunP
      rw [List.any_eq_true]
      refine ⟨r, hr, ?_⟩
      rw [List.any_eq_true]
      exact ⟨s, hs, decide_eq_true rfl⟩
    simp [goneP, this]
  have ht : ∀ r ∈ p, (keepS p ids r.stops).take r.served.toNat = r.stops.take r.served.toNat := fun r hr => filter_take (hk r hr)
  have hsub : ∀ l : List Route, (flatS (l.map fun r => (⟨r.driver, r.served, keepS p ids r.stops⟩ : Route))).Sublist (flatS l) := by
    intro l
    induction l with
    | nil => exact .slnil
    | cons r l ih =>
      have e1 : flatS ((r :: l).map fun r => (⟨r.driver, r.served, keepS p ids r.stops⟩ : Route)) = keepS p ids r.stops ++ flatS (l.map fun r => (⟨r.driver, r.served, keepS p ids r.stops⟩ : Route)) := by simp [flatS]
      have e2 : flatS (r :: l) = r.stops ++ flatS l := by simp [flatS]
      rw [e1, e2]
      exact List.filter_sublist.append ih
  have hsim : ∀ (l : List Route), (∀ r ∈ l, r ∈ p) → SimL l (l.map fun r => (⟨r.driver, r.served, keepS p ids r.stops⟩ : Route)) := by
    intro l
    induction l with
    | nil => intro _; exact .nil
    | cons r l ih => intro hl; exact .cons ⟨rfl, rfl, ht r (hl r (by simp))⟩ (ih fun q hq => hl q (by simp [hq]))
  have hrise : ∀ (l : List Route) (last : Int), (∀ r ∈ l, r ∈ p) → Rise last l → Rise last (l.map fun r => (⟨r.driver, r.served, keepS p ids r.stops⟩ : Route)) := by
    intro l
    induction l with
    | nil => intro _ _ _; trivial
    | cons r l ih =>
      intro last hl hr
      obtain ⟨⟨o1, o2, o3, o4, o5⟩, h2⟩ := hr
      refine ⟨⟨o1, o2, ?_, o4, ?_⟩, ih _ (fun q hq => hl q (by simp [hq])) h2⟩
      · have : (keepS p ids r.stops).length ≤ r.stops.length := List.length_filter_le _ _
        dsimp only; omega
      · have := congrArg List.length (ht r (hl r (by simp)))
        rw [List.length_take, List.length_take] at this
        dsimp only; omega
  obtain ⟨r1, r2, r3, r4⟩ := right_iff'.1 h
  refine ⟨right_iff'.2 ⟨by simpa [withoutP] using r1, hrise p 0 (fun _ h => h) r2, fun s hs => r3 s ((hsub p).mem hs), (hsub p).nodup r4⟩, hsim p fun _ h => h⟩
theorem right_one {p : List Route} {r : Route} (h : RightP p) (hr : r ∈ p) : RightP [r] ∧ r.stops.Nodup := by
  have hm := okR_mem h.2 r hr
  obtain ⟨r1, r2, r3, r4⟩ := right_iff'.1 h
  have hs : r.stops.Sublist (flatS p) := by
    obtain ⟨a, b, rfl⟩ := List.append_of_mem hr
    have : flatS (a ++ r :: b) = flatS a ++ (r.stops ++ flatS b) := by simp [flatS]
    rw [this]
    exact (List.sublist_append_left _ _).trans (List.sublist_append_right _ _)
  have hn := hs.nodup r4
  have e : flatS [r] = r.stops := by simp [flatS]
  refine ⟨right_iff'.2 ⟨by simp, ⟨⟨hm.1, hm.2.1, hm.2.2.1, hm.2.2.2.1, hm.2.2.2.2⟩, trivial⟩, fun s hs' => ?_, by rw [e]; exact hn⟩, hn⟩
  rw [e] at hs'
  exact r3 s (hs.mem hs')
end Go.Eng

/- Certificates looked at: it is so. -/
set_option linter.unusedVariables false
set_option linter.unusedSimpArgs false
namespace Go.Eng
open Go Go.Proofs
theorem fau_zero {r : Except Fault (List Visit)} (hg : ∀ f, r = .error f → f.why ≠ 0) : (¬ (fauR r).why = 0 → ∃ f, r = .error f) ∧ ((fauR r).why = 0 → ∃ v, r = .ok v) := by
  cases r with
  | ok v => exact ⟨fun h => absurd rfl h, fun _ => ⟨v, rfl⟩⟩
  | error f => exact ⟨fun _ => ⟨f, rfl⟩, fun h => absurd h (hg f rfl)⟩
theorem rCmake_ok : rCmake_vc := by
  unfold rCmake_vc
  simp only [bad_false, int0, nilOf, decide_eq_true_eq, decide_eq_false_iff_not, Bool.not_eq_true', Bool.not_eq_false', Bool.not_true, Bool.not_false, Bool.false_eq_true, Bool.true_eq_false, eq_self, true_and, and_true, false_or, or_false, false_implies, true_implies, implies_true, Int.not_lt, Int.not_le, gt_iff_lt, ge_iff_le, ne_eq]
  refine ⟨fun ds _ os _ p _ hmo => ⟨hmo, fun _ => ⟨⟨rfl, rfl⟩, rfl⟩, fun h => by cases h⟩, ?_⟩
  intro m hm ds hd os ho p hp hmo
  have hpl := hp.1.le
  refine ⟨hmo, fun h => by simp [makeP, h, cfauR, certR], fun hw => ?_⟩
  have hR := rightP_iff.1 (wellP_iff.1 hw).2.2.2.1
  have hM : makeP (some m) ds os p = makeGo m ds os 0 p := by simp [makeP, hw]
  rw [hM]
  refine ⟨fun vs i => 0 ≤ i ∧ i ≤ p.length ∧ vs.length ≤ i.toNat ∧ makeGo m ds os 0 p = (match makeGo m ds os i.toNat (p.drop i.toNat) with | .error f => .error f | .ok w => .ok (vs ++ w)), fun _ i => p.length - i.toNat, ⟨by omega, by omega, by simp, ?_⟩, fun vs i hi => ⟨fun h => ?_, fun h => ?_⟩⟩
  · simp only [Int.toNat_zero, List.drop_zero, List.nil_append]
    cases makeGo m ds os 0 p <;> rfl
  · obtain ⟨h0, h1, hL, hI⟩ := hi
    obtain ⟨e1, e2, e3, e4⟩ := ix rz hpl h0 h
    have hrm := getD_mem rz e3
    have h8 := hR.1
    rw [e4] at hI
    rw [e1]; dsimp only; rw [e2]
    obtain ⟨s1, s2⟩ := makeGo_step hI
    change List Route at p
    generalize p.getD i.toNat { driver := 0, served := 0, stops := [] } = r at *
    refine ⟨⟨h0, h⟩, e3, fun q => ?_, fun q => ?_⟩
    · rw [s1 (by simpa using q)]
      exact ⟨⟨by show i = ((i.toNat : Nat) : Int); omega, rfl⟩, rfl⟩
    · obtain ⟨d, hd'⟩ := Option.isSome_iff_exists.1 q
      obtain ⟨t1, t2⟩ := s2 d hd'
      have hwd := well_drive hw hrm (findD_mem hd').1
      rw [hd']
      dsimp only [Option.getD]
      obtain ⟨z1, z2⟩ := fau_zero (r := drive (some m) d os r.stops) fun f hf => by rw [hwd] at hf; exact driveGo_why hf
      refine ⟨⟨h0, h⟩, e3, hmo, fun g => ?_, fun g => ?_⟩
      · obtain ⟨f, hf⟩ := z1 g
        rw [t1 f hf, hf]
        exact ⟨⟨by show i = ((i.toNat : Nat) : Int); omega, rfl⟩, rfl⟩
      · obtain ⟨v, hv⟩ := z2 g
        rw [byt_rows, hv]
        refine ⟨by simp only [List.length_cons, List.length_nil]; omega, ⟨by omega, by omega, by simp only [List.length_append, List.length_cons, List.length_nil]; omega, t2 v hv⟩, by omega⟩
  · obtain ⟨h0, h1, hL, hI⟩ := hi
    rw [ixEnd h] at hI
    rw [hI]
    simp [makeGo, cfauR, certR]
theorem rCmake_t : Told Try.prog 50 rCmake_con := rCmake_told (csOk_cons rWell_t (csOk_cons rCdriver_t (csOk_cons rDrive_t csOk_nil))) rCmake_ok
theorem same_no {α : Type} {x y : List α} (h : x ≠ y) : false = same x y := (same_ne h).symm
theorem shape_iff {l : List Visit} {ss : List Stop} (h : l.length = ss.length) : l.map Visit.stop = ss ↔ ∀ k, k < l.length → (l.getD k (FK.zero .visit)).stop = ss.getD k (FK.zero .stop) := by
  constructor
  · rintro rfl k hk
    rw [getD_get _ hk, getD_get _ (by simpa using hk)]; simp
  · intro hh
    apply List.ext_getElem
    · simpa using h
    · intro k h1 h2
      have h1' : k < l.length := by simpa using h1
      have := hh k h1'
      rw [getD_get _ h1', getD_get _ h2] at this
      simpa using this
theorem begin_in {w : Win} {t : Int} (h : (begin_ w t).2 = true) : 0 ≤ (begin_ w t).1 ∧ (begin_ w t).1 ≤ 1000000 := by
  unfold begin_ at h ⊢
  split at h
  · rename_i hc
    simp only [Bool.and_eq_true, decide_eq_true_eq] at hc
    have := right_iff.1 hc.1
    rw [if_pos (by simp [hc])]
    dsimp only
    omega
  · cases h
theorem nextE_14 {m : MapD} {d : Driver} {o : Order} {left load : Int} {v : Visit} {a : Int} (h : v.load ≠ loadN o v load ∨ d.room < loadN o v load) : 14 = nextE m d o left load v a := by
  unfold nextE; rw [if_pos h]
theorem nextE_late {m : MapD} {d : Driver} {o : Order} {left load : Int} {v : Visit} {a : Int} (h : v.load = loadN o v load) (h' : loadN o v load ≤ d.room) : nextE m d o left load v a = if lateN m d o left a v then 15 else 0 := by
  unfold nextE; rw [if_neg (by omega)]
theorem nextE_zero {m : MapD} {d : Driver} {o : Order} {left load : Int} {v : Visit} {a : Int} (h : nextE m d o left load v a = 0) : v.load = loadN o v load ∧ loadN o v load ≤ d.room ∧ v.arrive = left + tm m a (siteOf o v.drop).pl ∧ (begin_ (siteOf o v.drop).win v.arrive).2 = true ∧ v.start = (begin_ (siteOf o v.drop).win v.arrive).1 ∧
    v.leave = (begin_ (siteOf o v.drop).win v.arrive).1 + (siteOf o v.drop).sv ∧ v.leave ≤ d.hi := by
  unfold nextE at h
  split at h
  · cases h
  · rename_i h1
    split at h
    · cases h
    · rename_i h2
      simp only [lateN, Bool.or_eq_true, Bool.not_eq_true', decide_eq_true_eq, not_or, Bool.not_eq_false, Int.not_lt] at h2
      obtain ⟨⟨⟨⟨a1, a2⟩, a3⟩, a4⟩, a5⟩ := h2
      refine ⟨by omega, by omega, by omega, a2, by omega, by omega, a5⟩
end Go.Eng

/- An order's place looked for, in plain words; what the functions tell. -/
set_option linter.unusedVariables false
set_option linter.unusedSimpArgs false
namespace Go.Eng
open Go Go.Proofs
@[reducible] def eLeg : Nat := 119
@[reducible] def eState : Nat := 126
@[reducible] def tMap : Nat := 101
@[reducible] def tSearch : Nat := 124
def legO (o : Order) (drop : Bool) : Leg := if drop then ⟨o.dp, o.df, o.dt, o.ds, wrap (-o.size)⟩ else ⟨o.pp, o.pf, o.pt, o.ps, o.size⟩
def legT (os : List Order) (s : Stop) : Leg := legO (fo os s.order) s.drop
def stepT (m : MapD) (s : State) (l : Leg) : Int := (mtime (some m) s.pos l.pl).1
def stepB (m : MapD) (s : State) (l : Leg) : Int × Bool := begin_ ⟨l.lo, l.hi⟩ (wrap (s.now + stepT m s l))
def stepN (m : MapD) (s : State) (l : Leg) : State := ⟨wrap ((stepB m s l).1 + l.sv), l.pl, wrap (s.load + l.more), wrap (s.way + stepT m s l)⟩
def stepS (m : MapD) (d : Driver) (s : State) (l : Leg) : State × Bool := (stepN m s l, (stepB m s l).2 && decide ((stepN m s l).now ≤ d.hi) && decide ((stepN m s l).load ≤ d.room))
def runS (m : MapD) (d : Driver) : State × Bool → List Leg → State × Bool
  | r, [] => r
  | r, l :: ls => if r.2 then runS m d (stepS m d r.1 l) ls else r
def sz : State := FK.zero .state
def lz : Leg := FK.zero .leg
def priceR (x : SearchD) (i j : Int) : State × Bool := runS x.m x.d (stepS x.m x.d (x.pre.getD i.toNat sz) x.pick) ((x.legs.drop i.toNat).take (j.toNat - i.toNat) ++ x.drop :: x.legs.drop j.toNat)
def priceS (x : SearchD) (i j : Int) : Int × Bool := (wrap ((priceR x i j).1.way - (x.pre.getD x.legs.length sz).way), (priceR x i j).2 && !x.full)
structure PricePre (x : SearchD) (i j : Int) : Prop where
  map : MapOk x.m
  i : 0 ≤ i ∧ i ≤ j
  j : j ≤ x.legs.length
  pre : x.pre.length = x.legs.length + 1
/-- The open places, one behind the other. -/
def rowP (i : Int) : Nat → Int → List (Int × Int)
  | 0, _ => []
  | k + 1, j => (i, j) :: rowP i k (j + 1)
def pairsP : Nat → Int → List (Int × Int)
  | 0, _ => []
  | k + 1, i => rowP i (k + 1) i ++ pairsP k (i + 1)
def hz : Hunt := ⟨0, 0, 0, 0, false, 0⟩
def huntStep (id : Int) (pr : Int → Int → Int × Bool) (h : Hunt) (p : Int × Int) : Hunt :=
  if (pr p.1 p.2).2 && (!h.found || decide ((pr p.1 p.2).1 < h.cost)) then ⟨id, p.1, p.2, (pr p.1 p.2).1, true, h.steps + 1⟩ else ⟨h.driver, h.pick, h.drop, h.cost, h.found, h.steps + 1⟩
def huntGo (id : Int) (pr : Int → Int → Int × Bool) (b : Int) : List (Int × Int) → Hunt → Hunt
  | [], h => h
  | p :: l, h => if b ≤ h.steps then h else huntGo id pr b l (huntStep id pr h p)
def places_ (served : Int) (n : Nat) : List (Int × Int) := pairsP ((n : Int) + 1 - served).toNat served
def bestS (x : SearchD) (served b : Int) : Hunt := huntGo x.d.id (priceS x) b (places_ served x.legs.length) hz
structure BestPre (x : SearchD) (served : Int) : Prop where
  map : MapOk x.m
  served : 0 ≤ served
  few : x.legs.length ≤ 1000
  pre : x.pre.length = x.legs.length + 1
def preGo (m : MapD) (d : Driver) (os : List Order) : State → List Stop → List State
  | _, [] => []
  | s, t :: l => stepN m s (legT os t) :: preGo m d os (stepN m s (legT os t)) l
def start (d : Driver) : State := ⟨d.lo, d.home, 0, 0⟩
def mkS (m : MapD) (d : Driver) (os : List Order) (ss : List Stop) (o : Order) : SearchD :=
  ⟨m, d, ss.map (legT os), start d :: preGo m d os (start d) ss, legO o false, legO o true, decide (40 ≤ (os.length : Int))⟩
def askedP (m : Option MapD) (os : List Order) (o : Order) (b : Int) : Bool := decide (orderE m o = 0) && !(findO os o.id).isSome && decide (0 ≤ b) && decide (b ≤ 100000)
/-- What bars the looking on a route. -/
def barP (m : Option MapD) (d : Driver) (os : List Order) (r : Route) (o : Order) (b : Int) : Int :=
  if !askedP m os o b || decide (r.driver ≠ d.id) || decide (r.served < 0) || decide ((r.stops.length : Int) < r.served) then 1
  else if !good (fauR (drive m d os r.stops)) then 1 else if d.retired then 23 else if 78 < (r.stops.length : Int) then 10 else 0
def tellH (h : Hunt) : Hunt × Int := if h.found then (h, 0) else (⟨0, 0, 0, 0, false, h.steps⟩, 20)
def bestP (m : Option MapD) (d : Driver) (os : List Order) (r : Route) (o : Order) (b : Int) : Hunt × Int :=
  if barP m d os r o b ≠ 0 then (hz, barP m d os r o b) else match m with
    | none => (hz, 1)
    | some x => tellH (bestS (mkS x d os r.stops o) r.served b)
def hspot (h : Hunt) : Spot := ⟨h.driver, h.pick, h.drop, h.cost⟩
def huntR (h : Hunt × Int) : List AV := [.r (SK.enc (.f .spot) (hspot h.1)), .c (.i h.1.steps), .c (.i h.2)]
/-- The best of two. -/
def huntJoin (h g : Hunt) : Hunt := if g.found && (!h.found || decide (g.cost < h.cost)) then ⟨g.driver, g.pick, g.drop, g.cost, true, h.steps + g.steps⟩ else ⟨h.driver, h.pick, h.drop, h.cost, h.found, h.steps + g.steps⟩
def fdD (ds : List Driver) (id : Int) : Driver := (findD id ds).getD (FK.zero .driver)
def closedTo (d : Driver) (r : Route) : Bool := d.retired || decide (78 < (r.stops.length : Int))
def lookGo (m : MapD) (ds : List Driver) (os : List Order) (o : Order) (b : Int) : List Route → Hunt → Hunt
  | [], h => h
  | r :: l, h => if closedTo (fdD ds r.driver) r then lookGo m ds os o b l h
    else lookGo m ds os o b l (huntJoin h (bestS (mkS m (fdD ds r.driver) os r.stops o) r.served (b - h.steps)))
def lookP (m : Option MapD) (ds : List Driver) (os : List Order) (p : List Route) (o : Order) (b : Int) : Hunt := match m with
  | none => hz
  | some x => lookGo x ds os o b p hz
structure LookPre (m : Option MapD) (p : List Route) (b : Int) : Prop where
  is : m.isSome = true
  map : ∀ x, m = some x → MapOk x
  b : 0 ≤ b ∧ b ≤ 100000
  few : p.length ≤ 1000
  served : ∀ r ∈ p, 0 ≤ r.served
noncomputable def cheapP (m : Option MapD) (ds : List Driver) (os : List Order) (p : List Route) (o : Order) (b : Int) : Hunt × Int :=
  if good (cfauR (makeP m ds os p)) && askedP m os o b then tellH (lookP m ds os p o b) else (hz, 1)
/-! ### The document's own -/
def alongPr (m : MapD) (d : Driver) (os : List Order) (ss : List Stop) (o : Order) (i j : Int) : Int × Bool :=
  (wrap ((cost (some m) d (os ++ [o]) (putS ss o.id i j)).1 - (cost (some m) d os ss).1), (cost (some m) d (os ++ [o]) (putS ss o.id i j)).2)
def alongP (m : MapD) (d : Driver) (os : List Order) (r : Route) (o : Order) (b : Int) (h : Hunt) : Hunt := huntGo d.id (alongPr m d os r.stops o) b (places_ r.served r.stops.length) h
structure AlongPre (m : MapD) (os : List Order) (r : Route) (h : Hunt) : Prop where
  map : MapOk m
  orders : os.length ≤ 1000
  served : 0 ≤ r.served
  few : r.stops.length ≤ 1000
  steps : 0 ≤ h.steps ∧ h.steps ≤ 100000000
def rBestP (m : Option MapD) (d : Driver) (os : List Order) (r : Route) (o : Order) (b : Int) : Hunt × Int :=
  if barP m d os r o b ≠ 0 then (hz, barP m d os r o b) else match m with
    | none => (hz, 1)
    | some x => tellH (alongP x d os r o b hz)
def ixD : List Driver → Int → Int → Int
  | [], _, _ => -1
  | d :: l, id, k => if d.id = id then k else ixD l id (k + 1)
def rlookGo (m : MapD) (ds : List Driver) (os : List Order) (o : Order) (b : Int) : List Route → Hunt → Hunt
  | [], h => h
  | r :: l, h => if closedTo (fdD ds r.driver) r then rlookGo m ds os o b l h else rlookGo m ds os o b l (alongP m (fdD ds r.driver) os r o b h)
def rlookP (m : Option MapD) (ds : List Driver) (os : List Order) (p : List Route) (o : Order) (b : Int) : Hunt := match m with
  | none => hz
  | some x => rlookGo x ds os o b p hz
noncomputable def rcheapP (m : Option MapD) (ds : List Driver) (os : List Order) (p : List Route) (o : Order) (b : Int) : Hunt × Int :=
  if good (cfauR (makeP m ds os p)) && askedP m os o b then tellH (rlookP m ds os p o b) else (hz, 1)
/-! ### Contracts -/
def legOf_con : Con := ⟨[.r (.f .order), .c .b], fun o b => one [.r (SK.enc (.f .leg) (legO o b))]⟩
def legOf_cs : Cons := []
def legOf_la : List (Nat × LA) := []
def step_con : Con := ⟨[.p (.search tMap) tSearch, .r (.f .state), .r (.f .leg)], fun x s l => ⟨some (MapOk x.m), [⟨none, [.r (SK.enc (.f .state) (stepS x.m x.d s l).1), .c (.b (stepS x.m x.d s l).2)]⟩]⟩⟩
def step_cs : Cons := [(58, time_con), (63, begin_con)]
def step_la : List (Nat × LA) := []
def price_con : Con := ⟨[.p (.search tMap) tSearch, .c .i, .c .i], fun x i j => ⟨some (PricePre x i j), [⟨none, [.c (.i (priceS x i j).1), .c (.b (priceS x i j).2)]⟩]⟩⟩
def price_cs : Cons := [(55, step_con)]
def price_la : List (Nat × LA) := [(3, ⟨[0, 2, 8], [.b 9, .i 10, .ci 8 0, .ci 8 1, .ci 8 2, .ci 8 3]⟩), (9, ⟨[0, 8], [.b 9, .i 11, .ci 8 0, .ci 8 1, .ci 8 2, .ci 8 3]⟩), (1000006, ⟨[0, 2, 8], [.b 9, .ci 8 0, .ci 8 1, .ci 8 2, .ci 8 3]⟩), (1000008, ⟨[0, 2, 8], [.b 9, .ci 8 0, .ci 8 1, .ci 8 2, .ci 8 3]⟩)]
def sbest_con : Con := ⟨[.p (.search tMap) tSearch, .c .i, .c .i], fun x s b => ⟨some (BestPre x s), [⟨none, [.r (SK.enc (.f .spot) (hspot (bestS x s b))), .c (.i (bestS x s b).steps), .c (.b (bestS x s b).found)]⟩]⟩⟩
def sbest_cs : Cons := [(56, price_con)]
def sbest_la : List (Nat × LA) := [(5, ⟨[0, 2, 6, 9, 12], [.i 10, .b 11, .i 13, .ci 9 0, .ci 9 1, .ci 9 2, .ci 9 3]⟩), (8, ⟨[0, 2, 6, 9, 12, 13], [.i 10, .b 11, .i 14, .ci 9 0, .ci 9 1, .ci 9 2, .ci 9 3]⟩)]
def made_con : Con := ⟨[.p .map tMap, .r (.f .driver), .c (.a (.f .order)), .c (.a (.f .stop)), .r (.f .order)], fun m d os ss o => ⟨some (MapOk m ∧ ss.length ≤ 1000),
  [⟨none, [.p true tSearch [.al 0, .i d.id, .i d.room, .i d.home, .i d.lo, .i d.hi, .b d.retired, .o .leg eLeg (mkS m d os ss o).legs, .o .state eState (mkS m d os ss o).pre, .i (legO o false).pl, .i (legO o false).lo, .i (legO o false).hi, .i (legO o false).sv, .i (legO o false).more,
    .i (legO o true).pl, .i (legO o true).lo, .i (legO o true).hi, .i (legO o true).sv, .i (legO o true).more, .b (mkS m d os ss o).full]]⟩]⟩⟩
def made_cs : Cons := [(54, legOf_con), (34, find_con), (55, step_con)]
def made_la : List (Nat × LA) := [(5, ⟨[2, 11, 12, 45, 46], [.i 47, .capp 11 7 .leg eLeg, .capp 11 8 .state eState, .ci 12 0, .ci 12 1, .ci 12 2, .ci 12 3]⟩)]
def asked_con : Con := ⟨[.q .map tMap, .c (.a (.f .order)), .r (.f .order), .c .i], fun m os o b => ⟨some (MapOkO m), [⟨none, [.c (.b (askedP m os o b))]⟩]⟩⟩
def asked_cs : Cons := [(34, find_con), (52, order_con)]
def asked_la : List (Nat × LA) := []
def ibest_con : Con := ⟨[.q .map tMap, .r (.f .driver), .c (.a (.f .order)), .r .route, .r (.f .order), .c .i], fun m d os r o b => ⟨some (MapOkO m), [⟨none, huntR (bestP m d os r o b)⟩]⟩⟩
def ibest_cs : Cons := [(29, asked_con), (30, drive_con), (20, good_con), (31, made_con), (32, sbest_con)]
def ibest_la : List (Nat × LA) := []
def look_con : Con := ⟨[.q .map tMap, .c (.a (.f .driver)), .c (.a (.f .order)), .c (.a .route), .r (.f .order), .c .i], fun m ds os p o b => ⟨some (LookPre m p b), [⟨none, huntR (tellH (lookP m ds os p o b))⟩]⟩⟩
def look_cs : Cons := [(40, cdriver_con), (31, made_con), (32, sbest_con)]
def look_la : List (Nat × LA) := [(4, ⟨[0, 1, 2, 5, 10, 12, 15, 25, 26], [.i 16, .b 17, .i 27, .ci 15 0, .ci 15 1, .ci 15 2, .ci 15 3]⟩)]
noncomputable def cheap_con : Con := ⟨[.q .map tMap, .c (.a (.f .driver)), .c (.a (.f .order)), .c (.a .route), .r (.f .order), .c .i], fun m ds os p o b => ⟨some (MapOkO m), [⟨none, huntR (cheapP m ds os p o b)⟩]⟩⟩
noncomputable def cheap_cs : Cons := [(19, cmake_con), (20, good_con), (29, asked_con), (35, look_con)]
def cheap_la : List (Nat × LA) := []
def ralong_con : Con := ⟨[.p .map 115, .r (.f .driver), .c (.a (.f .order)), .r .route, .r (.f .order), .c .i, .r (.f .hunt)], fun m d os r o b h => ⟨some (AlongPre m os r h), [⟨none, [.r (SK.enc (.f .hunt) (alongP m d os r o b h))]⟩]⟩⟩
def ralong_cs : Cons := [(70, rCost_con), (71, rSput_con)]
def ralong_la : List (Nat × LA) := [(4, ⟨[0, 5, 8, 10, 11, 13, 14, 15, 17], [.i 18, .ci 13 0, .ci 13 1, .ci 13 2, .ci 13 3, .cb 13 4, .ci 13 5]⟩), (7, ⟨[0, 5, 8, 10, 11, 13, 14, 15, 17, 18], [.i 19, .ci 13 0, .ci 13 1, .ci 13 2, .ci 13 3, .cb 13 4, .ci 13 5]⟩)]
def rtold_con : Con := ⟨[.r (.f .hunt)], fun h => one (huntR (tellH h))⟩
def rtold_cs : Cons := []
def rtold_la : List (Nat × LA) := []
def rbest_con : Con := ⟨[.q .map 115, .r (.f .driver), .c (.a (.f .order)), .r .route, .r (.f .order), .c .i], fun m d os r o b => ⟨some (MapOkO m), [⟨none, huntR (rBestP m d os r o b)⟩]⟩⟩
def rbest_cs : Cons := [(42, rDriver_con), (43, rOrder_con), (44, rKnown_con), (45, rFind_con), (46, rDrive_con), (48, ralong_con), (47, rtold_con)]
def rbest_la : List (Nat × LA) := []
def rixD_con : Con := ⟨[.c (.a (.f .driver)), .c .i], fun ds id => one [.c (.i (ixD ds id 0))]⟩
def rixD_cs : Cons := []
def rixD_la : List (Nat × LA) := [(2, ⟨[0, 1], [.i 5]⟩)]
noncomputable def rcheap_con : Con := ⟨[.q .map 115, .c (.a (.f .driver)), .c (.a (.f .order)), .c (.a .route), .r (.f .order), .c .i], fun m ds os p o b => ⟨some (MapOkO m), [⟨none, huntR (rcheapP m ds os p o b)⟩]⟩⟩
noncomputable def rcheap_cs : Cons := [(50, rCmake_con), (43, rOrder_con), (45, rFind_con), (51, rixD_con), (48, ralong_con), (47, rtold_con)]
def rcheap_la : List (Nat × LA) := [(6, ⟨[0, 1, 2, 3, 5, 10, 12, 17], [.i 18, .ci 17 0, .ci 17 1, .ci 17 2, .ci 17 3, .cb 17 4, .ci 17 5]⟩)]
end Go.Eng

/- The conditions of functions, as print.. of the engine told them. -/
set_option linter.unusedVariables false
namespace Go.Eng
open Go Go.Proofs
def ralong_vc : Prop :=
  ∀ (x : MapD), LenOk x.l.length → ∀ (x_2 : Driver) (x_3 : List Order), LenOk x_3.length → ∀ (x_5 : Route), LenOk x_5.stops.length → ∀ (x_7 : Order) (x_8 : Int) (x_9 : Hunt), AlongPre x x_3 x_5 x_9 → (∀ (x_11 : MapD), some x = some x_11 →
  MapOk x_11) ∧ (True ∧ ((0 : Nat) + x_3.length) * ((8 : Nat) * (10 : Nat)) ≤ (140737488355328 : Nat)) ∧ (True ∧ (([] ++ x_3).length + [x_7].length) * ((8 : Nat) * (10 : Nat)) ≤ (140737488355328 : Nat)) ∧ ∃ (inv : Int → Int → Int → Int → Int
  → Bool → Int → Prop), ∃ (μ : Int → Int → Int → Int → Int → Bool → Int → Nat), (((x_8 = x_8 ∧ (cost (some x) x_2 x_3 x_5.stops).fst = (cost (some x) x_2 x_3 x_5.stops).fst ∧ x_5.served = x_5.served) ∧ (x.n = x.n ∧ (x_2.id = x_2.id ∧ x_2.room
  = x_2.room ∧ x_2.home = x_2.home ∧ x_2.lo = x_2.lo ∧ x_2.hi = x_2.hi ∧ x_2.retired = x_2.retired) ∧ (x_5.driver = x_5.driver ∧ x_5.served = x_5.served) ∧ (x_7.id = x_7.id ∧ x_7.size = x_7.size ∧ x_7.pp = x_7.pp ∧ x_7.pf = x_7.pf ∧ x_7.pt =
  x_7.pt ∧ x_7.ps = x_7.ps ∧ x_7.dp = x_7.dp ∧ x_7.df = x_7.df ∧ x_7.dt = x_7.dt ∧ x_7.ds = x_7.ds) ∧ (x_9.driver = x_9.driver ∧ x_9.pick = x_9.pick ∧ x_9.drop = x_9.drop ∧ x_9.cost = x_9.cost ∧ x_9.found = x_9.found ∧ x_9.steps = x_9.steps)
  ∧ (0 : Int) = (0 : Int) ∧ (0 : Int) = (0 : Int) ∧ (0 : Int) = (0 : Int) ∧ (0 : Int) = (0 : Int) ∧ (0 : Int) = (0 : Int)) ∧ x_5.stops = x_5.stops ∧ x.l = x.l ∧ [] ++ x_3 ++ [x_7] = [] ++ x_3 ++ [x_7]) ∧ inv x_5.served x_9.driver x_9.pick
  x_9.drop x_9.cost x_9.found x_9.steps) ∧ ∀ (x_11 x_12 x_13 x_14 x_15 : Int) (x_16 : Bool) (x_17 : Int), inv x_11 x_12 x_13 x_14 x_15 x_16 x_17 → (decide (x_11 ≤ (↑x_5.stops.length : Int)) = true → ∃ (inv_1 : Int → Int → Int → Int → Int →
  Bool → Int → Prop), ∃ (μ_1 : Int → Int → Int → Int → Int → Bool → Int → Nat), (((x_8 = x_8 ∧ (cost (some x) x_2 x_3 x_5.stops).fst = (cost (some x) x_2 x_3 x_5.stops).fst ∧ x_11 = x_11 ∧ x_11 = x_11) ∧ (x.n = x.n ∧ (x_2.id = x_2.id ∧
  x_2.room = x_2.room ∧ x_2.home = x_2.home ∧ x_2.lo = x_2.lo ∧ x_2.hi = x_2.hi ∧ x_2.retired = x_2.retired) ∧ (x_5.driver = x_5.driver ∧ x_5.served = x_5.served) ∧ (x_7.id = x_7.id ∧ x_7.size = x_7.size ∧ x_7.pp = x_7.pp ∧ x_7.pf = x_7.pf ∧
  x_7.pt = x_7.pt ∧ x_7.ps = x_7.ps ∧ x_7.dp = x_7.dp ∧ x_7.df = x_7.df ∧ x_7.dt = x_7.dt ∧ x_7.ds = x_7.ds) ∧ (x_12 = x_12 ∧ x_13 = x_13 ∧ x_14 = x_14 ∧ x_15 = x_15 ∧ x_16 = x_16 ∧ x_17 = x_17) ∧ (0 : Int) = (0 : Int) ∧ (0 : Int) = (0 : Int)
  ∧ (0 : Int) = (0 : Int) ∧ (0 : Int) = (0 : Int) ∧ (0 : Int) = (0 : Int)) ∧ x_5.stops = x_5.stops ∧ x.l = x.l ∧ [] ++ x_3 ++ [x_7] = [] ++ x_3 ++ [x_7]) ∧ inv_1 x_11 x_12 x_13 x_14 x_15 x_16 x_17) ∧ ∀ (x_20 x_21 x_22 x_23 x_24 : Int) (x_25 :
  Bool) (x_26 : Int), inv_1 x_20 x_21 x_22 x_23 x_24 x_25 x_26 → (decide (x_20 ≤ (↑x_5.stops.length : Int)) = true → (decide (x_26 ≥ x_8) = true → x_21 = (alongP x x_2 x_3 x_5 x_7 x_8 x_9).driver ∧ x_22 = (alongP x x_2 x_3 x_5 x_7 x_8
  x_9).pick ∧ x_23 = (alongP x x_2 x_3 x_5 x_7 x_8 x_9).drop ∧ x_24 = (alongP x x_2 x_3 x_5 x_7 x_8 x_9).cost ∧ x_25 = (alongP x x_2 x_3 x_5 x_7 x_8 x_9).found ∧ x_26 = (alongP x x_2 x_3 x_5 x_7 x_8 x_9).steps) ∧ (decide (x_26 ≥ x_8) = false
  → (x_5.stops.length * (16 : Nat) ≤ (140737488351232 : Nat) ∧ putOk x_5.stops x_11 x_20 = true) ∧ (∀ (x_30 : MapD), some x = some x_30 → MapOk x_30) ∧ ((cost (some x) x_2 ([] ++ x_3 ++ [x_7]) (putS x_5.stops x_7.id x_11 x_20)).snd = true →
  ((!x_25) = false → (decide (wrap ((cost (some x) x_2 ([] ++ x_3 ++ [x_7]) (putS x_5.stops x_7.id x_11 x_20)).fst - (cost (some x) x_2 x_3 x_5.stops).fst) < x_24) = true → ((x_8 = x_8 ∧ (cost (some x) x_2 x_3 x_5.stops).fst = (cost (some x)
  x_2 x_3 x_5.stops).fst ∧ x_11 = x_11 ∧ wrap (x_20 + (1 : Int)) = wrap (x_20 + (1 : Int))) ∧ (x.n = x.n ∧ (x_2.id = x_2.id ∧ x_2.room = x_2.room ∧ x_2.home = x_2.home ∧ x_2.lo = x_2.lo ∧ x_2.hi = x_2.hi ∧ x_2.retired = x_2.retired) ∧
  (x_5.driver = x_5.driver ∧ x_5.served = x_5.served) ∧ (x_7.id = x_7.id ∧ x_7.size = x_7.size ∧ x_7.pp = x_7.pp ∧ x_7.pf = x_7.pf ∧ x_7.pt = x_7.pt ∧ x_7.ps = x_7.ps ∧ x_7.dp = x_7.dp ∧ x_7.df = x_7.df ∧ x_7.dt = x_7.dt ∧ x_7.ds = x_7.ds) ∧
  (x_2.id = x_2.id ∧ x_11 = x_11 ∧ x_20 = x_20 ∧ wrap ((cost (some x) x_2 ([] ++ x_3 ++ [x_7]) (putS x_5.stops x_7.id x_11 x_20)).fst - (cost (some x) x_2 x_3 x_5.stops).fst) = wrap ((cost (some x) x_2 ([] ++ x_3 ++ [x_7]) (putS x_5.stops
  x_7.id x_11 x_20)).fst - (cost (some x) x_2 x_3 x_5.stops).fst) ∧ true = true ∧ wrap (x_26 + (1 : Int)) = wrap (x_26 + (1 : Int))) ∧ (0 : Int) = (0 : Int) ∧ (0 : Int) = (0 : Int) ∧ (0 : Int) = (0 : Int) ∧ (0 : Int) = (0 : Int) ∧ (0 : Int) =
  (0 : Int)) ∧ x_5.stops = x_5.stops ∧ x.l = x.l ∧ [] ++ x_3 ++ [x_7] = [] ++ x_3 ++ [x_7]) ∧ inv_1 (wrap (x_20 + (1 : Int))) x_2.id x_11 x_20 (wrap ((cost (some x) x_2 ([] ++ x_3 ++ [x_7]) (putS x_5.stops x_7.id x_11 x_20)).fst - (cost (some
  x) x_2 x_3 x_5.stops).fst)) true (wrap (x_26 + (1 : Int))) ∧ μ_1 (wrap (x_20 + (1 : Int))) x_2.id x_11 x_20 (wrap ((cost (some x) x_2 ([] ++ x_3 ++ [x_7]) (putS x_5.stops x_7.id x_11 x_20)).fst - (cost (some x) x_2 x_3 x_5.stops).fst)) true
  (wrap (x_26 + (1 : Int))) < μ_1 x_20 x_21 x_22 x_23 x_24 x_25 x_26) ∧ (decide (wrap ((cost (some x) x_2 ([] ++ x_3 ++ [x_7]) (putS x_5.stops x_7.id x_11 x_20)).fst - (cost (some x) x_2 x_3 x_5.stops).fst) < x_24) = false → ((x_8 = x_8 ∧
  (cost (some x) x_2 x_3 x_5.stops).fst = (cost (some x) x_2 x_3 x_5.stops).fst ∧ x_11 = x_11 ∧ wrap (x_20 + (1 : Int)) = wrap (x_20 + (1 : Int))) ∧ (x.n = x.n ∧ (x_2.id = x_2.id ∧ x_2.room = x_2.room ∧ x_2.home = x_2.home ∧ x_2.lo = x_2.lo ∧
  x_2.hi = x_2.hi ∧ x_2.retired = x_2.retired) ∧ (x_5.driver = x_5.driver ∧ x_5.served = x_5.served) ∧ (x_7.id = x_7.id ∧ x_7.size = x_7.size ∧ x_7.pp = x_7.pp ∧ x_7.pf = x_7.pf ∧ x_7.pt = x_7.pt ∧ x_7.ps = x_7.ps ∧ x_7.dp = x_7.dp ∧ x_7.df =
  x_7.df ∧ x_7.dt = x_7.dt ∧ x_7.ds = x_7.ds) ∧ (x_21 = x_21 ∧ x_22 = x_22 ∧ x_23 = x_23 ∧ x_24 = x_24 ∧ x_25 = x_25 ∧ wrap (x_26 + (1 : Int)) = wrap (x_26 + (1 : Int))) ∧ (0 : Int) = (0 : Int) ∧ (0 : Int) = (0 : Int) ∧ (0 : Int) = (0 : Int)
  ∧ (0 : Int) = (0 : Int) ∧ (0 : Int) = (0 : Int)) ∧ x_5.stops = x_5.stops ∧ x.l = x.l ∧ [] ++ x_3 ++ [x_7] = [] ++ x_3 ++ [x_7]) ∧ inv_1 (wrap (x_20 + (1 : Int))) x_21 x_22 x_23 x_24 x_25 (wrap (x_26 + (1 : Int))) ∧ μ_1 (wrap (x_20 + (1 :
  Int))) x_21 x_22 x_23 x_24 x_25 (wrap (x_26 + (1 : Int))) < μ_1 x_20 x_21 x_22 x_23 x_24 x_25 x_26)) ∧ ((!x_25) = !false → ((x_8 = x_8 ∧ (cost (some x) x_2 x_3 x_5.stops).fst = (cost (some x) x_2 x_3 x_5.stops).fst ∧ x_11 = x_11 ∧ wrap
  (x_20 + (1 : Int)) = wrap (x_20 + (1 : Int))) ∧ (x.n = x.n ∧ (x_2.id = x_2.id ∧ x_2.room = x_2.room ∧ x_2.home = x_2.home ∧ x_2.lo = x_2.lo ∧ x_2.hi = x_2.hi ∧ x_2.retired = x_2.retired) ∧ (x_5.driver = x_5.driver ∧ x_5.served = x_5.served)
  ∧ (x_7.id = x_7.id ∧ x_7.size = x_7.size ∧ x_7.pp = x_7.pp ∧ x_7.pf = x_7.pf ∧ x_7.pt = x_7.pt ∧ x_7.ps = x_7.ps ∧ x_7.dp = x_7.dp ∧ x_7.df = x_7.df ∧ x_7.dt = x_7.dt ∧ x_7.ds = x_7.ds) ∧ (x_2.id = x_2.id ∧ x_11 = x_11 ∧ x_20 = x_20 ∧ wrap
  ((cost (some x) x_2 ([] ++ x_3 ++ [x_7]) (putS x_5.stops x_7.id x_11 x_20)).fst - (cost (some x) x_2 x_3 x_5.stops).fst) = wrap ((cost (some x) x_2 ([] ++ x_3 ++ [x_7]) (putS x_5.stops x_7.id x_11 x_20)).fst - (cost (some x) x_2 x_3
  x_5.stops).fst) ∧ true = true ∧ wrap (x_26 + (1 : Int)) = wrap (x_26 + (1 : Int))) ∧ (0 : Int) = (0 : Int) ∧ (0 : Int) = (0 : Int) ∧ (0 : Int) = (0 : Int) ∧ (0 : Int) = (0 : Int) ∧ (0 : Int) = (0 : Int)) ∧ x_5.stops = x_5.stops ∧ x.l = x.l
  ∧ [] ++ x_3 ++ [x_7] = [] ++ x_3 ++ [x_7]) ∧ inv_1 (wrap (x_20 + (1 : Int))) x_2.id x_11 x_20 (wrap ((cost (some x) x_2 ([] ++ x_3 ++ [x_7]) (putS x_5.stops x_7.id x_11 x_20)).fst - (cost (some x) x_2 x_3 x_5.stops).fst)) true (wrap (x_26 +
  (1 : Int))) ∧ μ_1 (wrap (x_20 + (1 : Int))) x_2.id x_11 x_20 (wrap ((cost (some x) x_2 ([] ++ x_3 ++ [x_7]) (putS x_5.stops x_7.id x_11 x_20)).fst - (cost (some x) x_2 x_3 x_5.stops).fst)) true (wrap (x_26 + (1 : Int))) < μ_1 x_20 x_21 x_22
  x_23 x_24 x_25 x_26)) ∧ ((cost (some x) x_2 ([] ++ x_3 ++ [x_7]) (putS x_5.stops x_7.id x_11 x_20)).snd = !true → ((x_8 = x_8 ∧ (cost (some x) x_2 x_3 x_5.stops).fst = (cost (some x) x_2 x_3 x_5.stops).fst ∧ x_11 = x_11 ∧ wrap (x_20 + (1 :
  Int)) = wrap (x_20 + (1 : Int))) ∧ (x.n = x.n ∧ (x_2.id = x_2.id ∧ x_2.room = x_2.room ∧ x_2.home = x_2.home ∧ x_2.lo = x_2.lo ∧ x_2.hi = x_2.hi ∧ x_2.retired = x_2.retired) ∧ (x_5.driver = x_5.driver ∧ x_5.served = x_5.served) ∧ (x_7.id =
  x_7.id ∧ x_7.size = x_7.size ∧ x_7.pp = x_7.pp ∧ x_7.pf = x_7.pf ∧ x_7.pt = x_7.pt ∧ x_7.ps = x_7.ps ∧ x_7.dp = x_7.dp ∧ x_7.df = x_7.df ∧ x_7.dt = x_7.dt ∧ x_7.ds = x_7.ds) ∧ (x_21 = x_21 ∧ x_22 = x_22 ∧ x_23 = x_23 ∧ x_24 = x_24 ∧ x_25 =
  x_25 ∧ wrap (x_26 + (1 : Int)) = wrap (x_26 + (1 : Int))) ∧ (0 : Int) = (0 : Int) ∧ (0 : Int) = (0 : Int) ∧ (0 : Int) = (0 : Int) ∧ (0 : Int) = (0 : Int) ∧ (0 : Int) = (0 : Int)) ∧ x_5.stops = x_5.stops ∧ x.l = x.l ∧ [] ++ x_3 ++ [x_7] = []
  ++ x_3 ++ [x_7]) ∧ inv_1 (wrap (x_20 + (1 : Int))) x_21 x_22 x_23 x_24 x_25 (wrap (x_26 + (1 : Int))) ∧ μ_1 (wrap (x_20 + (1 : Int))) x_21 x_22 x_23 x_24 x_25 (wrap (x_26 + (1 : Int))) < μ_1 x_20 x_21 x_22 x_23 x_24 x_25 x_26))) ∧ (decide
  (x_20 ≤ (↑x_5.stops.length : Int)) = false → ((x_8 = x_8 ∧ (cost (some x) x_2 x_3 x_5.stops).fst = (cost (some x) x_2 x_3 x_5.stops).fst ∧ wrap (x_11 + (1 : Int)) = wrap (x_11 + (1 : Int))) ∧ (x.n = x.n ∧ (x_2.id = x_2.id ∧ x_2.room =
  x_2.room ∧ x_2.home = x_2.home ∧ x_2.lo = x_2.lo ∧ x_2.hi = x_2.hi ∧ x_2.retired = x_2.retired) ∧ (x_5.driver = x_5.driver ∧ x_5.served = x_5.served) ∧ (x_7.id = x_7.id ∧ x_7.size = x_7.size ∧ x_7.pp = x_7.pp ∧ x_7.pf = x_7.pf ∧ x_7.pt =
  x_7.pt ∧ x_7.ps = x_7.ps ∧ x_7.dp = x_7.dp ∧ x_7.df = x_7.df ∧ x_7.dt = x_7.dt ∧ x_7.ds = x_7.ds) ∧ (x_21 = x_21 ∧ x_22 = x_22 ∧ x_23 = x_23 ∧ x_24 = x_24 ∧ x_25 = x_25 ∧ x_26 = x_26) ∧ (0 : Int) = (0 : Int) ∧ (0 : Int) = (0 : Int) ∧ (0 :
  Int) = (0 : Int) ∧ (0 : Int) = (0 : Int) ∧ (0 : Int) = (0 : Int)) ∧ x_5.stops = x_5.stops ∧ x.l = x.l ∧ [] ++ x_3 ++ [x_7] = [] ++ x_3 ++ [x_7]) ∧ inv (wrap (x_11 + (1 : Int))) x_21 x_22 x_23 x_24 x_25 x_26 ∧ μ (wrap (x_11 + (1 : Int)))
  x_21 x_22 x_23 x_24 x_25 x_26 < μ x_11 x_12 x_13 x_14 x_15 x_16 x_17)) ∧ (decide (x_11 ≤ (↑x_5.stops.length : Int)) = false → x_12 = (alongP x x_2 x_3 x_5 x_7 x_8 x_9).driver ∧ x_13 = (alongP x x_2 x_3 x_5 x_7 x_8 x_9).pick ∧ x_14 = (alongP
  x x_2 x_3 x_5 x_7 x_8 x_9).drop ∧ x_15 = (alongP x x_2 x_3 x_5 x_7 x_8 x_9).cost ∧ x_16 = (alongP x x_2 x_3 x_5 x_7 x_8 x_9).found ∧ x_17 = (alongP x x_2 x_3 x_5 x_7 x_8 x_9).steps)
theorem ralong_told (hc : CsOk Try.prog ralong_cs) (h : ralong_vc) : Told Try.prog 48 ralong_con := told (A := ralong_la) tabOk mixed hc Try.func48 (by kernel_rfl) (by kernel_rfl) h
def rtold_vc : Prop :=
  ∀ (x : Hunt), ((!x.found) = true → ((0 : Int) = (hspot (tellH x).fst).driver ∧ (0 : Int) = (hspot (tellH x).fst).pick ∧ (0 : Int) = (hspot (tellH x).fst).drop ∧ (0 : Int) = (hspot (tellH x).fst).cost) ∧ x.steps = (tellH x).fst.steps ∧ (20 :
  Int) = (tellH x).snd) ∧ ((!x.found) = false → (x.driver = (hspot (tellH x).fst).driver ∧ x.pick = (hspot (tellH x).fst).pick ∧ x.drop = (hspot (tellH x).fst).drop ∧ x.cost = (hspot (tellH x).fst).cost) ∧ x.steps = (tellH x).fst.steps ∧ (0 :
  Int) = (tellH x).snd)
theorem rtold_told (hc : CsOk Try.prog rtold_cs) (h : rtold_vc) : Told Try.prog 47 rtold_con := told (A := rtold_la) tabOk mixed hc Try.func47 (by kernel_rfl) (by kernel_rfl) h
def rbest_vc : Prop :=
  (∀ (x : Driver) (x_1 : List Order), LenOk x_1.length → ∀ (x_3 : Route), LenOk x_3.stops.length → ∀ (x_5 : Order) (x_6 : Int), (∀ (x : MapD), none = some x → MapOk x) → ((0 : Int) = (hspot (rBestP none x x_1 x_3 x_5 x_6).fst).driver ∧ (0 :
  Int) = (hspot (rBestP none x x_1 x_3 x_5 x_6).fst).pick ∧ (0 : Int) = (hspot (rBestP none x x_1 x_3 x_5 x_6).fst).drop ∧ (0 : Int) = (hspot (rBestP none x x_1 x_3 x_5 x_6).fst).cost) ∧ (0 : Int) = (rBestP none x x_1 x_3 x_5 x_6).fst.steps ∧
  (1 : Int) = (rBestP none x x_1 x_3 x_5 x_6).snd) ∧ ∀ (x : MapD), LenOk x.l.length → ∀ (x_2 : Driver) (x_3 : List Order), LenOk x_3.length → ∀ (x_5 : Route), LenOk x_5.stops.length → ∀ (x_7 : Order) (x_8 : Int), (∀ (x_9 : MapD), some x =
  some x_9 → MapOk x_9) → ((!decide (driverE (some x) x_2 = (0 : Int))) = false → ((!decide (orderE (some x) x_7 = (0 : Int))) = false → ((!knownO (some x) x_3) = false → (decide (ixO x_3 x_7.id (0 : Int) ≥ (0 : Int)) = false → ((!decide
  (x_5.driver = x_2.id)) = false → (decide (x_5.served < (0 : Int)) = false → (decide (x_5.served > (↑x_5.stops.length : Int)) = false → (decide (x_8 < (0 : Int)) = false → (decide (x_8 > (100000 : Int)) = true → ((0 : Int) = (hspot (rBestP
  (some x) x_2 x_3 x_5 x_7 x_8).fst).driver ∧ (0 : Int) = (hspot (rBestP (some x) x_2 x_3 x_5 x_7 x_8).fst).pick ∧ (0 : Int) = (hspot (rBestP (some x) x_2 x_3 x_5 x_7 x_8).fst).drop ∧ (0 : Int) = (hspot (rBestP (some x) x_2 x_3 x_5 x_7
  x_8).fst).cost) ∧ (0 : Int) = (rBestP (some x) x_2 x_3 x_5 x_7 x_8).fst.steps ∧ (1 : Int) = (rBestP (some x) x_2 x_3 x_5 x_7 x_8).snd) ∧ (decide (x_8 > (100000 : Int)) = false → (∀ (x_19 : MapD), some x = some x_19 → MapOk x_19) ∧ ((!decide
  ((fauR (drive (some x) x_2 x_3 x_5.stops)).why = (0 : Int))) = true → ((0 : Int) = (hspot (rBestP (some x) x_2 x_3 x_5 x_7 x_8).fst).driver ∧ (0 : Int) = (hspot (rBestP (some x) x_2 x_3 x_5 x_7 x_8).fst).pick ∧ (0 : Int) = (hspot (rBestP
  (some x) x_2 x_3 x_5 x_7 x_8).fst).drop ∧ (0 : Int) = (hspot (rBestP (some x) x_2 x_3 x_5 x_7 x_8).fst).cost) ∧ (0 : Int) = (rBestP (some x) x_2 x_3 x_5 x_7 x_8).fst.steps ∧ (1 : Int) = (rBestP (some x) x_2 x_3 x_5 x_7 x_8).snd) ∧ ((!decide
  ((fauR (drive (some x) x_2 x_3 x_5.stops)).why = (0 : Int))) = false → (x_2.retired = true → ((0 : Int) = (hspot (rBestP (some x) x_2 x_3 x_5 x_7 x_8).fst).driver ∧ (0 : Int) = (hspot (rBestP (some x) x_2 x_3 x_5 x_7 x_8).fst).pick ∧ (0 :
  Int) = (hspot (rBestP (some x) x_2 x_3 x_5 x_7 x_8).fst).drop ∧ (0 : Int) = (hspot (rBestP (some x) x_2 x_3 x_5 x_7 x_8).fst).cost) ∧ (0 : Int) = (rBestP (some x) x_2 x_3 x_5 x_7 x_8).fst.steps ∧ (23 : Int) = (rBestP (some x) x_2 x_3 x_5
  x_7 x_8).snd) ∧ (x_2.retired = false → (decide ((↑x_5.stops.length : Int) > (78 : Int)) = true → ((0 : Int) = (hspot (rBestP (some x) x_2 x_3 x_5 x_7 x_8).fst).driver ∧ (0 : Int) = (hspot (rBestP (some x) x_2 x_3 x_5 x_7 x_8).fst).pick ∧ (0
  : Int) = (hspot (rBestP (some x) x_2 x_3 x_5 x_7 x_8).fst).drop ∧ (0 : Int) = (hspot (rBestP (some x) x_2 x_3 x_5 x_7 x_8).fst).cost) ∧ (0 : Int) = (rBestP (some x) x_2 x_3 x_5 x_7 x_8).fst.steps ∧ (10 : Int) = (rBestP (some x) x_2 x_3 x_5
  x_7 x_8).snd) ∧ (decide ((↑x_5.stops.length : Int) > (78 : Int)) = false → AlongPre x x_3 x_5 (Hunt.mk (0 : Int) (0 : Int) (0 : Int) (0 : Int) false (0 : Int)) ∧ ((hspot (tellH (alongP x x_2 x_3 x_5 x_7 x_8 (Hunt.mk (0 : Int) (0 : Int) (0 :
  Int) (0 : Int) false (0 : Int)))).fst).driver = (hspot (rBestP (some x) x_2 x_3 x_5 x_7 x_8).fst).driver ∧ (hspot (tellH (alongP x x_2 x_3 x_5 x_7 x_8 (Hunt.mk (0 : Int) (0 : Int) (0 : Int) (0 : Int) false (0 : Int)))).fst).pick = (hspot
  (rBestP (some x) x_2 x_3 x_5 x_7 x_8).fst).pick ∧ (hspot (tellH (alongP x x_2 x_3 x_5 x_7 x_8 (Hunt.mk (0 : Int) (0 : Int) (0 : Int) (0 : Int) false (0 : Int)))).fst).drop = (hspot (rBestP (some x) x_2 x_3 x_5 x_7 x_8).fst).drop ∧ (hspot
  (tellH (alongP x x_2 x_3 x_5 x_7 x_8 (Hunt.mk (0 : Int) (0 : Int) (0 : Int) (0 : Int) false (0 : Int)))).fst).cost = (hspot (rBestP (some x) x_2 x_3 x_5 x_7 x_8).fst).cost) ∧ (tellH (alongP x x_2 x_3 x_5 x_7 x_8 (Hunt.mk (0 : Int) (0 : Int)
  (0 : Int) (0 : Int) false (0 : Int)))).fst.steps = (rBestP (some x) x_2 x_3 x_5 x_7 x_8).fst.steps ∧ (tellH (alongP x x_2 x_3 x_5 x_7 x_8 (Hunt.mk (0 : Int) (0 : Int) (0 : Int) (0 : Int) false (0 : Int)))).snd = (rBestP (some x) x_2 x_3 x_5
  x_7 x_8).snd))))) ∧ (decide (x_8 < (0 : Int)) = !false → ((0 : Int) = (hspot (rBestP (some x) x_2 x_3 x_5 x_7 x_8).fst).driver ∧ (0 : Int) = (hspot (rBestP (some x) x_2 x_3 x_5 x_7 x_8).fst).pick ∧ (0 : Int) = (hspot (rBestP (some x) x_2
  x_3 x_5 x_7 x_8).fst).drop ∧ (0 : Int) = (hspot (rBestP (some x) x_2 x_3 x_5 x_7 x_8).fst).cost) ∧ (0 : Int) = (rBestP (some x) x_2 x_3 x_5 x_7 x_8).fst.steps ∧ (1 : Int) = (rBestP (some x) x_2 x_3 x_5 x_7 x_8).snd)) ∧ (decide (x_5.served >
  (↑x_5.stops.length : Int)) = !false → ((0 : Int) = (hspot (rBestP (some x) x_2 x_3 x_5 x_7 x_8).fst).driver ∧ (0 : Int) = (hspot (rBestP (some x) x_2 x_3 x_5 x_7 x_8).fst).pick ∧ (0 : Int) = (hspot (rBestP (some x) x_2 x_3 x_5 x_7
  x_8).fst).drop ∧ (0 : Int) = (hspot (rBestP (some x) x_2 x_3 x_5 x_7 x_8).fst).cost) ∧ (0 : Int) = (rBestP (some x) x_2 x_3 x_5 x_7 x_8).fst.steps ∧ (1 : Int) = (rBestP (some x) x_2 x_3 x_5 x_7 x_8).snd)) ∧ (decide (x_5.served < (0 : Int))
  = !false → ((0 : Int) = (hspot (rBestP (some x) x_2 x_3 x_5 x_7 x_8).fst).driver ∧ (0 : Int) = (hspot (rBestP (some x) x_2 x_3 x_5 x_7 x_8).fst).pick ∧ (0 : Int) = (hspot (rBestP (some x) x_2 x_3 x_5 x_7 x_8).fst).drop ∧ (0 : Int) = (hspot
  (rBestP (some x) x_2 x_3 x_5 x_7 x_8).fst).cost) ∧ (0 : Int) = (rBestP (some x) x_2 x_3 x_5 x_7 x_8).fst.steps ∧ (1 : Int) = (rBestP (some x) x_2 x_3 x_5 x_7 x_8).snd)) ∧ ((!decide (x_5.driver = x_2.id)) = !false → ((0 : Int) = (hspot
  (rBestP (some x) x_2 x_3 x_5 x_7 x_8).fst).driver ∧ (0 : Int) = (hspot (rBestP (some x) x_2 x_3 x_5 x_7 x_8).fst).pick ∧ (0 : Int) = (hspot (rBestP (some x) x_2 x_3 x_5 x_7 x_8).fst).drop ∧ (0 : Int) = (hspot (rBestP (some x) x_2 x_3 x_5
  x_7 x_8).fst).cost) ∧ (0 : Int) = (rBestP (some x) x_2 x_3 x_5 x_7 x_8).fst.steps ∧ (1 : Int) = (rBestP (some x) x_2 x_3 x_5 x_7 x_8).snd)) ∧ (decide (ixO x_3 x_7.id (0 : Int) ≥ (0 : Int)) = !false → ((0 : Int) = (hspot (rBestP (some x) x_2
  x_3 x_5 x_7 x_8).fst).driver ∧ (0 : Int) = (hspot (rBestP (some x) x_2 x_3 x_5 x_7 x_8).fst).pick ∧ (0 : Int) = (hspot (rBestP (some x) x_2 x_3 x_5 x_7 x_8).fst).drop ∧ (0 : Int) = (hspot (rBestP (some x) x_2 x_3 x_5 x_7 x_8).fst).cost) ∧
  (0 : Int) = (rBestP (some x) x_2 x_3 x_5 x_7 x_8).fst.steps ∧ (1 : Int) = (rBestP (some x) x_2 x_3 x_5 x_7 x_8).snd)) ∧ ((!knownO (some x) x_3) = !false → ((0 : Int) = (hspot (rBestP (some x) x_2 x_3 x_5 x_7 x_8).fst).driver ∧ (0 : Int) =
  (hspot (rBestP (some x) x_2 x_3 x_5 x_7 x_8).fst).pick ∧ (0 : Int) = (hspot (rBestP (some x) x_2 x_3 x_5 x_7 x_8).fst).drop ∧ (0 : Int) = (hspot (rBestP (some x) x_2 x_3 x_5 x_7 x_8).fst).cost) ∧ (0 : Int) = (rBestP (some x) x_2 x_3 x_5 x_7
  x_8).fst.steps ∧ (1 : Int) = (rBestP (some x) x_2 x_3 x_5 x_7 x_8).snd)) ∧ ((!decide (orderE (some x) x_7 = (0 : Int))) = !false → ((0 : Int) = (hspot (rBestP (some x) x_2 x_3 x_5 x_7 x_8).fst).driver ∧ (0 : Int) = (hspot (rBestP (some x)
  x_2 x_3 x_5 x_7 x_8).fst).pick ∧ (0 : Int) = (hspot (rBestP (some x) x_2 x_3 x_5 x_7 x_8).fst).drop ∧ (0 : Int) = (hspot (rBestP (some x) x_2 x_3 x_5 x_7 x_8).fst).cost) ∧ (0 : Int) = (rBestP (some x) x_2 x_3 x_5 x_7 x_8).fst.steps ∧ (1 :
  Int) = (rBestP (some x) x_2 x_3 x_5 x_7 x_8).snd)) ∧ ((!decide (driverE (some x) x_2 = (0 : Int))) = !false → ((0 : Int) = (hspot (rBestP (some x) x_2 x_3 x_5 x_7 x_8).fst).driver ∧ (0 : Int) = (hspot (rBestP (some x) x_2 x_3 x_5 x_7
  x_8).fst).pick ∧ (0 : Int) = (hspot (rBestP (some x) x_2 x_3 x_5 x_7 x_8).fst).drop ∧ (0 : Int) = (hspot (rBestP (some x) x_2 x_3 x_5 x_7 x_8).fst).cost) ∧ (0 : Int) = (rBestP (some x) x_2 x_3 x_5 x_7 x_8).fst.steps ∧ (1 : Int) = (rBestP
  (some x) x_2 x_3 x_5 x_7 x_8).snd)
theorem rbest_told (hc : CsOk Try.prog rbest_cs) (h : rbest_vc) : Told Try.prog 24 rbest_con := told (A := rbest_la) tabOk mixed hc Try.func24 (by kernel_rfl) (by kernel_rfl) h
def rixD_vc : Prop :=
  ∀ (x : List Driver), LenOk x.length → ∀ (x_2 : Int), ∃ (inv : Int → Prop), ∃ (μ : Int → Nat), (((x_2 = x_2 ∧ (0 : Int) = (0 : Int)) ∧ x = x) ∧ inv (0 : Int)) ∧ ∀ (x_3 : Int), inv x_3 → (decide (x_3 < (↑x.length : Int)) = true → ((0 : Int) ≤
  x_3 ∧ x_3 < (↑x.length : Int)) ∧ x_3.toNat < x.length ∧ (decide ((x.getD x_3.toNat FK.driver.zero).id = x_2) = true → x_3 = ixD x x_2 (0 : Int)) ∧ (decide ((x.getD x_3.toNat FK.driver.zero).id = x_2) = false → ((x_2 = x_2 ∧ wrap (x_3 + (1 :
  Int)) = wrap (x_3 + (1 : Int))) ∧ x = x) ∧ inv (wrap (x_3 + (1 : Int))) ∧ μ (wrap (x_3 + (1 : Int))) < μ x_3)) ∧ (decide (x_3 < (↑x.length : Int)) = false → (-1 : Int) = ixD x x_2 (0 : Int))
theorem rixD_told (hc : CsOk Try.prog rixD_cs) (h : rixD_vc) : Told Try.prog 51 rixD_con := told (A := rixD_la) tabOk mixed hc Try.func51 (by kernel_rfl) (by kernel_rfl) h
def rcheap_vc : Prop :=
  (∀ (x : List Driver), LenOk x.length → ∀ (x_2 : List Order), LenOk x_2.length → ∀ (x_4 : List Route), (LenOk x_4.length ∧ ∀ (r : Route), List.Mem r x_4 → LenOk r.stops.length) → ∀ (x_6 : Order) (x_7 : Int), (∀ (x : MapD), none = some x →
  MapOk x) → (∀ (x : MapD), none = some x → MapOk x) ∧ ((!decide ((cfauR (makeP none x x_2 x_4)).why = (0 : Int))) = false → ((!decide (orderE none x_6 = (0 : Int))) = false → (decide (ixO x_2 x_6.id (0 : Int) ≥ (0 : Int)) = false → (decide
  (x_7 < (0 : Int)) = false → (decide (x_7 > (100000 : Int)) = true → ((0 : Int) = (hspot (rcheapP none x x_2 x_4 x_6 x_7).fst).driver ∧ (0 : Int) = (hspot (rcheapP none x x_2 x_4 x_6 x_7).fst).pick ∧ (0 : Int) = (hspot (rcheapP none x x_2
  x_4 x_6 x_7).fst).drop ∧ (0 : Int) = (hspot (rcheapP none x x_2 x_4 x_6 x_7).fst).cost) ∧ (0 : Int) = (rcheapP none x x_2 x_4 x_6 x_7).fst.steps ∧ (1 : Int) = (rcheapP none x x_2 x_4 x_6 x_7).snd) ∧ (decide (x_7 > (100000 : Int)) = false →
  ∃ (inv : Int → Int → Int → Int → Int → Bool → Int → Prop), ∃ (μ : Int → Int → Int → Int → Int → Bool → Int → Nat), (((x_7 = x_7 ∧ (0 : Int) = (0 : Int)) ∧ ((x_6.id = x_6.id ∧ x_6.size = x_6.size ∧ x_6.pp = x_6.pp ∧ x_6.pf = x_6.pf ∧ x_6.pt
  = x_6.pt ∧ x_6.ps = x_6.ps ∧ x_6.dp = x_6.dp ∧ x_6.df = x_6.df ∧ x_6.dt = x_6.dt ∧ x_6.ds = x_6.ds) ∧ ((0 : Int) = (0 : Int) ∧ (0 : Int) = (0 : Int) ∧ (0 : Int) = (0 : Int) ∧ (0 : Int) = (0 : Int)) ∧ (0 : Int) = (0 : Int) ∧ (0 : Int) = (0 :
  Int) ∧ (0 : Int) = (0 : Int) ∧ (0 : Int) = (0 : Int) ∧ false = false ∧ (0 : Int) = (0 : Int)) ∧ x_4 = x_4 ∧ x_2 = x_2 ∧ x = x) ∧ inv (0 : Int) (0 : Int) (0 : Int) (0 : Int) (0 : Int) false (0 : Int)) ∧ ∀ (x_14 x_15 x_16 x_17 x_18 : Int)
  (x_19 : Bool) (x_20 : Int), inv x_14 x_15 x_16 x_17 x_18 x_19 x_20 → (decide (x_14 < (↑x_4.length : Int)) = true → ((0 : Int) ≤ x_14 ∧ x_14 < (↑x_4.length : Int)) ∧ x_14.toNat < x_4.length ∧ ((0 : Int) ≤ ixD x (x_4.getD x_14.toNat (Route.mk
  (0 : Int) (0 : Int) [])).driver (0 : Int) ∧ ixD x (x_4.getD x_14.toNat (Route.mk (0 : Int) (0 : Int) [])).driver (0 : Int) < (↑x.length : Int)) ∧ (ixD x (x_4.getD x_14.toNat (Route.mk (0 : Int) (0 : Int) [])).driver (0 : Int)).toNat <
  x.length ∧ ((x.getD (ixD x (x_4.getD x_14.toNat (Route.mk (0 : Int) (0 : Int) [])).driver (0 : Int)).toNat FK.driver.zero).retired = false → ((0 : Int) ≤ x_14 ∧ x_14 < (↑x_4.length : Int)) ∧ x_14.toNat < x_4.length ∧ (decide ((↑(x_4.getD
  x_14.toNat (Route.mk (0 : Int) (0 : Int) [])).stops.length : Int) > (78 : Int)) = true → ((x_7 = x_7 ∧ wrap (x_14 + (1 : Int)) = wrap (x_14 + (1 : Int))) ∧ ((x_6.id = x_6.id ∧ x_6.size = x_6.size ∧ x_6.pp = x_6.pp ∧ x_6.pf = x_6.pf ∧ x_6.pt
  = x_6.pt ∧ x_6.ps = x_6.ps ∧ x_6.dp = x_6.dp ∧ x_6.df = x_6.df ∧ x_6.dt = x_6.dt ∧ x_6.ds = x_6.ds) ∧ ((0 : Int) = (0 : Int) ∧ (0 : Int) = (0 : Int) ∧ (0 : Int) = (0 : Int) ∧ (0 : Int) = (0 : Int)) ∧ x_15 = x_15 ∧ x_16 = x_16 ∧ x_17 = x_17
  ∧ x_18 = x_18 ∧ x_19 = x_19 ∧ x_20 = x_20) ∧ x_4 = x_4 ∧ x_2 = x_2 ∧ x = x) ∧ inv (wrap (x_14 + (1 : Int))) x_15 x_16 x_17 x_18 x_19 x_20 ∧ μ (wrap (x_14 + (1 : Int))) x_15 x_16 x_17 x_18 x_19 x_20 < μ x_14 x_15 x_16 x_17 x_18 x_19 x_20) ∧
  (decide ((↑(x_4.getD x_14.toNat (Route.mk (0 : Int) (0 : Int) [])).stops.length : Int) > (78 : Int)) = false → ((0 : Int) ≤ x_14 ∧ x_14 < (↑x_4.length : Int)) ∧ x_14.toNat < x_4.length ∧ Bad (nat_lit 9) Oper (Oper.mk (some (nat_lit 90))
  (Op.call (Call.mk (Callee.value (Operand.func (nat_lit 48))) (Array.mk [Operand.tmp (nat_lit 80), Operand.tmp (nat_lit 81), Operand.tmp (nat_lit 82), Operand.tmp (nat_lit 86), Operand.tmp (nat_lit 87), Operand.tmp (nat_lit 88), Operand.tmp
  (nat_lit 89)]) (Array.mk [nat_lit 36, nat_lit 44, nat_lit 24, nat_lit 41, nat_lit 34, nat_lit 3, nat_lit 109]))) (nat_lit 109) "ref.go:86" (Array.mk [Edge.mk (nat_lit 0) Ground.data, Edge.mk (nat_lit 1) Ground.data, Edge.mk (nat_lit 2)
  Ground.data, Edge.mk (nat_lit 6) Ground.data, Edge.mk (nat_lit 7) Ground.data, Edge.mk (nat_lit 8) Ground.data, Edge.mk (nat_lit 9) Ground.data]) none))) ∧ ((x.getD (ixD x (x_4.getD x_14.toNat (Route.mk (0 : Int) (0 : Int) [])).driver (0 :
  Int)).toNat FK.driver.zero).retired = !false → ((x_7 = x_7 ∧ wrap (x_14 + (1 : Int)) = wrap (x_14 + (1 : Int))) ∧ ((x_6.id = x_6.id ∧ x_6.size = x_6.size ∧ x_6.pp = x_6.pp ∧ x_6.pf = x_6.pf ∧ x_6.pt = x_6.pt ∧ x_6.ps = x_6.ps ∧ x_6.dp =
  x_6.dp ∧ x_6.df = x_6.df ∧ x_6.dt = x_6.dt ∧ x_6.ds = x_6.ds) ∧ ((0 : Int) = (0 : Int) ∧ (0 : Int) = (0 : Int) ∧ (0 : Int) = (0 : Int) ∧ (0 : Int) = (0 : Int)) ∧ x_15 = x_15 ∧ x_16 = x_16 ∧ x_17 = x_17 ∧ x_18 = x_18 ∧ x_19 = x_19 ∧ x_20 =
  x_20) ∧ x_4 = x_4 ∧ x_2 = x_2 ∧ x = x) ∧ inv (wrap (x_14 + (1 : Int))) x_15 x_16 x_17 x_18 x_19 x_20 ∧ μ (wrap (x_14 + (1 : Int))) x_15 x_16 x_17 x_18 x_19 x_20 < μ x_14 x_15 x_16 x_17 x_18 x_19 x_20)) ∧ (decide (x_14 < (↑x_4.length : Int))
  = false → ((hspot (tellH (Hunt.mk x_15 x_16 x_17 x_18 x_19 x_20)).fst).driver = (hspot (rcheapP none x x_2 x_4 x_6 x_7).fst).driver ∧ (hspot (tellH (Hunt.mk x_15 x_16 x_17 x_18 x_19 x_20)).fst).pick = (hspot (rcheapP none x x_2 x_4 x_6
  x_7).fst).pick ∧ (hspot (tellH (Hunt.mk x_15 x_16 x_17 x_18 x_19 x_20)).fst).drop = (hspot (rcheapP none x x_2 x_4 x_6 x_7).fst).drop ∧ (hspot (tellH (Hunt.mk x_15 x_16 x_17 x_18 x_19 x_20)).fst).cost = (hspot (rcheapP none x x_2 x_4 x_6
  x_7).fst).cost) ∧ (tellH (Hunt.mk x_15 x_16 x_17 x_18 x_19 x_20)).fst.steps = (rcheapP none x x_2 x_4 x_6 x_7).fst.steps ∧ (tellH (Hunt.mk x_15 x_16 x_17 x_18 x_19 x_20)).snd = (rcheapP none x x_2 x_4 x_6 x_7).snd))) ∧ (decide (x_7 < (0 :
  Int)) = !false → ((0 : Int) = (hspot (rcheapP none x x_2 x_4 x_6 x_7).fst).driver ∧ (0 : Int) = (hspot (rcheapP none x x_2 x_4 x_6 x_7).fst).pick ∧ (0 : Int) = (hspot (rcheapP none x x_2 x_4 x_6 x_7).fst).drop ∧ (0 : Int) = (hspot (rcheapP
  none x x_2 x_4 x_6 x_7).fst).cost) ∧ (0 : Int) = (rcheapP none x x_2 x_4 x_6 x_7).fst.steps ∧ (1 : Int) = (rcheapP none x x_2 x_4 x_6 x_7).snd)) ∧ (decide (ixO x_2 x_6.id (0 : Int) ≥ (0 : Int)) = !false → ((0 : Int) = (hspot (rcheapP none x
  x_2 x_4 x_6 x_7).fst).driver ∧ (0 : Int) = (hspot (rcheapP none x x_2 x_4 x_6 x_7).fst).pick ∧ (0 : Int) = (hspot (rcheapP none x x_2 x_4 x_6 x_7).fst).drop ∧ (0 : Int) = (hspot (rcheapP none x x_2 x_4 x_6 x_7).fst).cost) ∧ (0 : Int) =
  (rcheapP none x x_2 x_4 x_6 x_7).fst.steps ∧ (1 : Int) = (rcheapP none x x_2 x_4 x_6 x_7).snd)) ∧ ((!decide (orderE none x_6 = (0 : Int))) = !false → ((0 : Int) = (hspot (rcheapP none x x_2 x_4 x_6 x_7).fst).driver ∧ (0 : Int) = (hspot
  (rcheapP none x x_2 x_4 x_6 x_7).fst).pick ∧ (0 : Int) = (hspot (rcheapP none x x_2 x_4 x_6 x_7).fst).drop ∧ (0 : Int) = (hspot (rcheapP none x x_2 x_4 x_6 x_7).fst).cost) ∧ (0 : Int) = (rcheapP none x x_2 x_4 x_6 x_7).fst.steps ∧ (1 : Int)
  = (rcheapP none x x_2 x_4 x_6 x_7).snd)) ∧ ((!decide ((cfauR (makeP none x x_2 x_4)).why = (0 : Int))) = !false → ((0 : Int) = (hspot (rcheapP none x x_2 x_4 x_6 x_7).fst).driver ∧ (0 : Int) = (hspot (rcheapP none x x_2 x_4 x_6
  x_7).fst).pick ∧ (0 : Int) = (hspot (rcheapP none x x_2 x_4 x_6 x_7).fst).drop ∧ (0 : Int) = (hspot (rcheapP none x x_2 x_4 x_6 x_7).fst).cost) ∧ (0 : Int) = (rcheapP none x x_2 x_4 x_6 x_7).fst.steps ∧ (1 : Int) = (rcheapP none x x_2 x_4
  x_6 x_7).snd)) ∧ ∀ (x : MapD), LenOk x.l.length → ∀ (x_2 : List Driver), LenOk x_2.length → ∀ (x_4 : List Order), LenOk x_4.length → ∀ (x_6 : List Route), (LenOk x_6.length ∧ ∀ (r : Route), List.Mem r x_6 → LenOk r.stops.length) → ∀ (x_8 :
  Order) (x_9 : Int), (∀ (x_10 : MapD), some x = some x_10 → MapOk x_10) → (∀ (x_11 : MapD), some x = some x_11 → MapOk x_11) ∧ ((!decide ((cfauR (makeP (some x) x_2 x_4 x_6)).why = (0 : Int))) = false → ((!decide (orderE (some x) x_8 = (0 :
  Int))) = false → (decide (ixO x_4 x_8.id (0 : Int) ≥ (0 : Int)) = false → (decide (x_9 < (0 : Int)) = false → (decide (x_9 > (100000 : Int)) = true → ((0 : Int) = (hspot (rcheapP (some x) x_2 x_4 x_6 x_8 x_9).fst).driver ∧ (0 : Int) =
  (hspot (rcheapP (some x) x_2 x_4 x_6 x_8 x_9).fst).pick ∧ (0 : Int) = (hspot (rcheapP (some x) x_2 x_4 x_6 x_8 x_9).fst).drop ∧ (0 : Int) = (hspot (rcheapP (some x) x_2 x_4 x_6 x_8 x_9).fst).cost) ∧ (0 : Int) = (rcheapP (some x) x_2 x_4 x_6
  x_8 x_9).fst.steps ∧ (1 : Int) = (rcheapP (some x) x_2 x_4 x_6 x_8 x_9).snd) ∧ (decide (x_9 > (100000 : Int)) = false → ∃ (inv : Int → Int → Int → Int → Int → Bool → Int → Prop), ∃ (μ : Int → Int → Int → Int → Int → Bool → Int → Nat),
  (((x_9 = x_9 ∧ (0 : Int) = (0 : Int)) ∧ (x.n = x.n ∧ (x_8.id = x_8.id ∧ x_8.size = x_8.size ∧ x_8.pp = x_8.pp ∧ x_8.pf = x_8.pf ∧ x_8.pt = x_8.pt ∧ x_8.ps = x_8.ps ∧ x_8.dp = x_8.dp ∧ x_8.df = x_8.df ∧ x_8.dt = x_8.dt ∧ x_8.ds = x_8.ds) ∧
  ((0 : Int) = (0 : Int) ∧ (0 : Int) = (0 : Int) ∧ (0 : Int) = (0 : Int) ∧ (0 : Int) = (0 : Int)) ∧ (0 : Int) = (0 : Int) ∧ (0 : Int) = (0 : Int) ∧ (0 : Int) = (0 : Int) ∧ (0 : Int) = (0 : Int) ∧ false = false ∧ (0 : Int) = (0 : Int)) ∧ x.l =
  x.l ∧ x_6 = x_6 ∧ x_4 = x_4 ∧ x_2 = x_2) ∧ inv (0 : Int) (0 : Int) (0 : Int) (0 : Int) (0 : Int) false (0 : Int)) ∧ ∀ (x_16 x_17 x_18 x_19 x_20 : Int) (x_21 : Bool) (x_22 : Int), inv x_16 x_17 x_18 x_19 x_20 x_21 x_22 → (decide (x_16 <
  (↑x_6.length : Int)) = true → ((0 : Int) ≤ x_16 ∧ x_16 < (↑x_6.length : Int)) ∧ x_16.toNat < x_6.length ∧ ((0 : Int) ≤ ixD x_2 (x_6.getD x_16.toNat (Route.mk (0 : Int) (0 : Int) [])).driver (0 : Int) ∧ ixD x_2 (x_6.getD x_16.toNat (Route.mk
  (0 : Int) (0 : Int) [])).driver (0 : Int) < (↑x_2.length : Int)) ∧ (ixD x_2 (x_6.getD x_16.toNat (Route.mk (0 : Int) (0 : Int) [])).driver (0 : Int)).toNat < x_2.length ∧ ((x_2.getD (ixD x_2 (x_6.getD x_16.toNat (Route.mk (0 : Int) (0 :
  Int) [])).driver (0 : Int)).toNat FK.driver.zero).retired = false → ((0 : Int) ≤ x_16 ∧ x_16 < (↑x_6.length : Int)) ∧ x_16.toNat < x_6.length ∧ (decide ((↑(x_6.getD x_16.toNat (Route.mk (0 : Int) (0 : Int) [])).stops.length : Int) > (78 :
  Int)) = true → ((x_9 = x_9 ∧ wrap (x_16 + (1 : Int)) = wrap (x_16 + (1 : Int))) ∧ (x.n = x.n ∧ (x_8.id = x_8.id ∧ x_8.size = x_8.size ∧ x_8.pp = x_8.pp ∧ x_8.pf = x_8.pf ∧ x_8.pt = x_8.pt ∧ x_8.ps = x_8.ps ∧ x_8.dp = x_8.dp ∧ x_8.df =
  x_8.df ∧ x_8.dt = x_8.dt ∧ x_8.ds = x_8.ds) ∧ ((0 : Int) = (0 : Int) ∧ (0 : Int) = (0 : Int) ∧ (0 : Int) = (0 : Int) ∧ (0 : Int) = (0 : Int)) ∧ x_17 = x_17 ∧ x_18 = x_18 ∧ x_19 = x_19 ∧ x_20 = x_20 ∧ x_21 = x_21 ∧ x_22 = x_22) ∧ x.l = x.l ∧
  x_6 = x_6 ∧ x_4 = x_4 ∧ x_2 = x_2) ∧ inv (wrap (x_16 + (1 : Int))) x_17 x_18 x_19 x_20 x_21 x_22 ∧ μ (wrap (x_16 + (1 : Int))) x_17 x_18 x_19 x_20 x_21 x_22 < μ x_16 x_17 x_18 x_19 x_20 x_21 x_22) ∧ (decide ((↑(x_6.getD x_16.toNat (Route.mk
  (0 : Int) (0 : Int) [])).stops.length : Int) > (78 : Int)) = false → ((0 : Int) ≤ x_16 ∧ x_16 < (↑x_6.length : Int)) ∧ x_16.toNat < x_6.length ∧ AlongPre x x_4 (x_6.getD x_16.toNat (Route.mk (0 : Int) (0 : Int) [])) (Hunt.mk x_17 x_18 x_19
  x_20 x_21 x_22) ∧ ((x_9 = x_9 ∧ wrap (x_16 + (1 : Int)) = wrap (x_16 + (1 : Int))) ∧ (x.n = x.n ∧ (x_8.id = x_8.id ∧ x_8.size = x_8.size ∧ x_8.pp = x_8.pp ∧ x_8.pf = x_8.pf ∧ x_8.pt = x_8.pt ∧ x_8.ps = x_8.ps ∧ x_8.dp = x_8.dp ∧ x_8.df =
  x_8.df ∧ x_8.dt = x_8.dt ∧ x_8.ds = x_8.ds) ∧ ((0 : Int) = (0 : Int) ∧ (0 : Int) = (0 : Int) ∧ (0 : Int) = (0 : Int) ∧ (0 : Int) = (0 : Int)) ∧ (alongP x (x_2.getD (ixD x_2 (x_6.getD x_16.toNat (Route.mk (0 : Int) (0 : Int) [])).driver (0 :
  Int)).toNat FK.driver.zero) x_4 (x_6.getD x_16.toNat (Route.mk (0 : Int) (0 : Int) [])) x_8 x_9 (Hunt.mk x_17 x_18 x_19 x_20 x_21 x_22)).driver = (alongP x (x_2.getD (ixD x_2 (x_6.getD x_16.toNat (Route.mk (0 : Int) (0 : Int) [])).driver (0
  : Int)).toNat FK.driver.zero) x_4 (x_6.getD x_16.toNat (Route.mk (0 : Int) (0 : Int) [])) x_8 x_9 (Hunt.mk x_17 x_18 x_19 x_20 x_21 x_22)).driver ∧ (alongP x (x_2.getD (ixD x_2 (x_6.getD x_16.toNat (Route.mk (0 : Int) (0 : Int) [])).driver
  (0 : Int)).toNat FK.driver.zero) x_4 (x_6.getD x_16.toNat (Route.mk (0 : Int) (0 : Int) [])) x_8 x_9 (Hunt.mk x_17 x_18 x_19 x_20 x_21 x_22)).pick = (alongP x (x_2.getD (ixD x_2 (x_6.getD x_16.toNat (Route.mk (0 : Int) (0 : Int) [])).driver
  (0 : Int)).toNat FK.driver.zero) x_4 (x_6.getD x_16.toNat (Route.mk (0 : Int) (0 : Int) [])) x_8 x_9 (Hunt.mk x_17 x_18 x_19 x_20 x_21 x_22)).pick ∧ (alongP x (x_2.getD (ixD x_2 (x_6.getD x_16.toNat (Route.mk (0 : Int) (0 : Int) [])).driver
  (0 : Int)).toNat FK.driver.zero) x_4 (x_6.getD x_16.toNat (Route.mk (0 : Int) (0 : Int) [])) x_8 x_9 (Hunt.mk x_17 x_18 x_19 x_20 x_21 x_22)).drop = (alongP x (x_2.getD (ixD x_2 (x_6.getD x_16.toNat (Route.mk (0 : Int) (0 : Int) [])).driver
  (0 : Int)).toNat FK.driver.zero) x_4 (x_6.getD x_16.toNat (Route.mk (0 : Int) (0 : Int) [])) x_8 x_9 (Hunt.mk x_17 x_18 x_19 x_20 x_21 x_22)).drop ∧ (alongP x (x_2.getD (ixD x_2 (x_6.getD x_16.toNat (Route.mk (0 : Int) (0 : Int) [])).driver
  (0 : Int)).toNat FK.driver.zero) x_4 (x_6.getD x_16.toNat (Route.mk (0 : Int) (0 : Int) [])) x_8 x_9 (Hunt.mk x_17 x_18 x_19 x_20 x_21 x_22)).cost = (alongP x (x_2.getD (ixD x_2 (x_6.getD x_16.toNat (Route.mk (0 : Int) (0 : Int) [])).driver
  (0 : Int)).toNat FK.driver.zero) x_4 (x_6.getD x_16.toNat (Route.mk (0 : Int) (0 : Int) [])) x_8 x_9 (Hunt.mk x_17 x_18 x_19 x_20 x_21 x_22)).cost ∧ (alongP x (x_2.getD (ixD x_2 (x_6.getD x_16.toNat (Route.mk (0 : Int) (0 : Int) [])).driver
  (0 : Int)).toNat FK.driver.zero) x_4 (x_6.getD x_16.toNat (Route.mk (0 : Int) (0 : Int) [])) x_8 x_9 (Hunt.mk x_17 x_18 x_19 x_20 x_21 x_22)).found = (alongP x (x_2.getD (ixD x_2 (x_6.getD x_16.toNat (Route.mk (0 : Int) (0 : Int)
  [])).driver (0 : Int)).toNat FK.driver.zero) x_4 (x_6.getD x_16.toNat (Route.mk (0 : Int) (0 : Int) [])) x_8 x_9 (Hunt.mk x_17 x_18 x_19 x_20 x_21 x_22)).found ∧ (alongP x (x_2.getD (ixD x_2 (x_6.getD x_16.toNat (Route.mk (0 : Int) (0 :
  Int) [])).driver (0 : Int)).toNat FK.driver.zero) x_4 (x_6.getD x_16.toNat (Route.mk (0 : Int) (0 : Int) [])) x_8 x_9 (Hunt.mk x_17 x_18 x_19 x_20 x_21 x_22)).steps = (alongP x (x_2.getD (ixD x_2 (x_6.getD x_16.toNat (Route.mk (0 : Int) (0
  : Int) [])).driver (0 : Int)).toNat FK.driver.zero) x_4 (x_6.getD x_16.toNat (Route.mk (0 : Int) (0 : Int) [])) x_8 x_9 (Hunt.mk x_17 x_18 x_19 x_20 x_21 x_22)).steps) ∧ x.l = x.l ∧ x_6 = x_6 ∧ x_4 = x_4 ∧ x_2 = x_2) ∧ inv (wrap (x_16 + (1
  : Int))) (alongP x (x_2.getD (ixD x_2 (x_6.getD x_16.toNat (Route.mk (0 : Int) (0 : Int) [])).driver (0 : Int)).toNat FK.driver.zero) x_4 (x_6.getD x_16.toNat (Route.mk (0 : Int) (0 : Int) [])) x_8 x_9 (Hunt.mk x_17 x_18 x_19 x_20 x_21
  x_22)).driver (alongP x (x_2.getD (ixD x_2 (x_6.getD x_16.toNat (Route.mk (0 : Int) (0 : Int) [])).driver (0 : Int)).toNat FK.driver.zero) x_4 (x_6.getD x_16.toNat (Route.mk (0 : Int) (0 : Int) [])) x_8 x_9 (Hunt.mk x_17 x_18 x_19 x_20 x_21
  x_22)).pick (alongP x (x_2.getD (ixD x_2 (x_6.getD x_16.toNat (Route.mk (0 : Int) (0 : Int) [])).driver (0 : Int)).toNat FK.driver.zero) x_4 (x_6.getD x_16.toNat (Route.mk (0 : Int) (0 : Int) [])) x_8 x_9 (Hunt.mk x_17 x_18 x_19 x_20 x_21
  x_22)).drop (alongP x (x_2.getD (ixD x_2 (x_6.getD x_16.toNat (Route.mk (0 : Int) (0 : Int) [])).driver (0 : Int)).toNat FK.driver.zero) x_4 (x_6.getD x_16.toNat (Route.mk (0 : Int) (0 : Int) [])) x_8 x_9 (Hunt.mk x_17 x_18 x_19 x_20 x_21
  x_22)).cost (alongP x (x_2.getD (ixD x_2 (x_6.getD x_16.toNat (Route.mk (0 : Int) (0 : Int) [])).driver (0 : Int)).toNat FK.driver.zero) x_4 (x_6.getD x_16.toNat (Route.mk (0 : Int) (0 : Int) [])) x_8 x_9 (Hunt.mk x_17 x_18 x_19 x_20 x_21
  x_22)).found (alongP x (x_2.getD (ixD x_2 (x_6.getD x_16.toNat (Route.mk (0 : Int) (0 : Int) [])).driver (0 : Int)).toNat FK.driver.zero) x_4 (x_6.getD x_16.toNat (Route.mk (0 : Int) (0 : Int) [])) x_8 x_9 (Hunt.mk x_17 x_18 x_19 x_20 x_21
  x_22)).steps ∧ μ (wrap (x_16 + (1 : Int))) (alongP x (x_2.getD (ixD x_2 (x_6.getD x_16.toNat (Route.mk (0 : Int) (0 : Int) [])).driver (0 : Int)).toNat FK.driver.zero) x_4 (x_6.getD x_16.toNat (Route.mk (0 : Int) (0 : Int) [])) x_8 x_9
  (Hunt.mk x_17 x_18 x_19 x_20 x_21 x_22)).driver (alongP x (x_2.getD (ixD x_2 (x_6.getD x_16.toNat (Route.mk (0 : Int) (0 : Int) [])).driver (0 : Int)).toNat FK.driver.zero) x_4 (x_6.getD x_16.toNat (Route.mk (0 : Int) (0 : Int) [])) x_8 x_9
  (Hunt.mk x_17 x_18 x_19 x_20 x_21 x_22)).pick (alongP x (x_2.getD (ixD x_2 (x_6.getD x_16.toNat (Route.mk (0 : Int) (0 : Int) [])).driver (0 : Int)).toNat FK.driver.zero) x_4 (x_6.getD x_16.toNat (Route.mk (0 : Int) (0 : Int) [])) x_8 x_9
  (Hunt.mk x_17 x_18 x_19 x_20 x_21 x_22)).drop (alongP x (x_2.getD (ixD x_2 (x_6.getD x_16.toNat (Route.mk (0 : Int) (0 : Int) [])).driver (0 : Int)).toNat FK.driver.zero) x_4 (x_6.getD x_16.toNat (Route.mk (0 : Int) (0 : Int) [])) x_8 x_9
  (Hunt.mk x_17 x_18 x_19 x_20 x_21 x_22)).cost (alongP x (x_2.getD (ixD x_2 (x_6.getD x_16.toNat (Route.mk (0 : Int) (0 : Int) [])).driver (0 : Int)).toNat FK.driver.zero) x_4 (x_6.getD x_16.toNat (Route.mk (0 : Int) (0 : Int) [])) x_8 x_9
  (Hunt.mk x_17 x_18 x_19 x_20 x_21 x_22)).found (alongP x (x_2.getD (ixD x_2 (x_6.getD x_16.toNat (Route.mk (0 : Int) (0 : Int) [])).driver (0 : Int)).toNat FK.driver.zero) x_4 (x_6.getD x_16.toNat (Route.mk (0 : Int) (0 : Int) [])) x_8 x_9
  (Hunt.mk x_17 x_18 x_19 x_20 x_21 x_22)).steps < μ x_16 x_17 x_18 x_19 x_20 x_21 x_22)) ∧ ((x_2.getD (ixD x_2 (x_6.getD x_16.toNat (Route.mk (0 : Int) (0 : Int) [])).driver (0 : Int)).toNat FK.driver.zero).retired = !false → ((x_9 = x_9 ∧
  wrap (x_16 + (1 : Int)) = wrap (x_16 + (1 : Int))) ∧ (x.n = x.n ∧ (x_8.id = x_8.id ∧ x_8.size = x_8.size ∧ x_8.pp = x_8.pp ∧ x_8.pf = x_8.pf ∧ x_8.pt = x_8.pt ∧ x_8.ps = x_8.ps ∧ x_8.dp = x_8.dp ∧ x_8.df = x_8.df ∧ x_8.dt = x_8.dt ∧ x_8.ds
  = x_8.ds) ∧ ((0 : Int) = (0 : Int) ∧ (0 : Int) = (0 : Int) ∧ (0 : Int) = (0 : Int) ∧ (0 : Int) = (0 : Int)) ∧ x_17 = x_17 ∧ x_18 = x_18 ∧ x_19 = x_19 ∧ x_20 = x_20 ∧ x_21 = x_21 ∧ x_22 = x_22) ∧ x.l = x.l ∧ x_6 = x_6 ∧ x_4 = x_4 ∧ x_2 =
  x_2) ∧ inv (wrap (x_16 + (1 : Int))) x_17 x_18 x_19 x_20 x_21 x_22 ∧ μ (wrap (x_16 + (1 : Int))) x_17 x_18 x_19 x_20 x_21 x_22 < μ x_16 x_17 x_18 x_19 x_20 x_21 x_22)) ∧ (decide (x_16 < (↑x_6.length : Int)) = false → ((hspot (tellH (Hunt.mk
  x_17 x_18 x_19 x_20 x_21 x_22)).fst).driver = (hspot (rcheapP (some x) x_2 x_4 x_6 x_8 x_9).fst).driver ∧ (hspot (tellH (Hunt.mk x_17 x_18 x_19 x_20 x_21 x_22)).fst).pick = (hspot (rcheapP (some x) x_2 x_4 x_6 x_8 x_9).fst).pick ∧ (hspot
  (tellH (Hunt.mk x_17 x_18 x_19 x_20 x_21 x_22)).fst).drop = (hspot (rcheapP (some x) x_2 x_4 x_6 x_8 x_9).fst).drop ∧ (hspot (tellH (Hunt.mk x_17 x_18 x_19 x_20 x_21 x_22)).fst).cost = (hspot (rcheapP (some x) x_2 x_4 x_6 x_8
  x_9).fst).cost) ∧ (tellH (Hunt.mk x_17 x_18 x_19 x_20 x_21 x_22)).fst.steps = (rcheapP (some x) x_2 x_4 x_6 x_8 x_9).fst.steps ∧ (tellH (Hunt.mk x_17 x_18 x_19 x_20 x_21 x_22)).snd = (rcheapP (some x) x_2 x_4 x_6 x_8 x_9).snd))) ∧ (decide
  (x_9 < (0 : Int)) = !false → ((0 : Int) = (hspot (rcheapP (some x) x_2 x_4 x_6 x_8 x_9).fst).driver ∧ (0 : Int) = (hspot (rcheapP (some x) x_2 x_4 x_6 x_8 x_9).fst).pick ∧ (0 : Int) = (hspot (rcheapP (some x) x_2 x_4 x_6 x_8 x_9).fst).drop
  ∧ (0 : Int) = (hspot (rcheapP (some x) x_2 x_4 x_6 x_8 x_9).fst).cost) ∧ (0 : Int) = (rcheapP (some x) x_2 x_4 x_6 x_8 x_9).fst.steps ∧ (1 : Int) = (rcheapP (some x) x_2 x_4 x_6 x_8 x_9).snd)) ∧ (decide (ixO x_4 x_8.id (0 : Int) ≥ (0 :
  Int)) = !false → ((0 : Int) = (hspot (rcheapP (some x) x_2 x_4 x_6 x_8 x_9).fst).driver ∧ (0 : Int) = (hspot (rcheapP (some x) x_2 x_4 x_6 x_8 x_9).fst).pick ∧ (0 : Int) = (hspot (rcheapP (some x) x_2 x_4 x_6 x_8 x_9).fst).drop ∧ (0 : Int)
  = (hspot (rcheapP (some x) x_2 x_4 x_6 x_8 x_9).fst).cost) ∧ (0 : Int) = (rcheapP (some x) x_2 x_4 x_6 x_8 x_9).fst.steps ∧ (1 : Int) = (rcheapP (some x) x_2 x_4 x_6 x_8 x_9).snd)) ∧ ((!decide (orderE (some x) x_8 = (0 : Int))) = !false →
  ((0 : Int) = (hspot (rcheapP (some x) x_2 x_4 x_6 x_8 x_9).fst).driver ∧ (0 : Int) = (hspot (rcheapP (some x) x_2 x_4 x_6 x_8 x_9).fst).pick ∧ (0 : Int) = (hspot (rcheapP (some x) x_2 x_4 x_6 x_8 x_9).fst).drop ∧ (0 : Int) = (hspot (rcheapP
  (some x) x_2 x_4 x_6 x_8 x_9).fst).cost) ∧ (0 : Int) = (rcheapP (some x) x_2 x_4 x_6 x_8 x_9).fst.steps ∧ (1 : Int) = (rcheapP (some x) x_2 x_4 x_6 x_8 x_9).snd)) ∧ ((!decide ((cfauR (makeP (some x) x_2 x_4 x_6)).why = (0 : Int))) = !false
  → ((0 : Int) = (hspot (rcheapP (some x) x_2 x_4 x_6 x_8 x_9).fst).driver ∧ (0 : Int) = (hspot (rcheapP (some x) x_2 x_4 x_6 x_8 x_9).fst).pick ∧ (0 : Int) = (hspot (rcheapP (some x) x_2 x_4 x_6 x_8 x_9).fst).drop ∧ (0 : Int) = (hspot
  (rcheapP (some x) x_2 x_4 x_6 x_8 x_9).fst).cost) ∧ (0 : Int) = (rcheapP (some x) x_2 x_4 x_6 x_8 x_9).fst.steps ∧ (1 : Int) = (rcheapP (some x) x_2 x_4 x_6 x_8 x_9).snd)
theorem rcheap_told (hc : CsOk Try.prog rcheap_cs) (h : rcheap_vc) : Told Try.prog 26 rcheap_con := told (A := rcheap_la) tabOk mixed hc Try.func26 (by kernel_rfl) (by kernel_rfl) h
end Go.Eng
