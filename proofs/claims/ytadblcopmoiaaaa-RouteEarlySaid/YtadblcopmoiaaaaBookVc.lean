/- The conditions of functions, as print.. of the engine told them. -/
import Derived.Test.YtadblcopmoiaaaaBook
import Derived.KernelRfl
set_option linter.unusedVariables false
namespace Go.Eng
open Go Go.Proofs
def sameO_vc : Prop :=
  ∀ (x : List Order), LenOk x.length → ∀ (x_2 : List Order), LenOk x_2.length → ((!decide ((↑x.length : Int) = (↑x_2.length : Int))) = true → false = same x x_2) ∧ ((!decide ((↑x.length : Int) = (↑x_2.length : Int))) = false → ∃ (inv : Int →
  Prop), ∃ (μ : Int → Nat), (((0 : Int) = (0 : Int) ∧ x_2 = x_2 ∧ x = x) ∧ inv (0 : Int)) ∧ ∀ (x_5 : Int), inv x_5 → (decide (x_5 < (↑x.length : Int)) = true → ((0 : Int) ≤ x_5 ∧ x_5 < (↑x.length : Int)) ∧ x_5.toNat < x.length ∧ ((0 : Int) ≤
  x_5 ∧ x_5 < (↑x_2.length : Int)) ∧ x_5.toNat < x_2.length ∧ ((!(decide ((x.getD x_5.toNat FK.order.zero).id = (x_2.getD x_5.toNat FK.order.zero).id) && (decide ((x.getD x_5.toNat FK.order.zero).size = (x_2.getD x_5.toNat
  FK.order.zero).size) && (decide ((x.getD x_5.toNat FK.order.zero).pp = (x_2.getD x_5.toNat FK.order.zero).pp) && (decide ((x.getD x_5.toNat FK.order.zero).pf = (x_2.getD x_5.toNat FK.order.zero).pf) && (decide ((x.getD x_5.toNat
  FK.order.zero).pt = (x_2.getD x_5.toNat FK.order.zero).pt) && true) && (decide ((x.getD x_5.toNat FK.order.zero).ps = (x_2.getD x_5.toNat FK.order.zero).ps) && true)) && (decide ((x.getD x_5.toNat FK.order.zero).dp = (x_2.getD x_5.toNat
  FK.order.zero).dp) && (decide ((x.getD x_5.toNat FK.order.zero).df = (x_2.getD x_5.toNat FK.order.zero).df) && (decide ((x.getD x_5.toNat FK.order.zero).dt = (x_2.getD x_5.toNat FK.order.zero).dt) && true) && (decide ((x.getD x_5.toNat
  FK.order.zero).ds = (x_2.getD x_5.toNat FK.order.zero).ds) && true)) && true))))) = true → false = same x x_2) ∧ ((!(decide ((x.getD x_5.toNat FK.order.zero).id = (x_2.getD x_5.toNat FK.order.zero).id) && (decide ((x.getD x_5.toNat
  FK.order.zero).size = (x_2.getD x_5.toNat FK.order.zero).size) && (decide ((x.getD x_5.toNat FK.order.zero).pp = (x_2.getD x_5.toNat FK.order.zero).pp) && (decide ((x.getD x_5.toNat FK.order.zero).pf = (x_2.getD x_5.toNat FK.order.zero).pf)
  && (decide ((x.getD x_5.toNat FK.order.zero).pt = (x_2.getD x_5.toNat FK.order.zero).pt) && true) && (decide ((x.getD x_5.toNat FK.order.zero).ps = (x_2.getD x_5.toNat FK.order.zero).ps) && true)) && (decide ((x.getD x_5.toNat
  FK.order.zero).dp = (x_2.getD x_5.toNat FK.order.zero).dp) && (decide ((x.getD x_5.toNat FK.order.zero).df = (x_2.getD x_5.toNat FK.order.zero).df) && (decide ((x.getD x_5.toNat FK.order.zero).dt = (x_2.getD x_5.toNat FK.order.zero).dt) &&
  true) && (decide ((x.getD x_5.toNat FK.order.zero).ds = (x_2.getD x_5.toNat FK.order.zero).ds) && true)) && true))))) = false → (wrap (x_5 + (1 : Int)) = wrap (x_5 + (1 : Int)) ∧ x_2 = x_2 ∧ x = x) ∧ inv (wrap (x_5 + (1 : Int))) ∧ μ (wrap
  (x_5 + (1 : Int))) < μ x_5)) ∧ (decide (x_5 < (↑x.length : Int)) = false → true = same x x_2))
theorem sameO_told (hc : CsOk Try.prog sameO_cs) (h : sameO_vc) : Told Try.prog 36 sameO_con := told (A := sameO_la) tabOk mixed hc Try.func36 (by kernel_rfl) (by kernel_rfl) h
def roomyO_vc : Prop :=
  ∀ (x : List Order), LenOk x.length → ∀ (x_2 : Order), x.length * (80 : Nat) ≤ (140737488351232 : Nat) → ((0 : Int) ≤ wrap ((↑x.length : Int) + (80 : Int)) ∧ wrap ((↑x.length : Int) + (80 : Int)) ≤ wrap ((↑x.length : Int) + (80 : Int)) ∧
  wrap ((↑x.length : Int) + (80 : Int)) * ((8 : Int) * (↑(10 : Nat) : Int)) ≤ (281474976710656 : Int)) ∧ True ∧ ∃ (inv : Int → List Order → Prop), ∃ (μ : Int → List Order → Nat), (((↑x.length : Int) = (↑x.length : Int) ∧ (x_2.id = x_2.id ∧
  x_2.size = x_2.size ∧ x_2.pp = x_2.pp ∧ x_2.pf = x_2.pf ∧ x_2.pt = x_2.pt ∧ x_2.ps = x_2.ps ∧ x_2.dp = x_2.dp ∧ x_2.df = x_2.df ∧ x_2.dt = x_2.dt ∧ x_2.ds = x_2.ds) ∧ List.take (List.replicate (wrap ((↑x.length : Int) + (80 : Int))).toNat
  FK.order.zero).length x ++ List.drop x.length (List.replicate (wrap ((↑x.length : Int) + (80 : Int))).toNat FK.order.zero) = List.take (List.replicate (wrap ((↑x.length : Int) + (80 : Int))).toNat FK.order.zero).length x ++ List.drop
  x.length (List.replicate (wrap ((↑x.length : Int) + (80 : Int))).toNat FK.order.zero)) ∧ inv (↑x.length : Int) (List.take (List.replicate (wrap ((↑x.length : Int) + (80 : Int))).toNat FK.order.zero).length x ++ List.drop x.length
  (List.replicate (wrap ((↑x.length : Int) + (80 : Int))).toNat FK.order.zero))) ∧ ∀ (x_4 : Int) (x_5 : List Order), inv x_4 x_5 → (decide (x_4 < (↑x_5.length : Int)) = true → ((0 : Int) ≤ x_4 ∧ x_4 < (↑x_5.length : Int)) ∧ x_4.toNat <
  x_5.length ∧ (wrap (x_4 + (1 : Int)) = wrap (x_4 + (1 : Int)) ∧ (x_2.id = x_2.id ∧ x_2.size = x_2.size ∧ x_2.pp = x_2.pp ∧ x_2.pf = x_2.pf ∧ x_2.pt = x_2.pt ∧ x_2.ps = x_2.ps ∧ x_2.dp = x_2.dp ∧ x_2.df = x_2.df ∧ x_2.dt = x_2.dt ∧ x_2.ds =
  x_2.ds) ∧ x_5.set x_4.toNat x_2 = x_5.set x_4.toNat x_2) ∧ inv (wrap (x_4 + (1 : Int))) (x_5.set x_4.toNat x_2) ∧ μ (wrap (x_4 + (1 : Int))) (x_5.set x_4.toNat x_2) < μ x_4 x_5) ∧ (decide (x_4 < (↑x_5.length : Int)) = false → x_5 = roomy x
  x_2)
theorem roomyO_told (hc : CsOk Try.prog roomyO_cs) (h : roomyO_vc) : Told Try.prog 15 roomyO_con := told (A := roomyO_la) tabOk mixed hc Try.func15 (by kernel_rfl) (by kernel_rfl) h
def intactO_vc : Prop :=
  ∀ (x : List Order), LenOk x.length → ∀ (x_2 : List Order), LenOk x_2.length → ∀ (x_4 : Order), ((!decide ((↑x.length : Int) = wrap ((↑x_2.length : Int) + (80 : Int)))) = false → ((0 : Int) ≤ (0 : Int) ∧ (0 : Int) ≤ (↑x_2.length : Int) ∧
  (↑x_2.length : Int) ≤ (↑x.length : Int)) ∧ Int.toNat (0 : Int) + ((↑x_2.length : Int).toNat - Int.toNat (0 : Int)) ≤ x.length ∧ ((!same (part x (Int.toNat (0 : Int)) ((↑x_2.length : Int).toNat - Int.toNat (0 : Int))) x_2) = true → false =
  same x (roomy x_2 x_4)) ∧ ((!same (part x (Int.toNat (0 : Int)) ((↑x_2.length : Int).toNat - Int.toNat (0 : Int))) x_2) = false → ∃ (inv : Int → Prop), ∃ (μ : Int → Nat), (((↑x_2.length : Int) = (↑x_2.length : Int) ∧ (x_4.id = x_4.id ∧
  x_4.size = x_4.size ∧ x_4.pp = x_4.pp ∧ x_4.pf = x_4.pf ∧ x_4.pt = x_4.pt ∧ x_4.ps = x_4.ps ∧ x_4.dp = x_4.dp ∧ x_4.df = x_4.df ∧ x_4.dt = x_4.dt ∧ x_4.ds = x_4.ds) ∧ x = x) ∧ inv (↑x_2.length : Int)) ∧ ∀ (x_7 : Int), inv x_7 → (decide (x_7
  < (↑x.length : Int)) = true → ((0 : Int) ≤ x_7 ∧ x_7 < (↑x.length : Int)) ∧ x_7.toNat < x.length ∧ ((!(decide ((x.getD x_7.toNat FK.order.zero).id = x_4.id) && (decide ((x.getD x_7.toNat FK.order.zero).size = x_4.size) && (decide ((x.getD
  x_7.toNat FK.order.zero).pp = x_4.pp) && (decide ((x.getD x_7.toNat FK.order.zero).pf = x_4.pf) && (decide ((x.getD x_7.toNat FK.order.zero).pt = x_4.pt) && true) && (decide ((x.getD x_7.toNat FK.order.zero).ps = x_4.ps) && true)) &&
  (decide ((x.getD x_7.toNat FK.order.zero).dp = x_4.dp) && (decide ((x.getD x_7.toNat FK.order.zero).df = x_4.df) && (decide ((x.getD x_7.toNat FK.order.zero).dt = x_4.dt) && true) && (decide ((x.getD x_7.toNat FK.order.zero).ds = x_4.ds) &&
  true)) && true))))) = true → false = same x (roomy x_2 x_4)) ∧ ((!(decide ((x.getD x_7.toNat FK.order.zero).id = x_4.id) && (decide ((x.getD x_7.toNat FK.order.zero).size = x_4.size) && (decide ((x.getD x_7.toNat FK.order.zero).pp = x_4.pp)
  && (decide ((x.getD x_7.toNat FK.order.zero).pf = x_4.pf) && (decide ((x.getD x_7.toNat FK.order.zero).pt = x_4.pt) && true) && (decide ((x.getD x_7.toNat FK.order.zero).ps = x_4.ps) && true)) && (decide ((x.getD x_7.toNat FK.order.zero).dp
  = x_4.dp) && (decide ((x.getD x_7.toNat FK.order.zero).df = x_4.df) && (decide ((x.getD x_7.toNat FK.order.zero).dt = x_4.dt) && true) && (decide ((x.getD x_7.toNat FK.order.zero).ds = x_4.ds) && true)) && true))))) = false → (wrap (x_7 +
  (1 : Int)) = wrap (x_7 + (1 : Int)) ∧ (x_4.id = x_4.id ∧ x_4.size = x_4.size ∧ x_4.pp = x_4.pp ∧ x_4.pf = x_4.pf ∧ x_4.pt = x_4.pt ∧ x_4.ps = x_4.ps ∧ x_4.dp = x_4.dp ∧ x_4.df = x_4.df ∧ x_4.dt = x_4.dt ∧ x_4.ds = x_4.ds) ∧ x = x) ∧ inv
  (wrap (x_7 + (1 : Int))) ∧ μ (wrap (x_7 + (1 : Int))) < μ x_7)) ∧ (decide (x_7 < (↑x.length : Int)) = false → true = same x (roomy x_2 x_4)))) ∧ ((!decide ((↑x.length : Int) = wrap ((↑x_2.length : Int) + (80 : Int)))) = !false → false =
  same x (roomy x_2 x_4))
theorem intactO_told (hc : CsOk Try.prog intactO_cs) (h : intactO_vc) : Told Try.prog 20 intactO_con := told (A := intactO_la) tabOk mixed hc Try.func20 (by kernel_rfl) (by kernel_rfl) h
def sameS_vc : Prop :=
  ∀ (x : List Stop), LenOk x.length → ∀ (x_2 : List Stop), LenOk x_2.length → ((!decide ((↑x.length : Int) = (↑x_2.length : Int))) = true → false = same x x_2) ∧ ((!decide ((↑x.length : Int) = (↑x_2.length : Int))) = false → ∃ (inv : Int →
  Prop), ∃ (μ : Int → Nat), (((0 : Int) = (0 : Int) ∧ x_2 = x_2 ∧ x = x) ∧ inv (0 : Int)) ∧ ∀ (x_5 : Int), inv x_5 → (decide (x_5 < (↑x.length : Int)) = true → ((0 : Int) ≤ x_5 ∧ x_5 < (↑x.length : Int)) ∧ x_5.toNat < x.length ∧ ((0 : Int) ≤
  x_5 ∧ x_5 < (↑x_2.length : Int)) ∧ x_5.toNat < x_2.length ∧ ((!(decide ((x.getD x_5.toNat FK.stop.zero).order = (x_2.getD x_5.toNat FK.stop.zero).order) && ((x.getD x_5.toNat FK.stop.zero).drop == (x_2.getD x_5.toNat FK.stop.zero).drop &&
  true))) = true → false = same x x_2) ∧ ((!(decide ((x.getD x_5.toNat FK.stop.zero).order = (x_2.getD x_5.toNat FK.stop.zero).order) && ((x.getD x_5.toNat FK.stop.zero).drop == (x_2.getD x_5.toNat FK.stop.zero).drop && true))) = false →
  (wrap (x_5 + (1 : Int)) = wrap (x_5 + (1 : Int)) ∧ x_2 = x_2 ∧ x = x) ∧ inv (wrap (x_5 + (1 : Int))) ∧ μ (wrap (x_5 + (1 : Int))) < μ x_5)) ∧ (decide (x_5 < (↑x.length : Int)) = false → true = same x x_2))
theorem sameS_told (hc : CsOk Try.prog sameS_cs) (h : sameS_vc) : Told Try.prog 35 sameS_con := told (A := sameS_la) tabOk mixed hc Try.func35 (by kernel_rfl) (by kernel_rfl) h
def roomyS_vc : Prop :=
  ∀ (x : List Stop), LenOk x.length → ∀ (x_2 : Stop), x.length * (16 : Nat) ≤ (140737488351232 : Nat) → ((0 : Int) ≤ wrap ((↑x.length : Int) + (80 : Int)) ∧ wrap ((↑x.length : Int) + (80 : Int)) ≤ wrap ((↑x.length : Int) + (80 : Int)) ∧ wrap
  ((↑x.length : Int) + (80 : Int)) * ((8 : Int) * (↑(2 : Nat) : Int)) ≤ (281474976710656 : Int)) ∧ True ∧ ∃ (inv : Int → List Stop → Prop), ∃ (μ : Int → List Stop → Nat), (((↑x.length : Int) = (↑x.length : Int) ∧ (x_2.order = x_2.order ∧
  x_2.drop = x_2.drop) ∧ List.take (List.replicate (wrap ((↑x.length : Int) + (80 : Int))).toNat FK.stop.zero).length x ++ List.drop x.length (List.replicate (wrap ((↑x.length : Int) + (80 : Int))).toNat FK.stop.zero) = List.take
  (List.replicate (wrap ((↑x.length : Int) + (80 : Int))).toNat FK.stop.zero).length x ++ List.drop x.length (List.replicate (wrap ((↑x.length : Int) + (80 : Int))).toNat FK.stop.zero)) ∧ inv (↑x.length : Int) (List.take (List.replicate (wrap
  ((↑x.length : Int) + (80 : Int))).toNat FK.stop.zero).length x ++ List.drop x.length (List.replicate (wrap ((↑x.length : Int) + (80 : Int))).toNat FK.stop.zero))) ∧ ∀ (x_4 : Int) (x_5 : List Stop), inv x_4 x_5 → (decide (x_4 < (↑x_5.length
  : Int)) = true → ((0 : Int) ≤ x_4 ∧ x_4 < (↑x_5.length : Int)) ∧ x_4.toNat < x_5.length ∧ (wrap (x_4 + (1 : Int)) = wrap (x_4 + (1 : Int)) ∧ (x_2.order = x_2.order ∧ x_2.drop = x_2.drop) ∧ x_5.set x_4.toNat x_2 = x_5.set x_4.toNat x_2) ∧
  inv (wrap (x_4 + (1 : Int))) (x_5.set x_4.toNat x_2) ∧ μ (wrap (x_4 + (1 : Int))) (x_5.set x_4.toNat x_2) < μ x_4 x_5) ∧ (decide (x_4 < (↑x_5.length : Int)) = false → x_5 = roomy x x_2)
theorem roomyS_told (hc : CsOk Try.prog roomyS_cs) (h : roomyS_vc) : Told Try.prog 14 roomyS_con := told (A := roomyS_la) tabOk mixed hc Try.func14 (by kernel_rfl) (by kernel_rfl) h
def intactS_vc : Prop :=
  ∀ (x : List Stop), LenOk x.length → ∀ (x_2 : List Stop), LenOk x_2.length → ∀ (x_4 : Stop), ((!decide ((↑x.length : Int) = wrap ((↑x_2.length : Int) + (80 : Int)))) = false → ((0 : Int) ≤ (0 : Int) ∧ (0 : Int) ≤ (↑x_2.length : Int) ∧
  (↑x_2.length : Int) ≤ (↑x.length : Int)) ∧ Int.toNat (0 : Int) + ((↑x_2.length : Int).toNat - Int.toNat (0 : Int)) ≤ x.length ∧ ((!same (part x (Int.toNat (0 : Int)) ((↑x_2.length : Int).toNat - Int.toNat (0 : Int))) x_2) = true → false =
  same x (roomy x_2 x_4)) ∧ ((!same (part x (Int.toNat (0 : Int)) ((↑x_2.length : Int).toNat - Int.toNat (0 : Int))) x_2) = false → ∃ (inv : Int → Prop), ∃ (μ : Int → Nat), (((↑x_2.length : Int) = (↑x_2.length : Int) ∧ (x_4.order = x_4.order
  ∧ x_4.drop = x_4.drop) ∧ x = x) ∧ inv (↑x_2.length : Int)) ∧ ∀ (x_7 : Int), inv x_7 → (decide (x_7 < (↑x.length : Int)) = true → ((0 : Int) ≤ x_7 ∧ x_7 < (↑x.length : Int)) ∧ x_7.toNat < x.length ∧ ((!(decide ((x.getD x_7.toNat
  FK.stop.zero).order = x_4.order) && ((x.getD x_7.toNat FK.stop.zero).drop == x_4.drop && true))) = true → false = same x (roomy x_2 x_4)) ∧ ((!(decide ((x.getD x_7.toNat FK.stop.zero).order = x_4.order) && ((x.getD x_7.toNat
  FK.stop.zero).drop == x_4.drop && true))) = false → (wrap (x_7 + (1 : Int)) = wrap (x_7 + (1 : Int)) ∧ (x_4.order = x_4.order ∧ x_4.drop = x_4.drop) ∧ x = x) ∧ inv (wrap (x_7 + (1 : Int))) ∧ μ (wrap (x_7 + (1 : Int))) < μ x_7)) ∧ (decide
  (x_7 < (↑x.length : Int)) = false → true = same x (roomy x_2 x_4)))) ∧ ((!decide ((↑x.length : Int) = wrap ((↑x_2.length : Int) + (80 : Int)))) = !false → false = same x (roomy x_2 x_4))
theorem intactS_told (hc : CsOk Try.prog intactS_cs) (h : intactS_vc) : Told Try.prog 19 intactS_con := told (A := intactS_la) tabOk mixed hc Try.func19 (by kernel_rfl) (by kernel_rfl) h
def sameV_vc : Prop :=
  ∀ (x : List Visit), LenOk x.length → ∀ (x_2 : List Visit), LenOk x_2.length → ((!decide ((↑x.length : Int) = (↑x_2.length : Int))) = true → false = same x x_2) ∧ ((!decide ((↑x.length : Int) = (↑x_2.length : Int))) = false → ∃ (inv : Int →
  Prop), ∃ (μ : Int → Nat), (((0 : Int) = (0 : Int) ∧ x_2 = x_2 ∧ x = x) ∧ inv (0 : Int)) ∧ ∀ (x_5 : Int), inv x_5 → (decide (x_5 < (↑x.length : Int)) = true → ((0 : Int) ≤ x_5 ∧ x_5 < (↑x.length : Int)) ∧ x_5.toNat < x.length ∧ ((0 : Int) ≤
  x_5 ∧ x_5 < (↑x_2.length : Int)) ∧ x_5.toNat < x_2.length ∧ ((!(decide ((x.getD x_5.toNat FK.visit.zero).order = (x_2.getD x_5.toNat FK.visit.zero).order) && ((x.getD x_5.toNat FK.visit.zero).drop == (x_2.getD x_5.toNat FK.visit.zero).drop
  && true) && (decide ((x.getD x_5.toNat FK.visit.zero).arrive = (x_2.getD x_5.toNat FK.visit.zero).arrive) && (decide ((x.getD x_5.toNat FK.visit.zero).start = (x_2.getD x_5.toNat FK.visit.zero).start) && (decide ((x.getD x_5.toNat
  FK.visit.zero).leave = (x_2.getD x_5.toNat FK.visit.zero).leave) && (decide ((x.getD x_5.toNat FK.visit.zero).load = (x_2.getD x_5.toNat FK.visit.zero).load) && true)))))) = true → false = same x x_2) ∧ ((!(decide ((x.getD x_5.toNat
  FK.visit.zero).order = (x_2.getD x_5.toNat FK.visit.zero).order) && ((x.getD x_5.toNat FK.visit.zero).drop == (x_2.getD x_5.toNat FK.visit.zero).drop && true) && (decide ((x.getD x_5.toNat FK.visit.zero).arrive = (x_2.getD x_5.toNat
  FK.visit.zero).arrive) && (decide ((x.getD x_5.toNat FK.visit.zero).start = (x_2.getD x_5.toNat FK.visit.zero).start) && (decide ((x.getD x_5.toNat FK.visit.zero).leave = (x_2.getD x_5.toNat FK.visit.zero).leave) && (decide ((x.getD
  x_5.toNat FK.visit.zero).load = (x_2.getD x_5.toNat FK.visit.zero).load) && true)))))) = false → (wrap (x_5 + (1 : Int)) = wrap (x_5 + (1 : Int)) ∧ x_2 = x_2 ∧ x = x) ∧ inv (wrap (x_5 + (1 : Int))) ∧ μ (wrap (x_5 + (1 : Int))) < μ x_5)) ∧
  (decide (x_5 < (↑x.length : Int)) = false → true = same x x_2))
theorem sameV_told (hc : CsOk Try.prog sameV_cs) (h : sameV_vc) : Told Try.prog 18 sameV_con := told (A := sameV_la) tabOk mixed hc Try.func18 (by kernel_rfl) (by kernel_rfl) h
end Go.Eng
