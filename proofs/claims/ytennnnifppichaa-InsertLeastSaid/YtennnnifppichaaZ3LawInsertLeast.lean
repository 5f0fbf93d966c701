/- The conditions of functions, as print.. of the engine told them. -/
import Derived.Test.YtennnnifppichaaZ2LawInsertLeast
import Derived.KernelRfl
set_option linter.unusedVariables false
namespace Go.Eng
open Go Go.Proofs
def insertLeast_vc : Prop :=
  ∀ (x : WorldD), (LenOk x.times.length ∧ LenOk x.drivers.length ∧ LenOk x.orders.length ∧ LenOk x.plan.length ∧ ∀ (r : Route), List.Mem r x.plan → LenOk r.stops.length) → ∀ (x_2 : Order) (x_3 x_4 : Int), Given (pA (AV.r (SK.world.enc x)) ∧
  pA (AV.r ((SK.f FK.order).enc x_2)) ∧ pA (AV.c (AC.i x_3)) ∧ pA (AV.c (AC.i x_4))) → (newE x.n x.times ≠ (0 : Int) → ((!true) = true → false = true) ∧ ((!true) = false → (∀ (x : MapD), none = some x → MapOk x) ∧ ∃ (inv : Prop), (((!decide
  ((bestP none (wdriver x x_4) x.orders (oneP x.plan x_3) x_2 (100000 : Int)).snd = (0 : Int))) = true → ((!decide ((bestP none (wdriver x x_4) x.orders (oneP x.plan x_3) x_2 (100000 : Int)).snd = (20 : Int))) = false → (decide ((↑(oneP
  x.plan x_3).stops.length : Int) > (10 : Int)) = true → (decide ((bestP none (wdriver x x_4) x.orders (oneP x.plan x_3) x_2 (100000 : Int)).snd = (0 : Int)) = false → ((decide ((hspot (bestP none (wdriver x x_4) x.orders (oneP x.plan x_3)
  x_2 (100000 : Int)).fst).driver = (0 : Int)) && (decide ((hspot (bestP none (wdriver x x_4) x.orders (oneP x.plan x_3) x_2 (100000 : Int)).fst).pick = (0 : Int)) && (decide ((hspot (bestP none (wdriver x x_4) x.orders (oneP x.plan x_3) x_2
  (100000 : Int)).fst).drop = (0 : Int)) && (decide ((hspot (bestP none (wdriver x x_4) x.orders (oneP x.plan x_3) x_2 (100000 : Int)).fst).cost = (0 : Int)) && true)))) = true → true = true) ∧ ((decide ((hspot (bestP none (wdriver x x_4)
  x.orders (oneP x.plan x_3) x_2 (100000 : Int)).fst).driver = (0 : Int)) && (decide ((hspot (bestP none (wdriver x x_4) x.orders (oneP x.plan x_3) x_2 (100000 : Int)).fst).pick = (0 : Int)) && (decide ((hspot (bestP none (wdriver x x_4)
  x.orders (oneP x.plan x_3) x_2 (100000 : Int)).fst).drop = (0 : Int)) && (decide ((hspot (bestP none (wdriver x x_4) x.orders (oneP x.plan x_3) x_2 (100000 : Int)).fst).cost = (0 : Int)) && true)))) = !true → false = true)) ∧ (decide
  ((bestP none (wdriver x x_4) x.orders (oneP x.plan x_3) x_2 (100000 : Int)).snd = (0 : Int)) = !false → true = true)) ∧ (decide ((↑(oneP x.plan x_3).stops.length : Int) > (10 : Int)) = false → (((bestP none (wdriver x x_4) x.orders (oneP
  x.plan x_3) x_2 (100000 : Int)).fst.steps = (bestP none (wdriver x x_4) x.orders (oneP x.plan x_3) x_2 (100000 : Int)).fst.steps ∧ (bestP none (wdriver x x_4) x.orders (oneP x.plan x_3) x_2 (100000 : Int)).snd = (bestP none (wdriver x x_4)
  x.orders (oneP x.plan x_3) x_2 (100000 : Int)).snd) ∧ (x.n = x.n ∧ (x_2.id = x_2.id ∧ x_2.size = x_2.size ∧ x_2.pp = x_2.pp ∧ x_2.pf = x_2.pf ∧ x_2.pt = x_2.pt ∧ x_2.ps = x_2.ps ∧ x_2.dp = x_2.dp ∧ x_2.df = x_2.df ∧ x_2.dt = x_2.dt ∧ x_2.ds
  = x_2.ds) ∧ ((oneP x.plan x_3).driver = (oneP x.plan x_3).driver ∧ (oneP x.plan x_3).served = (oneP x.plan x_3).served) ∧ ((wdriver x x_4).id = (wdriver x x_4).id ∧ (wdriver x x_4).room = (wdriver x x_4).room ∧ (wdriver x x_4).home =
  (wdriver x x_4).home ∧ (wdriver x x_4).lo = (wdriver x x_4).lo ∧ (wdriver x x_4).hi = (wdriver x x_4).hi ∧ (wdriver x x_4).retired = (wdriver x x_4).retired) ∧ (hspot (bestP none (wdriver x x_4) x.orders (oneP x.plan x_3) x_2 (100000 :
  Int)).fst).driver = (hspot (bestP none (wdriver x x_4) x.orders (oneP x.plan x_3) x_2 (100000 : Int)).fst).driver ∧ (hspot (bestP none (wdriver x x_4) x.orders (oneP x.plan x_3) x_2 (100000 : Int)).fst).pick = (hspot (bestP none (wdriver x
  x_4) x.orders (oneP x.plan x_3) x_2 (100000 : Int)).fst).pick ∧ (hspot (bestP none (wdriver x x_4) x.orders (oneP x.plan x_3) x_2 (100000 : Int)).fst).drop = (hspot (bestP none (wdriver x x_4) x.orders (oneP x.plan x_3) x_2 (100000 :
  Int)).fst).drop ∧ (hspot (bestP none (wdriver x x_4) x.orders (oneP x.plan x_3) x_2 (100000 : Int)).fst).cost = (hspot (bestP none (wdriver x x_4) x.orders (oneP x.plan x_3) x_2 (100000 : Int)).fst).cost) ∧ (oneP x.plan x_3).stops = (oneP
  x.plan x_3).stops ∧ x.plan = x.plan ∧ x.orders = x.orders ∧ x.drivers = x.drivers ∧ x.times = x.times) ∧ inv)) ∧ ((!decide ((bestP none (wdriver x x_4) x.orders (oneP x.plan x_3) x_2 (100000 : Int)).snd = (20 : Int))) = !false → (decide
  ((bestP none (wdriver x x_4) x.orders (oneP x.plan x_3) x_2 (100000 : Int)).snd = (0 : Int)) = false → ((decide ((hspot (bestP none (wdriver x x_4) x.orders (oneP x.plan x_3) x_2 (100000 : Int)).fst).driver = (0 : Int)) && (decide ((hspot
  (bestP none (wdriver x x_4) x.orders (oneP x.plan x_3) x_2 (100000 : Int)).fst).pick = (0 : Int)) && (decide ((hspot (bestP none (wdriver x x_4) x.orders (oneP x.plan x_3) x_2 (100000 : Int)).fst).drop = (0 : Int)) && (decide ((hspot (bestP
  none (wdriver x x_4) x.orders (oneP x.plan x_3) x_2 (100000 : Int)).fst).cost = (0 : Int)) && true)))) = true → true = true) ∧ ((decide ((hspot (bestP none (wdriver x x_4) x.orders (oneP x.plan x_3) x_2 (100000 : Int)).fst).driver = (0 :
  Int)) && (decide ((hspot (bestP none (wdriver x x_4) x.orders (oneP x.plan x_3) x_2 (100000 : Int)).fst).pick = (0 : Int)) && (decide ((hspot (bestP none (wdriver x x_4) x.orders (oneP x.plan x_3) x_2 (100000 : Int)).fst).drop = (0 : Int))
  && (decide ((hspot (bestP none (wdriver x x_4) x.orders (oneP x.plan x_3) x_2 (100000 : Int)).fst).cost = (0 : Int)) && true)))) = !true → false = true)) ∧ (decide ((bestP none (wdriver x x_4) x.orders (oneP x.plan x_3) x_2 (100000 :
  Int)).snd = (0 : Int)) = !false → true = true))) ∧ ((!decide ((bestP none (wdriver x x_4) x.orders (oneP x.plan x_3) x_2 (100000 : Int)).snd = (0 : Int))) = !true → (decide ((↑(oneP x.plan x_3).stops.length : Int) > (10 : Int)) = true →
  (decide ((bestP none (wdriver x x_4) x.orders (oneP x.plan x_3) x_2 (100000 : Int)).snd = (0 : Int)) = false → ((decide ((hspot (bestP none (wdriver x x_4) x.orders (oneP x.plan x_3) x_2 (100000 : Int)).fst).driver = (0 : Int)) && (decide
  ((hspot (bestP none (wdriver x x_4) x.orders (oneP x.plan x_3) x_2 (100000 : Int)).fst).pick = (0 : Int)) && (decide ((hspot (bestP none (wdriver x x_4) x.orders (oneP x.plan x_3) x_2 (100000 : Int)).fst).drop = (0 : Int)) && (decide
  ((hspot (bestP none (wdriver x x_4) x.orders (oneP x.plan x_3) x_2 (100000 : Int)).fst).cost = (0 : Int)) && true)))) = true → true = true) ∧ ((decide ((hspot (bestP none (wdriver x x_4) x.orders (oneP x.plan x_3) x_2 (100000 :
  Int)).fst).driver = (0 : Int)) && (decide ((hspot (bestP none (wdriver x x_4) x.orders (oneP x.plan x_3) x_2 (100000 : Int)).fst).pick = (0 : Int)) && (decide ((hspot (bestP none (wdriver x x_4) x.orders (oneP x.plan x_3) x_2 (100000 :
  Int)).fst).drop = (0 : Int)) && (decide ((hspot (bestP none (wdriver x x_4) x.orders (oneP x.plan x_3) x_2 (100000 : Int)).fst).cost = (0 : Int)) && true)))) = !true → false = true)) ∧ (decide ((bestP none (wdriver x x_4) x.orders (oneP
  x.plan x_3) x_2 (100000 : Int)).snd = (0 : Int)) = !false → true = true)) ∧ (decide ((↑(oneP x.plan x_3).stops.length : Int) > (10 : Int)) = false → (((bestP none (wdriver x x_4) x.orders (oneP x.plan x_3) x_2 (100000 : Int)).fst.steps =
  (bestP none (wdriver x x_4) x.orders (oneP x.plan x_3) x_2 (100000 : Int)).fst.steps ∧ (bestP none (wdriver x x_4) x.orders (oneP x.plan x_3) x_2 (100000 : Int)).snd = (bestP none (wdriver x x_4) x.orders (oneP x.plan x_3) x_2 (100000 :
  Int)).snd) ∧ (x.n = x.n ∧ (x_2.id = x_2.id ∧ x_2.size = x_2.size ∧ x_2.pp = x_2.pp ∧ x_2.pf = x_2.pf ∧ x_2.pt = x_2.pt ∧ x_2.ps = x_2.ps ∧ x_2.dp = x_2.dp ∧ x_2.df = x_2.df ∧ x_2.dt = x_2.dt ∧ x_2.ds = x_2.ds) ∧ ((oneP x.plan x_3).driver =
  (oneP x.plan x_3).driver ∧ (oneP x.plan x_3).served = (oneP x.plan x_3).served) ∧ ((wdriver x x_4).id = (wdriver x x_4).id ∧ (wdriver x x_4).room = (wdriver x x_4).room ∧ (wdriver x x_4).home = (wdriver x x_4).home ∧ (wdriver x x_4).lo =
  (wdriver x x_4).lo ∧ (wdriver x x_4).hi = (wdriver x x_4).hi ∧ (wdriver x x_4).retired = (wdriver x x_4).retired) ∧ (hspot (bestP none (wdriver x x_4) x.orders (oneP x.plan x_3) x_2 (100000 : Int)).fst).driver = (hspot (bestP none (wdriver
  x x_4) x.orders (oneP x.plan x_3) x_2 (100000 : Int)).fst).driver ∧ (hspot (bestP none (wdriver x x_4) x.orders (oneP x.plan x_3) x_2 (100000 : Int)).fst).pick = (hspot (bestP none (wdriver x x_4) x.orders (oneP x.plan x_3) x_2 (100000 :
  Int)).fst).pick ∧ (hspot (bestP none (wdriver x x_4) x.orders (oneP x.plan x_3) x_2 (100000 : Int)).fst).drop = (hspot (bestP none (wdriver x x_4) x.orders (oneP x.plan x_3) x_2 (100000 : Int)).fst).drop ∧ (hspot (bestP none (wdriver x x_4)
  x.orders (oneP x.plan x_3) x_2 (100000 : Int)).fst).cost = (hspot (bestP none (wdriver x x_4) x.orders (oneP x.plan x_3) x_2 (100000 : Int)).fst).cost) ∧ (oneP x.plan x_3).stops = (oneP x.plan x_3).stops ∧ x.plan = x.plan ∧ x.orders =
  x.orders ∧ x.drivers = x.drivers ∧ x.times = x.times) ∧ inv))) ∧ (inv → (∀ (x : MapD), none = some x → MapOk x) ∧ (True ∧ ((0 : Nat) + x.orders.length) * ((8 : Nat) * (10 : Nat)) ≤ (140737488355328 : Nat)) ∧ (True ∧ (([] ++ x.orders).length
  + [x_2].length) * ((8 : Nat) * (10 : Nat)) ≤ (140737488355328 : Nat)) ∧ ∃ (inv : Int → Bool → Int → Prop), ∃ (μ : Int → Bool → Int → Nat), ((((bestP none (wdriver x x_4) x.orders (oneP x.plan x_3) x_2 (100000 : Int)).fst.steps = (bestP none
  (wdriver x x_4) x.orders (oneP x.plan x_3) x_2 (100000 : Int)).fst.steps ∧ (bestP none (wdriver x x_4) x.orders (oneP x.plan x_3) x_2 (100000 : Int)).snd = (bestP none (wdriver x x_4) x.orders (oneP x.plan x_3) x_2 (100000 : Int)).snd ∧
  (cost none (wdriver x x_4) x.orders (oneP x.plan x_3).stops).fst = (cost none (wdriver x x_4) x.orders (oneP x.plan x_3).stops).fst ∧ (0 : Int) = (0 : Int) ∧ false = false ∧ (oneP x.plan x_3).served = (oneP x.plan x_3).served) ∧ (x.n = x.n
  ∧ (x_2.id = x_2.id ∧ x_2.size = x_2.size ∧ x_2.pp = x_2.pp ∧ x_2.pf = x_2.pf ∧ x_2.pt = x_2.pt ∧ x_2.ps = x_2.ps ∧ x_2.dp = x_2.dp ∧ x_2.df = x_2.df ∧ x_2.dt = x_2.dt ∧ x_2.ds = x_2.ds) ∧ ((oneP x.plan x_3).driver = (oneP x.plan x_3).driver
  ∧ (oneP x.plan x_3).served = (oneP x.plan x_3).served) ∧ ((wdriver x x_4).id = (wdriver x x_4).id ∧ (wdriver x x_4).room = (wdriver x x_4).room ∧ (wdriver x x_4).home = (wdriver x x_4).home ∧ (wdriver x x_4).lo = (wdriver x x_4).lo ∧
  (wdriver x x_4).hi = (wdriver x x_4).hi ∧ (wdriver x x_4).retired = (wdriver x x_4).retired) ∧ (hspot (bestP none (wdriver x x_4) x.orders (oneP x.plan x_3) x_2 (100000 : Int)).fst).driver = (hspot (bestP none (wdriver x x_4) x.orders (oneP
  x.plan x_3) x_2 (100000 : Int)).fst).driver ∧ (hspot (bestP none (wdriver x x_4) x.orders (oneP x.plan x_3) x_2 (100000 : Int)).fst).pick = (hspot (bestP none (wdriver x x_4) x.orders (oneP x.plan x_3) x_2 (100000 : Int)).fst).pick ∧ (hspot
  (bestP none (wdriver x x_4) x.orders (oneP x.plan x_3) x_2 (100000 : Int)).fst).drop = (hspot (bestP none (wdriver x x_4) x.orders (oneP x.plan x_3) x_2 (100000 : Int)).fst).drop ∧ (hspot (bestP none (wdriver x x_4) x.orders (oneP x.plan
  x_3) x_2 (100000 : Int)).fst).cost = (hspot (bestP none (wdriver x x_4) x.orders (oneP x.plan x_3) x_2 (100000 : Int)).fst).cost) ∧ (oneP x.plan x_3).stops = (oneP x.plan x_3).stops ∧ x.plan = x.plan ∧ x.orders = x.orders ∧ x.drivers =
  x.drivers ∧ x.times = x.times ∧ [] ++ x.orders ++ [x_2] = [] ++ x.orders ++ [x_2]) ∧ inv (0 : Int) false (oneP x.plan x_3).served) ∧ ∀ (x_9 : Int) (x_10 : Bool) (x_11 : Int), inv x_9 x_10 x_11 → (decide (x_11 ≤ (↑(oneP x.plan
  x_3).stops.length : Int)) = true → ∃ (inv_1 : Int → Bool → Int → Prop), ∃ (μ_1 : Int → Bool → Int → Nat), ((((bestP none (wdriver x x_4) x.orders (oneP x.plan x_3) x_2 (100000 : Int)).fst.steps = (bestP none (wdriver x x_4) x.orders (oneP
  x.plan x_3) x_2 (100000 : Int)).fst.steps ∧ (bestP none (wdriver x x_4) x.orders (oneP x.plan x_3) x_2 (100000 : Int)).snd = (bestP none (wdriver x x_4) x.orders (oneP x.plan x_3) x_2 (100000 : Int)).snd ∧ (cost none (wdriver x x_4)
  x.orders (oneP x.plan x_3).stops).fst = (cost none (wdriver x x_4) x.orders (oneP x.plan x_3).stops).fst ∧ x_9 = x_9 ∧ x_10 = x_10 ∧ x_11 = x_11 ∧ x_11 = x_11) ∧ (x.n = x.n ∧ (x_2.id = x_2.id ∧ x_2.size = x_2.size ∧ x_2.pp = x_2.pp ∧ x_2.pf
  = x_2.pf ∧ x_2.pt = x_2.pt ∧ x_2.ps = x_2.ps ∧ x_2.dp = x_2.dp ∧ x_2.df = x_2.df ∧ x_2.dt = x_2.dt ∧ x_2.ds = x_2.ds) ∧ ((oneP x.plan x_3).driver = (oneP x.plan x_3).driver ∧ (oneP x.plan x_3).served = (oneP x.plan x_3).served) ∧ ((wdriver
  x x_4).id = (wdriver x x_4).id ∧ (wdriver x x_4).room = (wdriver x x_4).room ∧ (wdriver x x_4).home = (wdriver x x_4).home ∧ (wdriver x x_4).lo = (wdriver x x_4).lo ∧ (wdriver x x_4).hi = (wdriver x x_4).hi ∧ (wdriver x x_4).retired =
  (wdriver x x_4).retired) ∧ (hspot (bestP none (wdriver x x_4) x.orders (oneP x.plan x_3) x_2 (100000 : Int)).fst).driver = (hspot (bestP none (wdriver x x_4) x.orders (oneP x.plan x_3) x_2 (100000 : Int)).fst).driver ∧ (hspot (bestP none
  (wdriver x x_4) x.orders (oneP x.plan x_3) x_2 (100000 : Int)).fst).pick = (hspot (bestP none (wdriver x x_4) x.orders (oneP x.plan x_3) x_2 (100000 : Int)).fst).pick ∧ (hspot (bestP none (wdriver x x_4) x.orders (oneP x.plan x_3) x_2
  (100000 : Int)).fst).drop = (hspot (bestP none (wdriver x x_4) x.orders (oneP x.plan x_3) x_2 (100000 : Int)).fst).drop ∧ (hspot (bestP none (wdriver x x_4) x.orders (oneP x.plan x_3) x_2 (100000 : Int)).fst).cost = (hspot (bestP none
  (wdriver x x_4) x.orders (oneP x.plan x_3) x_2 (100000 : Int)).fst).cost) ∧ (oneP x.plan x_3).stops = (oneP x.plan x_3).stops ∧ x.plan = x.plan ∧ x.orders = x.orders ∧ x.drivers = x.drivers ∧ x.times = x.times ∧ [] ++ x.orders ++ [x_2] = []
  ++ x.orders ++ [x_2]) ∧ inv_1 x_9 x_10 x_11) ∧ ∀ (x_14 : Int) (x_15 : Bool) (x_16 : Int), inv_1 x_14 x_15 x_16 → (decide (x_16 ≤ (↑(oneP x.plan x_3).stops.length : Int)) = true → ((∀ (x : MapD), none = some x → MapOk x) ∧ x.orders.length *
  (80 : Nat) ≤ (140737488351232 : Nat) ∧ (oneP x.plan x_3).stops.length * (16 : Nat) ≤ (140737488351232 : Nat)) ∧ ((!fits none (wdriver x x_4) x.orders (oneP x.plan x_3).stops x_2 x_11 x_16) = true → (((bestP none (wdriver x x_4) x.orders
  (oneP x.plan x_3) x_2 (100000 : Int)).fst.steps = (bestP none (wdriver x x_4) x.orders (oneP x.plan x_3) x_2 (100000 : Int)).fst.steps ∧ (bestP none (wdriver x x_4) x.orders (oneP x.plan x_3) x_2 (100000 : Int)).snd = (bestP none (wdriver x
  x_4) x.orders (oneP x.plan x_3) x_2 (100000 : Int)).snd ∧ (cost none (wdriver x x_4) x.orders (oneP x.plan x_3).stops).fst = (cost none (wdriver x x_4) x.orders (oneP x.plan x_3).stops).fst ∧ wrap (x_14 + (1 : Int)) = wrap (x_14 + (1 :
  Int)) ∧ x_15 = x_15 ∧ x_11 = x_11 ∧ wrap (x_16 + (1 : Int)) = wrap (x_16 + (1 : Int))) ∧ (x.n = x.n ∧ (x_2.id = x_2.id ∧ x_2.size = x_2.size ∧ x_2.pp = x_2.pp ∧ x_2.pf = x_2.pf ∧ x_2.pt = x_2.pt ∧ x_2.ps = x_2.ps ∧ x_2.dp = x_2.dp ∧ x_2.df
  = x_2.df ∧ x_2.dt = x_2.dt ∧ x_2.ds = x_2.ds) ∧ ((oneP x.plan x_3).driver = (oneP x.plan x_3).driver ∧ (oneP x.plan x_3).served = (oneP x.plan x_3).served) ∧ ((wdriver x x_4).id = (wdriver x x_4).id ∧ (wdriver x x_4).room = (wdriver x
  x_4).room ∧ (wdriver x x_4).home = (wdriver x x_4).home ∧ (wdriver x x_4).lo = (wdriver x x_4).lo ∧ (wdriver x x_4).hi = (wdriver x x_4).hi ∧ (wdriver x x_4).retired = (wdriver x x_4).retired) ∧ (hspot (bestP none (wdriver x x_4) x.orders
  (oneP x.plan x_3) x_2 (100000 : Int)).fst).driver = (hspot (bestP none (wdriver x x_4) x.orders (oneP x.plan x_3) x_2 (100000 : Int)).fst).driver ∧ (hspot (bestP none (wdriver x x_4) x.orders (oneP x.plan x_3) x_2 (100000 : Int)).fst).pick
  = (hspot (bestP none (wdriver x x_4) x.orders (oneP x.plan x_3) x_2 (100000 : Int)).fst).pick ∧ (hspot (bestP none (wdriver x x_4) x.orders (oneP x.plan x_3) x_2 (100000 : Int)).fst).drop = (hspot (bestP none (wdriver x x_4) x.orders (oneP
  x.plan x_3) x_2 (100000 : Int)).fst).drop ∧ (hspot (bestP none (wdriver x x_4) x.orders (oneP x.plan x_3) x_2 (100000 : Int)).fst).cost = (hspot (bestP none (wdriver x x_4) x.orders (oneP x.plan x_3) x_2 (100000 : Int)).fst).cost) ∧ (oneP
  x.plan x_3).stops = (oneP x.plan x_3).stops ∧ x.plan = x.plan ∧ x.orders = x.orders ∧ x.drivers = x.drivers ∧ x.times = x.times ∧ [] ++ x.orders ++ [x_2] = [] ++ x.orders ++ [x_2]) ∧ inv_1 (wrap (x_14 + (1 : Int))) x_15 (wrap (x_16 + (1 :
  Int))) ∧ μ_1 (wrap (x_14 + (1 : Int))) x_15 (wrap (x_16 + (1 : Int))) < μ_1 x_14 x_15 x_16) ∧ ((!fits none (wdriver x x_4) x.orders (oneP x.plan x_3).stops x_2 x_11 x_16) = false → (oneP x.plan x_3).stops.length * (16 : Nat) ≤
  (140737488351232 : Nat) ∧ (∀ (x : MapD), none = some x → MapOk x) ∧ (decide ((bestP none (wdriver x x_4) x.orders (oneP x.plan x_3) x_2 (100000 : Int)).snd = (0 : Int)) = true → (decide ((hspot (bestP none (wdriver x x_4) x.orders (oneP
  x.plan x_3) x_2 (100000 : Int)).fst).pick = x_11) = true → ((!(cost none (wdriver x x_4) ([] ++ x.orders ++ [x_2]) (putS (oneP x.plan x_3).stops x_2.id x_11 x_16)).snd) = false → ((!decide ((bestP none (wdriver x x_4) x.orders (oneP x.plan
  x_3) x_2 (100000 : Int)).snd = (0 : Int))) = false → (decide (wrap ((cost none (wdriver x x_4) ([] ++ x.orders ++ [x_2]) (putS (oneP x.plan x_3).stops x_2.id x_11 x_16)).fst - (cost none (wdriver x x_4) x.orders (oneP x.plan
  x_3).stops).fst) < (hspot (bestP none (wdriver x x_4) x.orders (oneP x.plan x_3) x_2 (100000 : Int)).fst).cost) = false → (decide ((hspot (bestP none (wdriver x x_4) x.orders (oneP x.plan x_3) x_2 (100000 : Int)).fst).drop = x_16) = true →
  ((!decide (wrap ((cost none (wdriver x x_4) ([] ++ x.orders ++ [x_2]) (putS (oneP x.plan x_3).stops x_2.id x_11 x_16)).fst - (cost none (wdriver x x_4) x.orders (oneP x.plan x_3).stops).fst) = (hspot (bestP none (wdriver x x_4) x.orders
  (oneP x.plan x_3) x_2 (100000 : Int)).fst).cost)) = false → ((!x_15) = true → ((!decide ((hspot (bestP none (wdriver x x_4) x.orders (oneP x.plan x_3) x_2 (100000 : Int)).fst).drop = x_16)) = true → (decide (wrap ((cost none (wdriver x x_4)
  ([] ++ x.orders ++ [x_2]) (putS (oneP x.plan x_3).stops x_2.id x_11 x_16)).fst - (cost none (wdriver x x_4) x.orders (oneP x.plan x_3).stops).fst) = (hspot (bestP none (wdriver x x_4) x.orders (oneP x.plan x_3) x_2 (100000 :
  Int)).fst).cost) = true → false = true) ∧ (decide (wrap ((cost none (wdriver x x_4) ([] ++ x.orders ++ [x_2]) (putS (oneP x.plan x_3).stops x_2.id x_11 x_16)).fst - (cost none (wdriver x x_4) x.orders (oneP x.plan x_3).stops).fst) = (hspot
  (bestP none (wdriver x x_4) x.orders (oneP x.plan x_3) x_2 (100000 : Int)).fst).cost) = false → (x_15 = false → (((bestP none (wdriver x x_4) x.orders (oneP x.plan x_3) x_2 (100000 : Int)).fst.steps = (bestP none (wdriver x x_4) x.orders
  (oneP x.plan x_3) x_2 (100000 : Int)).fst.steps ∧ (bestP none (wdriver x x_4) x.orders (oneP x.plan x_3) x_2 (100000 : Int)).snd = (bestP none (wdriver x x_4) x.orders (oneP x.plan x_3) x_2 (100000 : Int)).snd ∧ (cost none (wdriver x x_4)
  x.orders (oneP x.plan x_3).stops).fst = (cost none (wdriver x x_4) x.orders (oneP x.plan x_3).stops).fst ∧ wrap (x_14 + (1 : Int)) = wrap (x_14 + (1 : Int)) ∧ decide ((hspot (bestP none (wdriver x x_4) x.orders (oneP x.plan x_3) x_2 (100000
  : Int)).fst).drop = x_16) = decide ((hspot (bestP none (wdriver x x_4) x.orders (oneP x.plan x_3) x_2 (100000 : Int)).fst).drop = x_16) ∧ x_11 = x_11 ∧ wrap (x_16 + (1 : Int)) = wrap (x_16 + (1 : Int))) ∧ (x.n = x.n ∧ (x_2.id = x_2.id ∧
  x_2.size = x_2.size ∧ x_2.pp = x_2.pp ∧ x_2.pf = x_2.pf ∧ x_2.pt = x_2.pt ∧ x_2.ps = x_2.ps ∧ x_2.dp = x_2.dp ∧ x_2.df = x_2.df ∧ x_2.dt = x_2.dt ∧ x_2.ds = x_2.ds) ∧ ((oneP x.plan x_3).driver = (oneP x.plan x_3).driver ∧ (oneP x.plan
  x_3).served = (oneP x.plan x_3).served) ∧ ((wdriver x x_4).id = (wdriver x x_4).id ∧ (wdriver x x_4).room = (wdriver x x_4).room ∧ (wdriver x x_4).home = (wdriver x x_4).home ∧ (wdriver x x_4).lo = (wdriver x x_4).lo ∧ (wdriver x x_4).hi =
  (wdriver x x_4).hi ∧ (wdriver x x_4).retired = (wdriver x x_4).retired) ∧ (hspot (bestP none (wdriver x x_4) x.orders (oneP x.plan x_3) x_2 (100000 : Int)).fst).driver = (hspot (bestP none (wdriver x x_4) x.orders (oneP x.plan x_3) x_2
  (100000 : Int)).fst).driver ∧ (hspot (bestP none (wdriver x x_4) x.orders (oneP x.plan x_3) x_2 (100000 : Int)).fst).pick = (hspot (bestP none (wdriver x x_4) x.orders (oneP x.plan x_3) x_2 (100000 : Int)).fst).pick ∧ (hspot (bestP none
  (wdriver x x_4) x.orders (oneP x.plan x_3) x_2 (100000 : Int)).fst).drop = (hspot (bestP none (wdriver x x_4) x.orders (oneP x.plan x_3) x_2 (100000 : Int)).fst).drop ∧ (hspot (bestP none (wdriver x x_4) x.orders (oneP x.plan x_3) x_2
  (100000 : Int)).fst).cost = (hspot (bestP none (wdriver x x_4) x.orders (oneP x.plan x_3) x_2 (100000 : Int)).fst).cost) ∧ (oneP x.plan x_3).stops = (oneP x.plan x_3).stops ∧ x.plan = x.plan ∧ x.orders = x.orders ∧ x.drivers = x.drivers ∧
  x.times = x.times ∧ [] ++ x.orders ++ [x_2] = [] ++ x.orders ++ [x_2]) ∧ inv_1 (wrap (x_14 + (1 : Int))) (decide ((hspot (bestP none (wdriver x x_4) x.orders (oneP x.plan x_3) x_2 (100000 : Int)).fst).drop = x_16)) (wrap (x_16 + (1 : Int)))
  ∧ μ_1 (wrap (x_14 + (1 : Int))) (decide ((hspot (bestP none (wdriver x x_4) x.orders (oneP x.plan x_3) x_2 (100000 : Int)).fst).drop = x_16)) (wrap (x_16 + (1 : Int))) < μ_1 x_14 x_15 x_16) ∧ (x_15 = !false → (((bestP none (wdriver x x_4)
  x.orders (oneP x.plan x_3) x_2 (100000 : Int)).fst.steps = (bestP none (wdriver x x_4) x.orders (oneP x.plan x_3) x_2 (100000 : Int)).fst.steps ∧ (bestP none (wdriver x x_4) x.orders (oneP x.plan x_3) x_2 (100000 : Int)).snd = (bestP none
  (wdriver x x_4) x.orders (oneP x.plan x_3) x_2 (100000 : Int)).snd ∧ (cost none (wdriver x x_4) x.orders (oneP x.plan x_3).stops).fst = (cost none (wdriver x x_4) x.orders (oneP x.plan x_3).stops).fst ∧ wrap (x_14 + (1 : Int)) = wrap (x_14
  + (1 : Int)) ∧ true = true ∧ x_11 = x_11 ∧ wrap (x_16 + (1 : Int)) = wrap (x_16 + (1 : Int))) ∧ (x.n = x.n ∧ (x_2.id = x_2.id ∧ x_2.size = x_2.size ∧ x_2.pp = x_2.pp ∧ x_2.pf = x_2.pf ∧ x_2.pt = x_2.pt ∧ x_2.ps = x_2.ps ∧ x_2.dp = x_2.dp ∧
  x_2.df = x_2.df ∧ x_2.dt = x_2.dt ∧ x_2.ds = x_2.ds) ∧ ((oneP x.plan x_3).driver = (oneP x.plan x_3).driver ∧ (oneP x.plan x_3).served = (oneP x.plan x_3).served) ∧ ((wdriver x x_4).id = (wdriver x x_4).id ∧ (wdriver x x_4).room = (wdriver
  x x_4).room ∧ (wdriver x x_4).home = (wdriver x x_4).home ∧ (wdriver x x_4).lo = (wdriver x x_4).lo ∧ (wdriver x x_4).hi = (wdriver x x_4).hi ∧ (wdriver x x_4).retired = (wdriver x x_4).retired) ∧ (hspot (bestP none (wdriver x x_4) x.orders
  (oneP x.plan x_3) x_2 (100000 : Int)).fst).driver = (hspot (bestP none (wdriver x x_4) x.orders (oneP x.plan x_3) x_2 (100000 : Int)).fst).driver ∧ (hspot (bestP none (wdriver x x_4) x.orders (oneP x.plan x_3) x_2 (100000 : Int)).fst).pick
  = (hspot (bestP none (wdriver x x_4) x.orders (oneP x.plan x_3) x_2 (100000 : Int)).fst).pick ∧ (hspot (bestP none (wdriver x x_4) x.orders (oneP x.plan x_3) x_2 (100000 : Int)).fst).drop = (hspot (bestP none (wdriver x x_4) x.orders (oneP
  x.plan x_3) x_2 (100000 : Int)).fst).drop ∧ (hspot (bestP none (wdriver x x_4) x.orders (oneP x.plan x_3) x_2 (100000 : Int)).fst).cost = (hspot (bestP none (wdriver x x_4) x.orders (oneP x.plan x_3) x_2 (100000 : Int)).fst).cost) ∧ (oneP
  x.plan x_3).stops = (oneP x.plan x_3).stops ∧ x.plan = x.plan ∧ x.orders = x.orders ∧ x.drivers = x.drivers ∧ x.times = x.times ∧ [] ++ x.orders ++ [x_2] = [] ++ x.orders ++ [x_2]) ∧ inv_1 (wrap (x_14 + (1 : Int))) true (wrap (x_16 + (1 :
  Int))) ∧ μ_1 (wrap (x_14 + (1 : Int))) true (wrap (x_16 + (1 : Int))) < μ_1 x_14 x_15 x_16))) ∧ ((!decide ((hspot (bestP none (wdriver x x_4) x.orders (oneP x.plan x_3) x_2 (100000 : Int)).fst).drop = x_16)) = !true → (x_15 = false →
  (((bestP none (wdriver x x_4) x.orders (oneP x.plan x_3) x_2 (100000 : Int)).fst.steps = (bestP none (wdriver x x_4) x.orders (oneP x.plan x_3) x_2 (100000 : Int)).fst.steps ∧ (bestP none (wdriver x x_4) x.orders (oneP x.plan x_3) x_2
  (100000 : Int)).snd = (bestP none (wdriver x x_4) x.orders (oneP x.plan x_3) x_2 (100000 : Int)).snd ∧ (cost none (wdriver x x_4) x.orders (oneP x.plan x_3).stops).fst = (cost none (wdriver x x_4) x.orders (oneP x.plan x_3).stops).fst ∧
  wrap (x_14 + (1 : Int)) = wrap (x_14 + (1 : Int)) ∧ decide ((hspot (bestP none (wdriver x x_4) x.orders (oneP x.plan x_3) x_2 (100000 : Int)).fst).drop = x_16) = decide ((hspot (bestP none (wdriver x x_4) x.orders (oneP x.plan x_3) x_2
  (100000 : Int)).fst).drop = x_16) ∧ x_11 = x_11 ∧ wrap (x_16 + (1 : Int)) = wrap (x_16 + (1 : Int))) ∧ (x.n = x.n ∧ (x_2.id = x_2.id ∧ x_2.size = x_2.size ∧ x_2.pp = x_2.pp ∧ x_2.pf = x_2.pf ∧ x_2.pt = x_2.pt ∧ x_2.ps = x_2.ps ∧ x_2.dp =
  x_2.dp ∧ x_2.df = x_2.df ∧ x_2.dt = x_2.dt ∧ x_2.ds = x_2.ds) ∧ ((oneP x.plan x_3).driver = (oneP x.plan x_3).driver ∧ (oneP x.plan x_3).served = (oneP x.plan x_3).served) ∧ ((wdriver x x_4).id = (wdriver x x_4).id ∧ (wdriver x x_4).room =
  (wdriver x x_4).room ∧ (wdriver x x_4).home = (wdriver x x_4).home ∧ (wdriver x x_4).lo = (wdriver x x_4).lo ∧ (wdriver x x_4).hi = (wdriver x x_4).hi ∧ (wdriver x x_4).retired = (wdriver x x_4).retired) ∧ (hspot (bestP none (wdriver x x_4)
  x.orders (oneP x.plan x_3) x_2 (100000 : Int)).fst).driver = (hspot (bestP none (wdriver x x_4) x.orders (oneP x.plan x_3) x_2 (100000 : Int)).fst).driver ∧ (hspot (bestP none (wdriver x x_4) x.orders (oneP x.plan x_3) x_2 (100000 :
  Int)).fst).pick = (hspot (bestP none (wdriver x x_4) x.orders (oneP x.plan x_3) x_2 (100000 : Int)).fst).pick ∧ (hspot (bestP none (wdriver x x_4) x.orders (oneP x.plan x_3) x_2 (100000 : Int)).fst).drop = (hspot (bestP none (wdriver x x_4)
  x.orders (oneP x.plan x_3) x_2 (100000 : Int)).fst).drop ∧ (hspot (bestP none (wdriver x x_4) x.orders (oneP x.plan x_3) x_2 (100000 : Int)).fst).cost = (hspot (bestP none (wdriver x x_4) x.orders (oneP x.plan x_3) x_2 (100000 :
  Int)).fst).cost) ∧ (oneP x.plan x_3).stops = (oneP x.plan x_3).stops ∧ x.plan = x.plan ∧ x.orders = x.orders ∧ x.drivers = x.drivers ∧ x.times = x.times ∧ [] ++ x.orders ++ [x_2] = [] ++ x.orders ++ [x_2]) ∧ inv_1 (wrap (x_14 + (1 : Int)))
  (decide ((hspot (bestP none (wdriver x x_4) x.orders (oneP x.plan x_3) x_2 (100000 : Int)).fst).drop = x_16)) (wrap (x_16 + (1 : Int))) ∧ μ_1 (wrap (x_14 + (1 : Int))) (decide ((hspot (bestP none (wdriver x x_4) x.orders (oneP x.plan x_3)
  x_2 (100000 : Int)).fst).drop = x_16)) (wrap (x_16 + (1 : Int))) < μ_1 x_14 x_15 x_16) ∧ (x_15 = !false → (((bestP none (wdriver x x_4) x.orders (oneP x.plan x_3) x_2 (100000 : Int)).fst.steps = (bestP none (wdriver x x_4) x.orders (oneP
  x.plan x_3) x_2 (100000 : Int)).fst.steps ∧ (bestP none (wdriver x x_4) x.orders (oneP x.plan x_3) x_2 (100000 : Int)).snd = (bestP none (wdriver x x_4) x.orders (oneP x.plan x_3) x_2 (100000 : Int)).snd ∧ (cost none (wdriver x x_4)
  x.orders (oneP x.plan x_3).stops).fst = (cost none (wdriver x x_4) x.orders (oneP x.plan x_3).stops).fst ∧ wrap (x_14 + (1 : Int)) = wrap (x_14 + (1 : Int)) ∧ true = true ∧ x_11 = x_11 ∧ wrap (x_16 + (1 : Int)) = wrap (x_16 + (1 : Int))) ∧
  (x.n = x.n ∧ (x_2.id = x_2.id ∧ x_2.size = x_2.size ∧ x_2.pp = x_2.pp ∧ x_2.pf = x_2.pf ∧ x_2.pt = x_2.pt ∧ x_2.ps = x_2.ps ∧ x_2.dp = x_2.dp ∧ x_2.df = x_2.df ∧ x_2.dt = x_2.dt ∧ x_2.ds = x_2.ds) ∧ ((oneP x.plan x_3).driver = (oneP x.plan
  x_3).driver ∧ (oneP x.plan x_3).served = (oneP x.plan x_3).served) ∧ ((wdriver x x_4).id = (wdriver x x_4).id ∧ (wdriver x x_4).room = (wdriver x x_4).room ∧ (wdriver x x_4).home = (wdriver x x_4).home ∧ (wdriver x x_4).lo = (wdriver x
  x_4).lo ∧ (wdriver x x_4).hi = (wdriver x x_4).hi ∧ (wdriver x x_4).retired = (wdriver x x_4).retired) ∧ (hspot (bestP none (wdriver x x_4) x.orders (oneP x.plan x_3) x_2 (100000 : Int)).fst).driver = (hspot (bestP none (wdriver x x_4)
  x.orders (oneP x.plan x_3) x_2 (100000 : Int)).fst).driver ∧ (hspot (bestP none (wdriver x x_4) x.orders (oneP x.plan x_3) x_2 (100000 : Int)).fst).pick = (hspot (bestP none (wdriver x x_4) x.orders (oneP x.plan x_3) x_2 (100000 :
  Int)).fst).pick ∧ (hspot (bestP none (wdriver x x_4) x.orders (oneP x.plan x_3) x_2 (100000 : Int)).fst).drop = (hspot (bestP none (wdriver x x_4) x.orders (oneP x.plan x_3) x_2 (100000 : Int)).fst).drop ∧ (hspot (bestP none (wdriver x x_4)
  x.orders (oneP x.plan x_3) x_2 (100000 : Int)).fst).cost = (hspot (bestP none (wdriver x x_4) x.orders (oneP x.plan x_3) x_2 (100000 : Int)).fst).cost) ∧ (oneP x.plan x_3).stops = (oneP x.plan x_3).stops ∧ x.plan = x.plan ∧ x.orders =
  x.orders ∧ x.drivers = x.drivers ∧ x.times = x.times ∧ [] ++ x.orders ++ [x_2] = [] ++ x.orders ++ [x_2]) ∧ inv_1 (wrap (x_14 + (1 : Int))) true (wrap (x_16 + (1 : Int))) ∧ μ_1 (wrap (x_14 + (1 : Int))) true (wrap (x_16 + (1 : Int))) < μ_1
  x_14 x_15 x_16))) ∧ ((!x_15) = !true → (x_15 = false → (((bestP none (wdriver x x_4) x.orders (oneP x.plan x_3) x_2 (100000 : Int)).fst.steps = (bestP none (wdriver x x_4) x.orders (oneP x.plan x_3) x_2 (100000 : Int)).fst.steps ∧ (bestP
  none (wdriver x x_4) x.orders (oneP x.plan x_3) x_2 (100000 : Int)).snd = (bestP none (wdriver x x_4) x.orders (oneP x.plan x_3) x_2 (100000 : Int)).snd ∧ (cost none (wdriver x x_4) x.orders (oneP x.plan x_3).stops).fst = (cost none
  (wdriver x x_4) x.orders (oneP x.plan x_3).stops).fst ∧ wrap (x_14 + (1 : Int)) = wrap (x_14 + (1 : Int)) ∧ decide ((hspot (bestP none (wdriver x x_4) x.orders (oneP x.plan x_3) x_2 (100000 : Int)).fst).drop = x_16) = decide ((hspot (bestP
  none (wdriver x x_4) x.orders (oneP x.plan x_3) x_2 (100000 : Int)).fst).drop = x_16) ∧ x_11 = x_11 ∧ wrap (x_16 + (1 : Int)) = wrap (x_16 + (1 : Int))) ∧ (x.n = x.n ∧ (x_2.id = x_2.id ∧ x_2.size = x_2.size ∧ x_2.pp = x_2.pp ∧ x_2.pf =
  x_2.pf ∧ x_2.pt = x_2.pt ∧ x_2.ps = x_2.ps ∧ x_2.dp = x_2.dp ∧ x_2.df = x_2.df ∧ x_2.dt = x_2.dt ∧ x_2.ds = x_2.ds) ∧ ((oneP x.plan x_3).driver = (oneP x.plan x_3).driver ∧ (oneP x.plan x_3).served = (oneP x.plan x_3).served) ∧ ((wdriver x
  x_4).id = (wdriver x x_4).id ∧ (wdriver x x_4).room = (wdriver x x_4).room ∧ (wdriver x x_4).home = (wdriver x x_4).home ∧ (wdriver x x_4).lo = (wdriver x x_4).lo ∧ (wdriver x x_4).hi = (wdriver x x_4).hi ∧ (wdriver x x_4).retired =
  (wdriver x x_4).retired) ∧ (hspot (bestP none (wdriver x x_4) x.orders (oneP x.plan x_3) x_2 (100000 : Int)).fst).driver = (hspot (bestP none (wdriver x x_4) x.orders (oneP x.plan x_3) x_2 (100000 : Int)).fst).driver ∧ (hspot (bestP none
  (wdriver x x_4) x.orders (oneP x.plan x_3) x_2 (100000 : Int)).fst).pick = (hspot (bestP none (wdriver x x_4) x.orders (oneP x.plan x_3) x_2 (100000 : Int)).fst).pick ∧ (hspot (bestP none (wdriver x x_4) x.orders (oneP x.plan x_3) x_2
  (100000 : Int)).fst).drop = (hspot (bestP none (wdriver x x_4) x.orders (oneP x.plan x_3) x_2 (100000 : Int)).fst).drop ∧ (hspot (bestP none (wdriver x x_4) x.orders (oneP x.plan x_3) x_2 (100000 : Int)).fst).cost = (hspot (bestP none
  (wdriver x x_4) x.orders (oneP x.plan x_3) x_2 (100000 : Int)).fst).cost) ∧ (oneP x.plan x_3).stops = (oneP x.plan x_3).stops ∧ x.plan = x.plan ∧ x.orders = x.orders ∧ x.drivers = x.drivers ∧ x.times = x.times ∧ [] ++ x.orders ++ [x_2] = []
  ++ x.orders ++ [x_2]) ∧ inv_1 (wrap (x_14 + (1 : Int))) (decide ((hspot (bestP none (wdriver x x_4) x.orders (oneP x.plan x_3) x_2 (100000 : Int)).fst).drop = x_16)) (wrap (x_16 + (1 : Int))) ∧ μ_1 (wrap (x_14 + (1 : Int))) (decide ((hspot
  (bestP none (wdriver x x_4) x.orders (oneP x.plan x_3) x_2 (100000 : Int)).fst).drop = x_16)) (wrap (x_16 + (1 : Int))) < μ_1 x_14 x_15 x_16) ∧ (x_15 = !false → (((bestP none (wdriver x x_4) x.orders (oneP x.plan x_3) x_2 (100000 :
  Int)).fst.steps = (bestP none (wdriver x x_4) x.orders (oneP x.plan x_3) x_2 (100000 : Int)).fst.steps ∧ (bestP none (wdriver x x_4) x.orders (oneP x.plan x_3) x_2 (100000 : Int)).snd = (bestP none (wdriver x x_4) x.orders (oneP x.plan x_3)
  x_2 (100000 : Int)).snd ∧ (cost none (wdriver x x_4) x.orders (oneP x.plan x_3).stops).fst = (cost none (wdriver x x_4) x.orders (oneP x.plan x_3).stops).fst ∧ wrap (x_14 + (1 : Int)) = wrap (x_14 + (1 : Int)) ∧ true = true ∧ x_11 = x_11 ∧
  wrap (x_16 + (1 : Int)) = wrap (x_16 + (1 : Int))) ∧ (x.n = x.n ∧ (x_2.id = x_2.id ∧ x_2.size = x_2.size ∧ x_2.pp = x_2.pp ∧ x_2.pf = x_2.pf ∧ x_2.pt = x_2.pt ∧ x_2.ps = x_2.ps ∧ x_2.dp = x_2.dp ∧ x_2.df = x_2.df ∧ x_2.dt = x_2.dt ∧ x_2.ds
  = x_2.ds) ∧ ((oneP x.plan x_3).driver = (oneP x.plan x_3).driver ∧ (oneP x.plan x_3).served = (oneP x.plan x_3).served) ∧ ((wdriver x x_4).id = (wdriver x x_4).id ∧ (wdriver x x_4).room = (wdriver x x_4).room ∧ (wdriver x x_4).home =
  (wdriver x x_4).home ∧ (wdriver x x_4).lo = (wdriver x x_4).lo ∧ (wdriver x x_4).hi = (wdriver x x_4).hi ∧ (wdriver x x_4).retired = (wdriver x x_4).retired) ∧ (hspot (bestP none (wdriver x x_4) x.orders (oneP x.plan x_3) x_2 (100000 :
  Int)).fst).driver = (hspot (bestP none (wdriver x x_4) x.orders (oneP x.plan x_3) x_2 (100000 : Int)).fst).driver ∧ (hspot (bestP none (wdriver x x_4) x.orders (oneP x.plan x_3) x_2 (100000 : Int)).fst).pick = (hspot (bestP none (wdriver x
  x_4) x.orders (oneP x.plan x_3) x_2 (100000 : Int)).fst).pick ∧ (hspot (bestP none (wdriver x x_4) x.orders (oneP x.plan x_3) x_2 (100000 : Int)).fst).drop = (hspot (bestP none (wdriver x x_4) x.orders (oneP x.plan x_3) x_2 (100000 :
  Int)).fst).drop ∧ (hspot (bestP none (wdriver x x_4) x.orders (oneP x.plan x_3) x_2 (100000 : Int)).fst).cost = (hspot (bestP none (wdriver x x_4) x.orders (oneP x.plan x_3) x_2 (100000 : Int)).fst).cost) ∧ (oneP x.plan x_3).stops = (oneP
  x.plan x_3).stops ∧ x.plan = x.plan ∧ x.orders = x.orders ∧ x.drivers = x.drivers ∧ x.times = x.times ∧ [] ++ x.orders ++ [x_2] = [] ++ x.orders ++ [x_2]) ∧ inv_1 (wrap (x_14 + (1 : Int))) true (wrap (x_16 + (1 : Int))) ∧ μ_1 (wrap (x_14 +
  (1 : Int))) true (wrap (x_16 + (1 : Int))) < μ_1 x_14 x_15 x_16))) ∧ ((!decide (wrap ((cost none (wdriver x x_4) ([] ++ x.orders ++ [x_2]) (putS (oneP x.plan x_3).stops x_2.id x_11 x_16)).fst - (cost none (wdriver x x_4) x.orders (oneP
  x.plan x_3).stops).fst) = (hspot (bestP none (wdriver x x_4) x.orders (oneP x.plan x_3) x_2 (100000 : Int)).fst).cost)) = !false → false = true)) ∧ (decide ((hspot (bestP none (wdriver x x_4) x.orders (oneP x.plan x_3) x_2 (100000 :
  Int)).fst).drop = x_16) = !true → ((!x_15) = true → ((!decide ((hspot (bestP none (wdriver x x_4) x.orders (oneP x.plan x_3) x_2 (100000 : Int)).fst).drop = x_16)) = true → (decide (wrap ((cost none (wdriver x x_4) ([] ++ x.orders ++ [x_2])
  (putS (oneP x.plan x_3).stops x_2.id x_11 x_16)).fst - (cost none (wdriver x x_4) x.orders (oneP x.plan x_3).stops).fst) = (hspot (bestP none (wdriver x x_4) x.orders (oneP x.plan x_3) x_2 (100000 : Int)).fst).cost) = true → false = true) ∧
  (decide (wrap ((cost none (wdriver x x_4) ([] ++ x.orders ++ [x_2]) (putS (oneP x.plan x_3).stops x_2.id x_11 x_16)).fst - (cost none (wdriver x x_4) x.orders (oneP x.plan x_3).stops).fst) = (hspot (bestP none (wdriver x x_4) x.orders (oneP
  x.plan x_3) x_2 (100000 : Int)).fst).cost) = false → (x_15 = false → (((bestP none (wdriver x x_4) x.orders (oneP x.plan x_3) x_2 (100000 : Int)).fst.steps = (bestP none (wdriver x x_4) x.orders (oneP x.plan x_3) x_2 (100000 :
  Int)).fst.steps ∧ (bestP none (wdriver x x_4) x.orders (oneP x.plan x_3) x_2 (100000 : Int)).snd = (bestP none (wdriver x x_4) x.orders (oneP x.plan x_3) x_2 (100000 : Int)).snd ∧ (cost none (wdriver x x_4) x.orders (oneP x.plan
  x_3).stops).fst = (cost none (wdriver x x_4) x.orders (oneP x.plan x_3).stops).fst ∧ wrap (x_14 + (1 : Int)) = wrap (x_14 + (1 : Int)) ∧ decide ((hspot (bestP none (wdriver x x_4) x.orders (oneP x.plan x_3) x_2 (100000 : Int)).fst).drop =
  x_16) = decide ((hspot (bestP none (wdriver x x_4) x.orders (oneP x.plan x_3) x_2 (100000 : Int)).fst).drop = x_16) ∧ x_11 = x_11 ∧ wrap (x_16 + (1 : Int)) = wrap (x_16 + (1 : Int))) ∧ (x.n = x.n ∧ (x_2.id = x_2.id ∧ x_2.size = x_2.size ∧
  x_2.pp = x_2.pp ∧ x_2.pf = x_2.pf ∧ x_2.pt = x_2.pt ∧ x_2.ps = x_2.ps ∧ x_2.dp = x_2.dp ∧ x_2.df = x_2.df ∧ x_2.dt = x_2.dt ∧ x_2.ds = x_2.ds) ∧ ((oneP x.plan x_3).driver = (oneP x.plan x_3).driver ∧ (oneP x.plan x_3).served = (oneP x.plan
  x_3).served) ∧ ((wdriver x x_4).id = (wdriver x x_4).id ∧ (wdriver x x_4).room = (wdriver x x_4).room ∧ (wdriver x x_4).home = (wdriver x x_4).home ∧ (wdriver x x_4).lo = (wdriver x x_4).lo ∧ (wdriver x x_4).hi = (wdriver x x_4).hi ∧
  (wdriver x x_4).retired = (wdriver x x_4).retired) ∧ (hspot (bestP none (wdriver x x_4) x.orders (oneP x.plan x_3) x_2 (100000 : Int)).fst).driver = (hspot (bestP none (wdriver x x_4) x.orders (oneP x.plan x_3) x_2 (100000 :
  Int)).fst).driver ∧ (hspot (bestP none (wdriver x x_4) x.orders (oneP x.plan x_3) x_2 (100000 : Int)).fst).pick = (hspot (bestP none (wdriver x x_4) x.orders (oneP x.plan x_3) x_2 (100000 : Int)).fst).pick ∧ (hspot (bestP none (wdriver x
  x_4) x.orders (oneP x.plan x_3) x_2 (100000 : Int)).fst).drop = (hspot (bestP none (wdriver x x_4) x.orders (oneP x.plan x_3) x_2 (100000 : Int)).fst).drop ∧ (hspot (bestP none (wdriver x x_4) x.orders (oneP x.plan x_3) x_2 (100000 :
  Int)).fst).cost = (hspot (bestP none (wdriver x x_4) x.orders (oneP x.plan x_3) x_2 (100000 : Int)).fst).cost) ∧ (oneP x.plan x_3).stops = (oneP x.plan x_3).stops ∧ x.plan = x.plan ∧ x.orders = x.orders ∧ x.drivers = x.drivers ∧ x.times =
  x.times ∧ [] ++ x.orders ++ [x_2] = [] ++ x.orders ++ [x_2]) ∧ inv_1 (wrap (x_14 + (1 : Int))) (decide ((hspot (bestP none (wdriver x x_4) x.orders (oneP x.plan x_3) x_2 (100000 : Int)).fst).drop = x_16)) (wrap (x_16 + (1 : Int))) ∧ μ_1
  (wrap (x_14 + (1 : Int))) (decide ((hspot (bestP none (wdriver x x_4) x.orders (oneP x.plan x_3) x_2 (100000 : Int)).fst).drop = x_16)) (wrap (x_16 + (1 : Int))) < μ_1 x_14 x_15 x_16) ∧ (x_15 = !false → (((bestP none (wdriver x x_4)
  x.orders (oneP x.plan x_3) x_2 (100000 : Int)).fst.steps = (bestP none (wdriver x x_4) x.orders (oneP x.plan x_3) x_2 (100000 : Int)).fst.steps ∧ (bestP none (wdriver x x_4) x.orders (oneP x.plan x_3) x_2 (100000 : Int)).snd = (bestP none
  (wdriver x x_4) x.orders (oneP x.plan x_3) x_2 (100000 : Int)).snd ∧ (cost none (wdriver x x_4) x.orders (oneP x.plan x_3).stops).fst = (cost none (wdriver x x_4) x.orders (oneP x.plan x_3).stops).fst ∧ wrap (x_14 + (1 : Int)) = wrap (x_14
  + (1 : Int)) ∧ true = true ∧ x_11 = x_11 ∧ wrap (x_16 + (1 : Int)) = wrap (x_16 + (1 : Int))) ∧ (x.n = x.n ∧ (x_2.id = x_2.id ∧ x_2.size = x_2.size ∧ x_2.pp = x_2.pp ∧ x_2.pf = x_2.pf ∧ x_2.pt = x_2.pt ∧ x_2.ps = x_2.ps ∧ x_2.dp = x_2.dp ∧
  x_2.df = x_2.df ∧ x_2.dt = x_2.dt ∧ x_2.ds = x_2.ds) ∧ ((oneP x.plan x_3).driver = (oneP x.plan x_3).driver ∧ (oneP x.plan x_3).served = (oneP x.plan x_3).served) ∧ ((wdriver x x_4).id = (wdriver x x_4).id ∧ (wdriver x x_4).room = (wdriver
  x x_4).room ∧ (wdriver x x_4).home = (wdriver x x_4).home ∧ (wdriver x x_4).lo = (wdriver x x_4).lo ∧ (wdriver x x_4).hi = (wdriver x x_4).hi ∧ (wdriver x x_4).retired = (wdriver x x_4).retired) ∧ (hspot (bestP none (wdriver x x_4) x.orders
  (oneP x.plan x_3) x_2 (100000 : Int)).fst).driver = (hspot (bestP none (wdriver x x_4) x.orders (oneP x.plan x_3) x_2 (100000 : Int)).fst).driver ∧ (hspot (bestP none (wdriver x x_4) x.orders (oneP x.plan x_3) x_2 (100000 : Int)).fst).pick
  = (hspot (bestP none (wdriver x x_4) x.orders (oneP x.plan x_3) x_2 (100000 : Int)).fst).pick ∧ (hspot (bestP none (wdriver x x_4) x.orders (oneP x.plan x_3) x_2 (100000 : Int)).fst).drop = (hspot (bestP none (wdriver x x_4) x.orders (oneP
  x.plan x_3) x_2 (100000 : Int)).fst).drop ∧ (hspot (bestP none (wdriver x x_4) x.orders (oneP x.plan x_3) x_2 (100000 : Int)).fst).cost = (hspot (bestP none (wdriver x x_4) x.orders (oneP x.plan x_3) x_2 (100000 : Int)).fst).cost) ∧ (oneP
  x.plan x_3).stops = (oneP x.plan x_3).stops ∧ x.plan = x.plan ∧ x.orders = x.orders ∧ x.drivers = x.drivers ∧ x.times = x.times ∧ [] ++ x.orders ++ [x_2] = [] ++ x.orders ++ [x_2]) ∧ inv_1 (wrap (x_14 + (1 : Int))) true (wrap (x_16 + (1 :
  Int))) ∧ μ_1 (wrap (x_14 + (1 : Int))) true (wrap (x_16 + (1 : Int))) < μ_1 x_14 x_15 x_16))) ∧ ((!decide ((hspot (bestP none (wdriver x x_4) x.orders (oneP x.plan x_3) x_2 (100000 : Int)).fst).drop = x_16)) = !true → (x_15 = false →
  (((bestP none (wdriver x x_4) x.orders (oneP x.plan x_3) x_2 (100000 : Int)).fst.steps = (bestP none (wdriver x x_4) x.orders (oneP x.plan x_3) x_2 (100000 : Int)).fst.steps ∧ (bestP none (wdriver x x_4) x.orders (oneP x.plan x_3) x_2
  (100000 : Int)).snd = (bestP none (wdriver x x_4) x.orders (oneP x.plan x_3) x_2 (100000 : Int)).snd ∧ (cost none (wdriver x x_4) x.orders (oneP x.plan x_3).stops).fst = (cost none (wdriver x x_4) x.orders (oneP x.plan x_3).stops).fst ∧
  wrap (x_14 + (1 : Int)) = wrap (x_14 + (1 : Int)) ∧ decide ((hspot (bestP none (wdriver x x_4) x.orders (oneP x.plan x_3) x_2 (100000 : Int)).fst).drop = x_16) = decide ((hspot (bestP none (wdriver x x_4) x.orders (oneP x.plan x_3) x_2
  (100000 : Int)).fst).drop = x_16) ∧ x_11 = x_11 ∧ wrap (x_16 + (1 : Int)) = wrap (x_16 + (1 : Int))) ∧ (x.n = x.n ∧ (x_2.id = x_2.id ∧ x_2.size = x_2.size ∧ x_2.pp = x_2.pp ∧ x_2.pf = x_2.pf ∧ x_2.pt = x_2.pt ∧ x_2.ps = x_2.ps ∧ x_2.dp =
  x_2.dp ∧ x_2.df = x_2.df ∧ x_2.dt = x_2.dt ∧ x_2.ds = x_2.ds) ∧ ((oneP x.plan x_3).driver = (oneP x.plan x_3).driver ∧ (oneP x.plan x_3).served = (oneP x.plan x_3).served) ∧ ((wdriver x x_4).id = (wdriver x x_4).id ∧ (wdriver x x_4).room =
  (wdriver x x_4).room ∧ (wdriver x x_4).home = (wdriver x x_4).home ∧ (wdriver x x_4).lo = (wdriver x x_4).lo ∧ (wdriver x x_4).hi = (wdriver x x_4).hi ∧ (wdriver x x_4).retired = (wdriver x x_4).retired) ∧ (hspot (bestP none (wdriver x x_4)
  x.orders (oneP x.plan x_3) x_2 (100000 : Int)).fst).driver = (hspot (bestP none (wdriver x x_4) x.orders (oneP x.plan x_3) x_2 (100000 : Int)).fst).driver ∧ (hspot (bestP none (wdriver x x_4) x.orders (oneP x.plan x_3) x_2 (100000 :
  Int)).fst).pick = (hspot (bestP none (wdriver x x_4) x.orders (oneP x.plan x_3) x_2 (100000 : Int)).fst).pick ∧ (hspot (bestP none (wdriver x x_4) x.orders (oneP x.plan x_3) x_2 (100000 : Int)).fst).drop = (hspot (bestP none (wdriver x x_4)
  x.orders (oneP x.plan x_3) x_2 (100000 : Int)).fst).drop ∧ (hspot (bestP none (wdriver x x_4) x.orders (oneP x.plan x_3) x_2 (100000 : Int)).fst).cost = (hspot (bestP none (wdriver x x_4) x.orders (oneP x.plan x_3) x_2 (100000 :
  Int)).fst).cost) ∧ (oneP x.plan x_3).stops = (oneP x.plan x_3).stops ∧ x.plan = x.plan ∧ x.orders = x.orders ∧ x.drivers = x.drivers ∧ x.times = x.times ∧ [] ++ x.orders ++ [x_2] = [] ++ x.orders ++ [x_2]) ∧ inv_1 (wrap (x_14 + (1 : Int)))
  (decide ((hspot (bestP none (wdriver x x_4) x.orders (oneP x.plan x_3) x_2 (100000 : Int)).fst).drop = x_16)) (wrap (x_16 + (1 : Int))) ∧ μ_1 (wrap (x_14 + (1 : Int))) (decide ((hspot (bestP none (wdriver x x_4) x.orders (oneP x.plan x_3)
  x_2 (100000 : Int)).fst).drop = x_16)) (wrap (x_16 + (1 : Int))) < μ_1 x_14 x_15 x_16) ∧ (x_15 = !false → (((bestP none (wdriver x x_4) x.orders (oneP x.plan x_3) x_2 (100000 : Int)).fst.steps = (bestP none (wdriver x x_4) x.orders (oneP
  x.plan x_3) x_2 (100000 : Int)).fst.steps ∧ (bestP none (wdriver x x_4) x.orders (oneP x.plan x_3) x_2 (100000 : Int)).snd = (bestP none (wdriver x x_4) x.orders (oneP x.plan x_3) x_2 (100000 : Int)).snd ∧ (cost none (wdriver x x_4)
  x.orders (oneP x.plan x_3).stops).fst = (cost none (wdriver x x_4) x.orders (oneP x.plan x_3).stops).fst ∧ wrap (x_14 + (1 : Int)) = wrap (x_14 + (1 : Int)) ∧ true = true ∧ x_11 = x_11 ∧ wrap (x_16 + (1 : Int)) = wrap (x_16 + (1 : Int))) ∧
  (x.n = x.n ∧ (x_2.id = x_2.id ∧ x_2.size = x_2.size ∧ x_2.pp = x_2.pp ∧ x_2.pf = x_2.pf ∧ x_2.pt = x_2.pt ∧ x_2.ps = x_2.ps ∧ x_2.dp = x_2.dp ∧ x_2.df = x_2.df ∧ x_2.dt = x_2.dt ∧ x_2.ds = x_2.ds) ∧ ((oneP x.plan x_3).driver = (oneP x.plan
  x_3).driver ∧ (oneP x.plan x_3).served = (oneP x.plan x_3).served) ∧ ((wdriver x x_4).id = (wdriver x x_4).id ∧ (wdriver x x_4).room = (wdriver x x_4).room ∧ (wdriver x x_4).home = (wdriver x x_4).home ∧ (wdriver x x_4).lo = (wdriver x
  x_4).lo ∧ (wdriver x x_4).hi = (wdriver x x_4).hi ∧ (wdriver x x_4).retired = (wdriver x x_4).retired) ∧ (hspot (bestP none (wdriver x x_4) x.orders (oneP x.plan x_3) x_2 (100000 : Int)).fst).driver = (hspot (bestP none (wdriver x x_4)
  x.orders (oneP x.plan x_3) x_2 (100000 : Int)).fst).driver ∧ (hspot (bestP none (wdriver x x_4) x.orders (oneP x.plan x_3) x_2 (100000 : Int)).fst).pick = (hspot (bestP none (wdriver x x_4) x.orders (oneP x.plan x_3) x_2 (100000 :
  Int)).fst).pick ∧ (hspot (bestP none (wdriver x x_4) x.orders (oneP x.plan x_3) x_2 (100000 : Int)).fst).drop = (hspot (bestP none (wdriver x x_4) x.orders (oneP x.plan x_3) x_2 (100000 : Int)).fst).drop ∧ (hspot (bestP none (wdriver x x_4)
  x.orders (oneP x.plan x_3) x_2 (100000 : Int)).fst).cost = (hspot (bestP none (wdriver x x_4) x.orders (oneP x.plan x_3) x_2 (100000 : Int)).fst).cost) ∧ (oneP x.plan x_3).stops = (oneP x.plan x_3).stops ∧ x.plan = x.plan ∧ x.orders =
  x.orders ∧ x.drivers = x.drivers ∧ x.times = x.times ∧ [] ++ x.orders ++ [x_2] = [] ++ x.orders ++ [x_2]) ∧ inv_1 (wrap (x_14 + (1 : Int))) true (wrap (x_16 + (1 : Int))) ∧ μ_1 (wrap (x_14 + (1 : Int))) true (wrap (x_16 + (1 : Int))) < μ_1
  x_14 x_15 x_16))) ∧ ((!x_15) = !true → (x_15 = false → (((bestP none (wdriver x x_4) x.orders (oneP x.plan x_3) x_2 (100000 : Int)).fst.steps = (bestP none (wdriver x x_4) x.orders (oneP x.plan x_3) x_2 (100000 : Int)).fst.steps ∧ (bestP
  none (wdriver x x_4) x.orders (oneP x.plan x_3) x_2 (100000 : Int)).snd = (bestP none (wdriver x x_4) x.orders (oneP x.plan x_3) x_2 (100000 : Int)).snd ∧ (cost none (wdriver x x_4) x.orders (oneP x.plan x_3).stops).fst = (cost none
  (wdriver x x_4) x.orders (oneP x.plan x_3).stops).fst ∧ wrap (x_14 + (1 : Int)) = wrap (x_14 + (1 : Int)) ∧ decide ((hspot (bestP none (wdriver x x_4) x.orders (oneP x.plan x_3) x_2 (100000 : Int)).fst).drop = x_16) = decide ((hspot (bestP
  none (wdriver x x_4) x.orders (oneP x.plan x_3) x_2 (100000 : Int)).fst).drop = x_16) ∧ x_11 = x_11 ∧ wrap (x_16 + (1 : Int)) = wrap (x_16 + (1 : Int))) ∧ (x.n = x.n ∧ (x_2.id = x_2.id ∧ x_2.size = x_2.size ∧ x_2.pp = x_2.pp ∧ x_2.pf =
  x_2.pf ∧ x_2.pt = x_2.pt ∧ x_2.ps = x_2.ps ∧ x_2.dp = x_2.dp ∧ x_2.df = x_2.df ∧ x_2.dt = x_2.dt ∧ x_2.ds = x_2.ds) ∧ ((oneP x.plan x_3).driver = (oneP x.plan x_3).driver ∧ (oneP x.plan x_3).served = (oneP x.plan x_3).served) ∧ ((wdriver x
  x_4).id = (wdriver x x_4).id ∧ (wdriver x x_4).room = (wdriver x x_4).room ∧ (wdriver x x_4).home = (wdriver x x_4).home ∧ (wdriver x x_4).lo = (wdriver x x_4).lo ∧ (wdriver x x_4).hi = (wdriver x x_4).hi ∧ (wdriver x x_4).retired =
  (wdriver x x_4).retired) ∧ (hspot (bestP none (wdriver x x_4) x.orders (oneP x.plan x_3) x_2 (100000 : Int)).fst).driver = (hspot (bestP none (wdriver x x_4) x.orders (oneP x.plan x_3) x_2 (100000 : Int)).fst).driver ∧ (hspot (bestP none
  (wdriver x x_4) x.orders (oneP x.plan x_3) x_2 (100000 : Int)).fst).pick = (hspot (bestP none (wdriver x x_4) x.orders (oneP x.plan x_3) x_2 (100000 : Int)).fst).pick ∧ (hspot (bestP none (wdriver x x_4) x.orders (oneP x.plan x_3) x_2
  (100000 : Int)).fst).drop = (hspot (bestP none (wdriver x x_4) x.orders (oneP x.plan x_3) x_2 (100000 : Int)).fst).drop ∧ (hspot (bestP none (wdriver x x_4) x.orders (oneP x.plan x_3) x_2 (100000 : Int)).fst).cost = (hspot (bestP none
  (wdriver x x_4) x.orders (oneP x.plan x_3) x_2 (100000 : Int)).fst).cost) ∧ (oneP x.plan x_3).stops = (oneP x.plan x_3).stops ∧ x.plan = x.plan ∧ x.orders = x.orders ∧ x.drivers = x.drivers ∧ x.times = x.times ∧ [] ++ x.orders ++ [x_2] = []
  ++ x.orders ++ [x_2]) ∧ inv_1 (wrap (x_14 + (1 : Int))) (decide ((hspot (bestP none (wdriver x x_4) x.orders (oneP x.plan x_3) x_2 (100000 : Int)).fst).drop = x_16)) (wrap (x_16 + (1 : Int))) ∧ μ_1 (wrap (x_14 + (1 : Int))) (decide ((hspot
  (bestP none (wdriver x x_4) x.orders (oneP x.plan x_3) x_2 (100000 : Int)).fst).drop = x_16)) (wrap (x_16 + (1 : Int))) < μ_1 x_14 x_15 x_16) ∧ (x_15 = !false → (((bestP none (wdriver x x_4) x.orders (oneP x.plan x_3) x_2 (100000 :
  Int)).fst.steps = (bestP none (wdriver x x_4) x.orders (oneP x.plan x_3) x_2 (100000 : Int)).fst.steps ∧ (bestP none (wdriver x x_4) x.orders (oneP x.plan x_3) x_2 (100000 : Int)).snd = (bestP none (wdriver x x_4) x.orders (oneP x.plan x_3)
  x_2 (100000 : Int)).snd ∧ (cost none (wdriver x x_4) x.orders (oneP x.plan x_3).stops).fst = (cost none (wdriver x x_4) x.orders (oneP x.plan x_3).stops).fst ∧ wrap (x_14 + (1 : Int)) = wrap (x_14 + (1 : Int)) ∧ true = true ∧ x_11 = x_11 ∧
  wrap (x_16 + (1 : Int)) = wrap (x_16 + (1 : Int))) ∧ (x.n = x.n ∧ (x_2.id = x_2.id ∧ x_2.size = x_2.size ∧ x_2.pp = x_2.pp ∧ x_2.pf = x_2.pf ∧ x_2.pt = x_2.pt ∧ x_2.ps = x_2.ps ∧ x_2.dp = x_2.dp ∧ x_2.df = x_2.df ∧ x_2.dt = x_2.dt ∧ x_2.ds
  = x_2.ds) ∧ ((oneP x.plan x_3).driver = (oneP x.plan x_3).driver ∧ (oneP x.plan x_3).served = (oneP x.plan x_3).served) ∧ ((wdriver x x_4).id = (wdriver x x_4).id ∧ (wdriver x x_4).room = (wdriver x x_4).room ∧ (wdriver x x_4).home =
  (wdriver x x_4).home ∧ (wdriver x x_4).lo = (wdriver x x_4).lo ∧ (wdriver x x_4).hi = (wdriver x x_4).hi ∧ (wdriver x x_4).retired = (wdriver x x_4).retired) ∧ (hspot (bestP none (wdriver x x_4) x.orders (oneP x.plan x_3) x_2 (100000 :
  Int)).fst).driver = (hspot (bestP none (wdriver x x_4) x.orders (oneP x.plan x_3) x_2 (100000 : Int)).fst).driver ∧ (hspot (bestP none (wdriver x x_4) x.orders (oneP x.plan x_3) x_2 (100000 : Int)).fst).pick = (hspot (bestP none (wdriver x
  x_4) x.orders (oneP x.plan x_3) x_2 (100000 : Int)).fst).pick ∧ (hspot (bestP none (wdriver x x_4) x.orders (oneP x.plan x_3) x_2 (100000 : Int)).fst).drop = (hspot (bestP none (wdriver x x_4) x.orders (oneP x.plan x_3) x_2 (100000 :
  Int)).fst).drop ∧ (hspot (bestP none (wdriver x x_4) x.orders (oneP x.plan x_3) x_2 (100000 : Int)).fst).cost = (hspot (bestP none (wdriver x x_4) x.orders (oneP x.plan x_3) x_2 (100000 : Int)).fst).cost) ∧ (oneP x.plan x_3).stops = (oneP
  x.plan x_3).stops ∧ x.plan = x.plan ∧ x.orders = x.orders ∧ x.drivers = x.drivers ∧ x.times = x.times ∧ [] ++ x.orders ++ [x_2] = [] ++ x.orders ++ [x_2]) ∧ inv_1 (wrap (x_14 + (1 : Int))) true (wrap (x_16 + (1 : Int))) ∧ μ_1 (wrap (x_14 +
  (1 : Int))) true (wrap (x_16 + (1 : Int))) < μ_1 x_14 x_15 x_16)))) ∧ (decide (wrap ((cost none (wdriver x x_4) ([] ++ x.orders ++ [x_2]) (putS (oneP x.plan x_3).stops x_2.id x_11 x_16)).fst - (cost none (wdriver x x_4) x.orders (oneP
  x.plan x_3).stops).fst) < (hspot (bestP none (wdriver x x_4) x.orders (oneP x.plan x_3) x_2 (100000 : Int)).fst).cost) = !false → false = true)) ∧ ((!decide ((bestP none (wdriver x x_4) x.orders (oneP x.plan x_3) x_2 (100000 : Int)).snd =
  (0 : Int))) = !false → false = true)) ∧ ((!(cost none (wdriver x x_4) ([] ++ x.orders ++ [x_2]) (putS (oneP x.plan x_3).stops x_2.id x_11 x_16)).snd) = !false → false = true)) ∧ (decide ((hspot (bestP none (wdriver x x_4) x.orders (oneP
  x.plan x_3) x_2 (100000 : Int)).fst).pick = x_11) = !true → ((!(cost none (wdriver x x_4) ([] ++ x.orders ++ [x_2]) (putS (oneP x.plan x_3).stops x_2.id x_11 x_16)).snd) = false → ((!decide ((bestP none (wdriver x x_4) x.orders (oneP x.plan
  x_3) x_2 (100000 : Int)).snd = (0 : Int))) = false → (decide (wrap ((cost none (wdriver x x_4) ([] ++ x.orders ++ [x_2]) (putS (oneP x.plan x_3).stops x_2.id x_11 x_16)).fst - (cost none (wdriver x x_4) x.orders (oneP x.plan
  x_3).stops).fst) < (hspot (bestP none (wdriver x x_4) x.orders (oneP x.plan x_3) x_2 (100000 : Int)).fst).cost) = false → ((!x_15) = true → (decide (wrap ((cost none (wdriver x x_4) ([] ++ x.orders ++ [x_2]) (putS (oneP x.plan x_3).stops
  x_2.id x_11 x_16)).fst - (cost none (wdriver x x_4) x.orders (oneP x.plan x_3).stops).fst) = (hspot (bestP none (wdriver x x_4) x.orders (oneP x.plan x_3) x_2 (100000 : Int)).fst).cost) = true → false = true) ∧ (decide (wrap ((cost none
  (wdriver x x_4) ([] ++ x.orders ++ [x_2]) (putS (oneP x.plan x_3).stops x_2.id x_11 x_16)).fst - (cost none (wdriver x x_4) x.orders (oneP x.plan x_3).stops).fst) = (hspot (bestP none (wdriver x x_4) x.orders (oneP x.plan x_3) x_2 (100000 :
  Int)).fst).cost) = false → (x_15 = false → (((bestP none (wdriver x x_4) x.orders (oneP x.plan x_3) x_2 (100000 : Int)).fst.steps = (bestP none (wdriver x x_4) x.orders (oneP x.plan x_3) x_2 (100000 : Int)).fst.steps ∧ (bestP none (wdriver
  x x_4) x.orders (oneP x.plan x_3) x_2 (100000 : Int)).snd = (bestP none (wdriver x x_4) x.orders (oneP x.plan x_3) x_2 (100000 : Int)).snd ∧ (cost none (wdriver x x_4) x.orders (oneP x.plan x_3).stops).fst = (cost none (wdriver x x_4)
  x.orders (oneP x.plan x_3).stops).fst ∧ wrap (x_14 + (1 : Int)) = wrap (x_14 + (1 : Int)) ∧ false = false ∧ x_11 = x_11 ∧ wrap (x_16 + (1 : Int)) = wrap (x_16 + (1 : Int))) ∧ (x.n = x.n ∧ (x_2.id = x_2.id ∧ x_2.size = x_2.size ∧ x_2.pp =
  x_2.pp ∧ x_2.pf = x_2.pf ∧ x_2.pt = x_2.pt ∧ x_2.ps = x_2.ps ∧ x_2.dp = x_2.dp ∧ x_2.df = x_2.df ∧ x_2.dt = x_2.dt ∧ x_2.ds = x_2.ds) ∧ ((oneP x.plan x_3).driver = (oneP x.plan x_3).driver ∧ (oneP x.plan x_3).served = (oneP x.plan
  x_3).served) ∧ ((wdriver x x_4).id = (wdriver x x_4).id ∧ (wdriver x x_4).room = (wdriver x x_4).room ∧ (wdriver x x_4).home = (wdriver x x_4).home ∧ (wdriver x x_4).lo = (wdriver x x_4).lo ∧ (wdriver x x_4).hi = (wdriver x x_4).hi ∧
  (wdriver x x_4).retired = (wdriver x x_4).retired) ∧ (hspot (bestP none (wdriver x x_4) x.orders (oneP x.plan x_3) x_2 (100000 : Int)).fst).driver = (hspot (bestP none (wdriver x x_4) x.orders (oneP x.plan x_3) x_2 (100000 :
  Int)).fst).driver ∧ (hspot (bestP none (wdriver x x_4) x.orders (oneP x.plan x_3) x_2 (100000 : Int)).fst).pick = (hspot (bestP none (wdriver x x_4) x.orders (oneP x.plan x_3) x_2 (100000 : Int)).fst).pick ∧ (hspot (bestP none (wdriver x
  x_4) x.orders (oneP x.plan x_3) x_2 (100000 : Int)).fst).drop = (hspot (bestP none (wdriver x x_4) x.orders (oneP x.plan x_3) x_2 (100000 : Int)).fst).drop ∧ (hspot (bestP none (wdriver x x_4) x.orders (oneP x.plan x_3) x_2 (100000 :
  Int)).fst).cost = (hspot (bestP none (wdriver x x_4) x.orders (oneP x.plan x_3) x_2 (100000 : Int)).fst).cost) ∧ (oneP x.plan x_3).stops = (oneP x.plan x_3).stops ∧ x.plan = x.plan ∧ x.orders = x.orders ∧ x.drivers = x.drivers ∧ x.times =
  x.times ∧ [] ++ x.orders ++ [x_2] = [] ++ x.orders ++ [x_2]) ∧ inv_1 (wrap (x_14 + (1 : Int))) false (wrap (x_16 + (1 : Int))) ∧ μ_1 (wrap (x_14 + (1 : Int))) false (wrap (x_16 + (1 : Int))) < μ_1 x_14 x_15 x_16) ∧ (x_15 = !false → (((bestP
  none (wdriver x x_4) x.orders (oneP x.plan x_3) x_2 (100000 : Int)).fst.steps = (bestP none (wdriver x x_4) x.orders (oneP x.plan x_3) x_2 (100000 : Int)).fst.steps ∧ (bestP none (wdriver x x_4) x.orders (oneP x.plan x_3) x_2 (100000 :
  Int)).snd = (bestP none (wdriver x x_4) x.orders (oneP x.plan x_3) x_2 (100000 : Int)).snd ∧ (cost none (wdriver x x_4) x.orders (oneP x.plan x_3).stops).fst = (cost none (wdriver x x_4) x.orders (oneP x.plan x_3).stops).fst ∧ wrap (x_14 +
  (1 : Int)) = wrap (x_14 + (1 : Int)) ∧ true = true ∧ x_11 = x_11 ∧ wrap (x_16 + (1 : Int)) = wrap (x_16 + (1 : Int))) ∧ (x.n = x.n ∧ (x_2.id = x_2.id ∧ x_2.size = x_2.size ∧ x_2.pp = x_2.pp ∧ x_2.pf = x_2.pf ∧ x_2.pt = x_2.pt ∧ x_2.ps =
  x_2.ps ∧ x_2.dp = x_2.dp ∧ x_2.df = x_2.df ∧ x_2.dt = x_2.dt ∧ x_2.ds = x_2.ds) ∧ ((oneP x.plan x_3).driver = (oneP x.plan x_3).driver ∧ (oneP x.plan x_3).served = (oneP x.plan x_3).served) ∧ ((wdriver x x_4).id = (wdriver x x_4).id ∧
  (wdriver x x_4).room = (wdriver x x_4).room ∧ (wdriver x x_4).home = (wdriver x x_4).home ∧ (wdriver x x_4).lo = (wdriver x x_4).lo ∧ (wdriver x x_4).hi = (wdriver x x_4).hi ∧ (wdriver x x_4).retired = (wdriver x x_4).retired) ∧ (hspot
  (bestP none (wdriver x x_4) x.orders (oneP x.plan x_3) x_2 (100000 : Int)).fst).driver = (hspot (bestP none (wdriver x x_4) x.orders (oneP x.plan x_3) x_2 (100000 : Int)).fst).driver ∧ (hspot (bestP none (wdriver x x_4) x.orders (oneP
  x.plan x_3) x_2 (100000 : Int)).fst).pick = (hspot (bestP none (wdriver x x_4) x.orders (oneP x.plan x_3) x_2 (100000 : Int)).fst).pick ∧ (hspot (bestP none (wdriver x x_4) x.orders (oneP x.plan x_3) x_2 (100000 : Int)).fst).drop = (hspot
  (bestP none (wdriver x x_4) x.orders (oneP x.plan x_3) x_2 (100000 : Int)).fst).drop ∧ (hspot (bestP none (wdriver x x_4) x.orders (oneP x.plan x_3) x_2 (100000 : Int)).fst).cost = (hspot (bestP none (wdriver x x_4) x.orders (oneP x.plan
  x_3) x_2 (100000 : Int)).fst).cost) ∧ (oneP x.plan x_3).stops = (oneP x.plan x_3).stops ∧ x.plan = x.plan ∧ x.orders = x.orders ∧ x.drivers = x.drivers ∧ x.times = x.times ∧ [] ++ x.orders ++ [x_2] = [] ++ x.orders ++ [x_2]) ∧ inv_1 (wrap
  (x_14 + (1 : Int))) true (wrap (x_16 + (1 : Int))) ∧ μ_1 (wrap (x_14 + (1 : Int))) true (wrap (x_16 + (1 : Int))) < μ_1 x_14 x_15 x_16))) ∧ ((!x_15) = !true → (x_15 = false → (((bestP none (wdriver x x_4) x.orders (oneP x.plan x_3) x_2
  (100000 : Int)).fst.steps = (bestP none (wdriver x x_4) x.orders (oneP x.plan x_3) x_2 (100000 : Int)).fst.steps ∧ (bestP none (wdriver x x_4) x.orders (oneP x.plan x_3) x_2 (100000 : Int)).snd = (bestP none (wdriver x x_4) x.orders (oneP
  x.plan x_3) x_2 (100000 : Int)).snd ∧ (cost none (wdriver x x_4) x.orders (oneP x.plan x_3).stops).fst = (cost none (wdriver x x_4) x.orders (oneP x.plan x_3).stops).fst ∧ wrap (x_14 + (1 : Int)) = wrap (x_14 + (1 : Int)) ∧ false = false ∧
  x_11 = x_11 ∧ wrap (x_16 + (1 : Int)) = wrap (x_16 + (1 : Int))) ∧ (x.n = x.n ∧ (x_2.id = x_2.id ∧ x_2.size = x_2.size ∧ x_2.pp = x_2.pp ∧ x_2.pf = x_2.pf ∧ x_2.pt = x_2.pt ∧ x_2.ps = x_2.ps ∧ x_2.dp = x_2.dp ∧ x_2.df = x_2.df ∧ x_2.dt =
  x_2.dt ∧ x_2.ds = x_2.ds) ∧ ((oneP x.plan x_3).driver = (oneP x.plan x_3).driver ∧ (oneP x.plan x_3).served = (oneP x.plan x_3).served) ∧ ((wdriver x x_4).id = (wdriver x x_4).id ∧ (wdriver x x_4).room = (wdriver x x_4).room ∧ (wdriver x
  x_4).home = (wdriver x x_4).home ∧ (wdriver x x_4).lo = (wdriver x x_4).lo ∧ (wdriver x x_4).hi = (wdriver x x_4).hi ∧ (wdriver x x_4).retired = (wdriver x x_4).retired) ∧ (hspot (bestP none (wdriver x x_4) x.orders (oneP x.plan x_3) x_2
  (100000 : Int)).fst).driver = (hspot (bestP none (wdriver x x_4) x.orders (oneP x.plan x_3) x_2 (100000 : Int)).fst).driver ∧ (hspot (bestP none (wdriver x x_4) x.orders (oneP x.plan x_3) x_2 (100000 : Int)).fst).pick = (hspot (bestP none
  (wdriver x x_4) x.orders (oneP x.plan x_3) x_2 (100000 : Int)).fst).pick ∧ (hspot (bestP none (wdriver x x_4) x.orders (oneP x.plan x_3) x_2 (100000 : Int)).fst).drop = (hspot (bestP none (wdriver x x_4) x.orders (oneP x.plan x_3) x_2
  (100000 : Int)).fst).drop ∧ (hspot (bestP none (wdriver x x_4) x.orders (oneP x.plan x_3) x_2 (100000 : Int)).fst).cost = (hspot (bestP none (wdriver x x_4) x.orders (oneP x.plan x_3) x_2 (100000 : Int)).fst).cost) ∧ (oneP x.plan x_3).stops
  = (oneP x.plan x_3).stops ∧ x.plan = x.plan ∧ x.orders = x.orders ∧ x.drivers = x.drivers ∧ x.times = x.times ∧ [] ++ x.orders ++ [x_2] = [] ++ x.orders ++ [x_2]) ∧ inv_1 (wrap (x_14 + (1 : Int))) false (wrap (x_16 + (1 : Int))) ∧ μ_1 (wrap
  (x_14 + (1 : Int))) false (wrap (x_16 + (1 : Int))) < μ_1 x_14 x_15 x_16) ∧ (x_15 = !false → (((bestP none (wdriver x x_4) x.orders (oneP x.plan x_3) x_2 (100000 : Int)).fst.steps = (bestP none (wdriver x x_4) x.orders (oneP x.plan x_3) x_2
  (100000 : Int)).fst.steps ∧ (bestP none (wdriver x x_4) x.orders (oneP x.plan x_3) x_2 (100000 : Int)).snd = (bestP none (wdriver x x_4) x.orders (oneP x.plan x_3) x_2 (100000 : Int)).snd ∧ (cost none (wdriver x x_4) x.orders (oneP x.plan
  x_3).stops).fst = (cost none (wdriver x x_4) x.orders (oneP x.plan x_3).stops).fst ∧ wrap (x_14 + (1 : Int)) = wrap (x_14 + (1 : Int)) ∧ true = true ∧ x_11 = x_11 ∧ wrap (x_16 + (1 : Int)) = wrap (x_16 + (1 : Int))) ∧ (x.n = x.n ∧ (x_2.id =
  x_2.id ∧ x_2.size = x_2.size ∧ x_2.pp = x_2.pp ∧ x_2.pf = x_2.pf ∧ x_2.pt = x_2.pt ∧ x_2.ps = x_2.ps ∧ x_2.dp = x_2.dp ∧ x_2.df = x_2.df ∧ x_2.dt = x_2.dt ∧ x_2.ds = x_2.ds) ∧ ((oneP x.plan x_3).driver = (oneP x.plan x_3).driver ∧ (oneP
  x.plan x_3).served = (oneP x.plan x_3).served) ∧ ((wdriver x x_4).id = (wdriver x x_4).id ∧ (wdriver x x_4).room = (wdriver x x_4).room ∧ (wdriver x x_4).home = (wdriver x x_4).home ∧ (wdriver x x_4).lo = (wdriver x x_4).lo ∧ (wdriver x
  x_4).hi = (wdriver x x_4).hi ∧ (wdriver x x_4).retired = (wdriver x x_4).retired) ∧ (hspot (bestP none (wdriver x x_4) x.orders (oneP x.plan x_3) x_2 (100000 : Int)).fst).driver = (hspot (bestP none (wdriver x x_4) x.orders (oneP x.plan
  x_3) x_2 (100000 : Int)).fst).driver ∧ (hspot (bestP none (wdriver x x_4) x.orders (oneP x.plan x_3) x_2 (100000 : Int)).fst).pick = (hspot (bestP none (wdriver x x_4) x.orders (oneP x.plan x_3) x_2 (100000 : Int)).fst).pick ∧ (hspot (bestP
  none (wdriver x x_4) x.orders (oneP x.plan x_3) x_2 (100000 : Int)).fst).drop = (hspot (bestP none (wdriver x x_4) x.orders (oneP x.plan x_3) x_2 (100000 : Int)).fst).drop ∧ (hspot (bestP none (wdriver x x_4) x.orders (oneP x.plan x_3) x_2
  (100000 : Int)).fst).cost = (hspot (bestP none (wdriver x x_4) x.orders (oneP x.plan x_3) x_2 (100000 : Int)).fst).cost) ∧ (oneP x.plan x_3).stops = (oneP x.plan x_3).stops ∧ x.plan = x.plan ∧ x.orders = x.orders ∧ x.drivers = x.drivers ∧
  x.times = x.times ∧ [] ++ x.orders ++ [x_2] = [] ++ x.orders ++ [x_2]) ∧ inv_1 (wrap (x_14 + (1 : Int))) true (wrap (x_16 + (1 : Int))) ∧ μ_1 (wrap (x_14 + (1 : Int))) true (wrap (x_16 + (1 : Int))) < μ_1 x_14 x_15 x_16))) ∧ (decide (wrap
  ((cost none (wdriver x x_4) ([] ++ x.orders ++ [x_2]) (putS (oneP x.plan x_3).stops x_2.id x_11 x_16)).fst - (cost none (wdriver x x_4) x.orders (oneP x.plan x_3).stops).fst) < (hspot (bestP none (wdriver x x_4) x.orders (oneP x.plan x_3)
  x_2 (100000 : Int)).fst).cost) = !false → false = true)) ∧ ((!decide ((bestP none (wdriver x x_4) x.orders (oneP x.plan x_3) x_2 (100000 : Int)).snd = (0 : Int))) = !false → false = true)) ∧ ((!(cost none (wdriver x x_4) ([] ++ x.orders ++
  [x_2]) (putS (oneP x.plan x_3).stops x_2.id x_11 x_16)).snd) = !false → false = true))) ∧ (decide ((bestP none (wdriver x x_4) x.orders (oneP x.plan x_3) x_2 (100000 : Int)).snd = (0 : Int)) = !true → ((!(cost none (wdriver x x_4) ([] ++
  x.orders ++ [x_2]) (putS (oneP x.plan x_3).stops x_2.id x_11 x_16)).snd) = false → ((!decide ((bestP none (wdriver x x_4) x.orders (oneP x.plan x_3) x_2 (100000 : Int)).snd = (0 : Int))) = false → (decide (wrap ((cost none (wdriver x x_4)
  ([] ++ x.orders ++ [x_2]) (putS (oneP x.plan x_3).stops x_2.id x_11 x_16)).fst - (cost none (wdriver x x_4) x.orders (oneP x.plan x_3).stops).fst) < (hspot (bestP none (wdriver x x_4) x.orders (oneP x.plan x_3) x_2 (100000 :
  Int)).fst).cost) = false → ((!x_15) = true → (decide (wrap ((cost none (wdriver x x_4) ([] ++ x.orders ++ [x_2]) (putS (oneP x.plan x_3).stops x_2.id x_11 x_16)).fst - (cost none (wdriver x x_4) x.orders (oneP x.plan x_3).stops).fst) =
  (hspot (bestP none (wdriver x x_4) x.orders (oneP x.plan x_3) x_2 (100000 : Int)).fst).cost) = true → false = true) ∧ (decide (wrap ((cost none (wdriver x x_4) ([] ++ x.orders ++ [x_2]) (putS (oneP x.plan x_3).stops x_2.id x_11 x_16)).fst -
  (cost none (wdriver x x_4) x.orders (oneP x.plan x_3).stops).fst) = (hspot (bestP none (wdriver x x_4) x.orders (oneP x.plan x_3) x_2 (100000 : Int)).fst).cost) = false → (x_15 = false → (((bestP none (wdriver x x_4) x.orders (oneP x.plan
  x_3) x_2 (100000 : Int)).fst.steps = (bestP none (wdriver x x_4) x.orders (oneP x.plan x_3) x_2 (100000 : Int)).fst.steps ∧ (bestP none (wdriver x x_4) x.orders (oneP x.plan x_3) x_2 (100000 : Int)).snd = (bestP none (wdriver x x_4)
  x.orders (oneP x.plan x_3) x_2 (100000 : Int)).snd ∧ (cost none (wdriver x x_4) x.orders (oneP x.plan x_3).stops).fst = (cost none (wdriver x x_4) x.orders (oneP x.plan x_3).stops).fst ∧ wrap (x_14 + (1 : Int)) = wrap (x_14 + (1 : Int)) ∧
  false = false ∧ x_11 = x_11 ∧ wrap (x_16 + (1 : Int)) = wrap (x_16 + (1 : Int))) ∧ (x.n = x.n ∧ (x_2.id = x_2.id ∧ x_2.size = x_2.size ∧ x_2.pp = x_2.pp ∧ x_2.pf = x_2.pf ∧ x_2.pt = x_2.pt ∧ x_2.ps = x_2.ps ∧ x_2.dp = x_2.dp ∧ x_2.df =
  x_2.df ∧ x_2.dt = x_2.dt ∧ x_2.ds = x_2.ds) ∧ ((oneP x.plan x_3).driver = (oneP x.plan x_3).driver ∧ (oneP x.plan x_3).served = (oneP x.plan x_3).served) ∧ ((wdriver x x_4).id = (wdriver x x_4).id ∧ (wdriver x x_4).room = (wdriver x
  x_4).room ∧ (wdriver x x_4).home = (wdriver x x_4).home ∧ (wdriver x x_4).lo = (wdriver x x_4).lo ∧ (wdriver x x_4).hi = (wdriver x x_4).hi ∧ (wdriver x x_4).retired = (wdriver x x_4).retired) ∧ (hspot (bestP none (wdriver x x_4) x.orders
  (oneP x.plan x_3) x_2 (100000 : Int)).fst).driver = (hspot (bestP none (wdriver x x_4) x.orders (oneP x.plan x_3) x_2 (100000 : Int)).fst).driver ∧ (hspot (bestP none (wdriver x x_4) x.orders (oneP x.plan x_3) x_2 (100000 : Int)).fst).pick
  = (hspot (bestP none (wdriver x x_4) x.orders (oneP x.plan x_3) x_2 (100000 : Int)).fst).pick ∧ (hspot (bestP none (wdriver x x_4) x.orders (oneP x.plan x_3) x_2 (100000 : Int)).fst).drop = (hspot (bestP none (wdriver x x_4) x.orders (oneP
  x.plan x_3) x_2 (100000 : Int)).fst).drop ∧ (hspot (bestP none (wdriver x x_4) x.orders (oneP x.plan x_3) x_2 (100000 : Int)).fst).cost = (hspot (bestP none (wdriver x x_4) x.orders (oneP x.plan x_3) x_2 (100000 : Int)).fst).cost) ∧ (oneP
  x.plan x_3).stops = (oneP x.plan x_3).stops ∧ x.plan = x.plan ∧ x.orders = x.orders ∧ x.drivers = x.drivers ∧ x.times = x.times ∧ [] ++ x.orders ++ [x_2] = [] ++ x.orders ++ [x_2]) ∧ inv_1 (wrap (x_14 + (1 : Int))) false (wrap (x_16 + (1 :
  Int))) ∧ μ_1 (wrap (x_14 + (1 : Int))) false (wrap (x_16 + (1 : Int))) < μ_1 x_14 x_15 x_16) ∧ (x_15 = !false → (((bestP none (wdriver x x_4) x.orders (oneP x.plan x_3) x_2 (100000 : Int)).fst.steps = (bestP none (wdriver x x_4) x.orders
  (oneP x.plan x_3) x_2 (100000 : Int)).fst.steps ∧ (bestP none (wdriver x x_4) x.orders (oneP x.plan x_3) x_2 (100000 : Int)).snd = (bestP none (wdriver x x_4) x.orders (oneP x.plan x_3) x_2 (100000 : Int)).snd ∧ (cost none (wdriver x x_4)
  x.orders (oneP x.plan x_3).stops).fst = (cost none (wdriver x x_4) x.orders (oneP x.plan x_3).stops).fst ∧ wrap (x_14 + (1 : Int)) = wrap (x_14 + (1 : Int)) ∧ true = true ∧ x_11 = x_11 ∧ wrap (x_16 + (1 : Int)) = wrap (x_16 + (1 : Int))) ∧
  (x.n = x.n ∧ (x_2.id = x_2.id ∧ x_2.size = x_2.size ∧ x_2.pp = x_2.pp ∧ x_2.pf = x_2.pf ∧ x_2.pt = x_2.pt ∧ x_2.ps = x_2.ps ∧ x_2.dp = x_2.dp ∧ x_2.df = x_2.df ∧ x_2.dt = x_2.dt ∧ x_2.ds = x_2.ds) ∧ ((oneP x.plan x_3).driver = (oneP x.plan
  x_3).driver ∧ (oneP x.plan x_3).served = (oneP x.plan x_3).served) ∧ ((wdriver x x_4).id = (wdriver x x_4).id ∧ (wdriver x x_4).room = (wdriver x x_4).room ∧ (wdriver x x_4).home = (wdriver x x_4).home ∧ (wdriver x x_4).lo = (wdriver x
  x_4).lo ∧ (wdriver x x_4).hi = (wdriver x x_4).hi ∧ (wdriver x x_4).retired = (wdriver x x_4).retired) ∧ (hspot (bestP none (wdriver x x_4) x.orders (oneP x.plan x_3) x_2 (100000 : Int)).fst).driver = (hspot (bestP none (wdriver x x_4)
  x.orders (oneP x.plan x_3) x_2 (100000 : Int)).fst).driver ∧ (hspot (bestP none (wdriver x x_4) x.orders (oneP x.plan x_3) x_2 (100000 : Int)).fst).pick = (hspot (bestP none (wdriver x x_4) x.orders (oneP x.plan x_3) x_2 (100000 :
  Int)).fst).pick ∧ (hspot (bestP none (wdriver x x_4) x.orders (oneP x.plan x_3) x_2 (100000 : Int)).fst).drop = (hspot (bestP none (wdriver x x_4) x.orders (oneP x.plan x_3) x_2 (100000 : Int)).fst).drop ∧ (hspot (bestP none (wdriver x x_4)
  x.orders (oneP x.plan x_3) x_2 (100000 : Int)).fst).cost = (hspot (bestP none (wdriver x x_4) x.orders (oneP x.plan x_3) x_2 (100000 : Int)).fst).cost) ∧ (oneP x.plan x_3).stops = (oneP x.plan x_3).stops ∧ x.plan = x.plan ∧ x.orders =
  x.orders ∧ x.drivers = x.drivers ∧ x.times = x.times ∧ [] ++ x.orders ++ [x_2] = [] ++ x.orders ++ [x_2]) ∧ inv_1 (wrap (x_14 + (1 : Int))) true (wrap (x_16 + (1 : Int))) ∧ μ_1 (wrap (x_14 + (1 : Int))) true (wrap (x_16 + (1 : Int))) < μ_1
  x_14 x_15 x_16))) ∧ ((!x_15) = !true → (x_15 = false → (((bestP none (wdriver x x_4) x.orders (oneP x.plan x_3) x_2 (100000 : Int)).fst.steps = (bestP none (wdriver x x_4) x.orders (oneP x.plan x_3) x_2 (100000 : Int)).fst.steps ∧ (bestP
  none (wdriver x x_4) x.orders (oneP x.plan x_3) x_2 (100000 : Int)).snd = (bestP none (wdriver x x_4) x.orders (oneP x.plan x_3) x_2 (100000 : Int)).snd ∧ (cost none (wdriver x x_4) x.orders (oneP x.plan x_3).stops).fst = (cost none
  (wdriver x x_4) x.orders (oneP x.plan x_3).stops).fst ∧ wrap (x_14 + (1 : Int)) = wrap (x_14 + (1 : Int)) ∧ false = false ∧ x_11 = x_11 ∧ wrap (x_16 + (1 : Int)) = wrap (x_16 + (1 : Int))) ∧ (x.n = x.n ∧ (x_2.id = x_2.id ∧ x_2.size =
  x_2.size ∧ x_2.pp = x_2.pp ∧ x_2.pf = x_2.pf ∧ x_2.pt = x_2.pt ∧ x_2.ps = x_2.ps ∧ x_2.dp = x_2.dp ∧ x_2.df = x_2.df ∧ x_2.dt = x_2.dt ∧ x_2.ds = x_2.ds) ∧ ((oneP x.plan x_3).driver = (oneP x.plan x_3).driver ∧ (oneP x.plan x_3).served =
  (oneP x.plan x_3).served) ∧ ((wdriver x x_4).id = (wdriver x x_4).id ∧ (wdriver x x_4).room = (wdriver x x_4).room ∧ (wdriver x x_4).home = (wdriver x x_4).home ∧ (wdriver x x_4).lo = (wdriver x x_4).lo ∧ (wdriver x x_4).hi = (wdriver x
  x_4).hi ∧ (wdriver x x_4).retired = (wdriver x x_4).retired) ∧ (hspot (bestP none (wdriver x x_4) x.orders (oneP x.plan x_3) x_2 (100000 : Int)).fst).driver = (hspot (bestP none (wdriver x x_4) x.orders (oneP x.plan x_3) x_2 (100000 :
  Int)).fst).driver ∧ (hspot (bestP none (wdriver x x_4) x.orders (oneP x.plan x_3) x_2 (100000 : Int)).fst).pick = (hspot (bestP none (wdriver x x_4) x.orders (oneP x.plan x_3) x_2 (100000 : Int)).fst).pick ∧ (hspot (bestP none (wdriver x
  x_4) x.orders (oneP x.plan x_3) x_2 (100000 : Int)).fst).drop = (hspot (bestP none (wdriver x x_4) x.orders (oneP x.plan x_3) x_2 (100000 : Int)).fst).drop ∧ (hspot (bestP none (wdriver x x_4) x.orders (oneP x.plan x_3) x_2 (100000 :
  Int)).fst).cost = (hspot (bestP none (wdriver x x_4) x.orders (oneP x.plan x_3) x_2 (100000 : Int)).fst).cost) ∧ (oneP x.plan x_3).stops = (oneP x.plan x_3).stops ∧ x.plan = x.plan ∧ x.orders = x.orders ∧ x.drivers = x.drivers ∧ x.times =
  x.times ∧ [] ++ x.orders ++ [x_2] = [] ++ x.orders ++ [x_2]) ∧ inv_1 (wrap (x_14 + (1 : Int))) false (wrap (x_16 + (1 : Int))) ∧ μ_1 (wrap (x_14 + (1 : Int))) false (wrap (x_16 + (1 : Int))) < μ_1 x_14 x_15 x_16) ∧ (x_15 = !false → (((bestP
  none (wdriver x x_4) x.orders (oneP x.plan x_3) x_2 (100000 : Int)).fst.steps = (bestP none (wdriver x x_4) x.orders (oneP x.plan x_3) x_2 (100000 : Int)).fst.steps ∧ (bestP none (wdriver x x_4) x.orders (oneP x.plan x_3) x_2 (100000 :
  Int)).snd = (bestP none (wdriver x x_4) x.orders (oneP x.plan x_3) x_2 (100000 : Int)).snd ∧ (cost none (wdriver x x_4) x.orders (oneP x.plan x_3).stops).fst = (cost none (wdriver x x_4) x.orders (oneP x.plan x_3).stops).fst ∧ wrap (x_14 +
  (1 : Int)) = wrap (x_14 + (1 : Int)) ∧ true = true ∧ x_11 = x_11 ∧ wrap (x_16 + (1 : Int)) = wrap (x_16 + (1 : Int))) ∧ (x.n = x.n ∧ (x_2.id = x_2.id ∧ x_2.size = x_2.size ∧ x_2.pp = x_2.pp ∧ x_2.pf = x_2.pf ∧ x_2.pt = x_2.pt ∧ x_2.ps =
  x_2.ps ∧ x_2.dp = x_2.dp ∧ x_2.df = x_2.df ∧ x_2.dt = x_2.dt ∧ x_2.ds = x_2.ds) ∧ ((oneP x.plan x_3).driver = (oneP x.plan x_3).driver ∧ (oneP x.plan x_3).served = (oneP x.plan x_3).served) ∧ ((wdriver x x_4).id = (wdriver x x_4).id ∧
  (wdriver x x_4).room = (wdriver x x_4).room ∧ (wdriver x x_4).home = (wdriver x x_4).home ∧ (wdriver x x_4).lo = (wdriver x x_4).lo ∧ (wdriver x x_4).hi = (wdriver x x_4).hi ∧ (wdriver x x_4).retired = (wdriver x x_4).retired) ∧ (hspot
  (bestP none (wdriver x x_4) x.orders (oneP x.plan x_3) x_2 (100000 : Int)).fst).driver = (hspot (bestP none (wdriver x x_4) x.orders (oneP x.plan x_3) x_2 (100000 : Int)).fst).driver ∧ (hspot (bestP none (wdriver x x_4) x.orders (oneP
  x.plan x_3) x_2 (100000 : Int)).fst).pick = (hspot (bestP none (wdriver x x_4) x.orders (oneP x.plan x_3) x_2 (100000 : Int)).fst).pick ∧ (hspot (bestP none (wdriver x x_4) x.orders (oneP x.plan x_3) x_2 (100000 : Int)).fst).drop = (hspot
  (bestP none (wdriver x x_4) x.orders (oneP x.plan x_3) x_2 (100000 : Int)).fst).drop ∧ (hspot (bestP none (wdriver x x_4) x.orders (oneP x.plan x_3) x_2 (100000 : Int)).fst).cost = (hspot (bestP none (wdriver x x_4) x.orders (oneP x.plan
  x_3) x_2 (100000 : Int)).fst).cost) ∧ (oneP x.plan x_3).stops = (oneP x.plan x_3).stops ∧ x.plan = x.plan ∧ x.orders = x.orders ∧ x.drivers = x.drivers ∧ x.times = x.times ∧ [] ++ x.orders ++ [x_2] = [] ++ x.orders ++ [x_2]) ∧ inv_1 (wrap
  (x_14 + (1 : Int))) true (wrap (x_16 + (1 : Int))) ∧ μ_1 (wrap (x_14 + (1 : Int))) true (wrap (x_16 + (1 : Int))) < μ_1 x_14 x_15 x_16))) ∧ (decide (wrap ((cost none (wdriver x x_4) ([] ++ x.orders ++ [x_2]) (putS (oneP x.plan x_3).stops
  x_2.id x_11 x_16)).fst - (cost none (wdriver x x_4) x.orders (oneP x.plan x_3).stops).fst) < (hspot (bestP none (wdriver x x_4) x.orders (oneP x.plan x_3) x_2 (100000 : Int)).fst).cost) = !false → false = true)) ∧ ((!decide ((bestP none
  (wdriver x x_4) x.orders (oneP x.plan x_3) x_2 (100000 : Int)).snd = (0 : Int))) = !false → false = true)) ∧ ((!(cost none (wdriver x x_4) ([] ++ x.orders ++ [x_2]) (putS (oneP x.plan x_3).stops x_2.id x_11 x_16)).snd) = !false → false =
  true)))) ∧ (decide (x_16 ≤ (↑(oneP x.plan x_3).stops.length : Int)) = false → (((bestP none (wdriver x x_4) x.orders (oneP x.plan x_3) x_2 (100000 : Int)).fst.steps = (bestP none (wdriver x x_4) x.orders (oneP x.plan x_3) x_2 (100000 :
  Int)).fst.steps ∧ (bestP none (wdriver x x_4) x.orders (oneP x.plan x_3) x_2 (100000 : Int)).snd = (bestP none (wdriver x x_4) x.orders (oneP x.plan x_3) x_2 (100000 : Int)).snd ∧ (cost none (wdriver x x_4) x.orders (oneP x.plan
  x_3).stops).fst = (cost none (wdriver x x_4) x.orders (oneP x.plan x_3).stops).fst ∧ x_14 = x_14 ∧ x_15 = x_15 ∧ wrap (x_11 + (1 : Int)) = wrap (x_11 + (1 : Int))) ∧ (x.n = x.n ∧ (x_2.id = x_2.id ∧ x_2.size = x_2.size ∧ x_2.pp = x_2.pp ∧
  x_2.pf = x_2.pf ∧ x_2.pt = x_2.pt ∧ x_2.ps = x_2.ps ∧ x_2.dp = x_2.dp ∧ x_2.df = x_2.df ∧ x_2.dt = x_2.dt ∧ x_2.ds = x_2.ds) ∧ ((oneP x.plan x_3).driver = (oneP x.plan x_3).driver ∧ (oneP x.plan x_3).served = (oneP x.plan x_3).served) ∧
  ((wdriver x x_4).id = (wdriver x x_4).id ∧ (wdriver x x_4).room = (wdriver x x_4).room ∧ (wdriver x x_4).home = (wdriver x x_4).home ∧ (wdriver x x_4).lo = (wdriver x x_4).lo ∧ (wdriver x x_4).hi = (wdriver x x_4).hi ∧ (wdriver x
  x_4).retired = (wdriver x x_4).retired) ∧ (hspot (bestP none (wdriver x x_4) x.orders (oneP x.plan x_3) x_2 (100000 : Int)).fst).driver = (hspot (bestP none (wdriver x x_4) x.orders (oneP x.plan x_3) x_2 (100000 : Int)).fst).driver ∧ (hspot
  (bestP none (wdriver x x_4) x.orders (oneP x.plan x_3) x_2 (100000 : Int)).fst).pick = (hspot (bestP none (wdriver x x_4) x.orders (oneP x.plan x_3) x_2 (100000 : Int)).fst).pick ∧ (hspot (bestP none (wdriver x x_4) x.orders (oneP x.plan
  x_3) x_2 (100000 : Int)).fst).drop = (hspot (bestP none (wdriver x x_4) x.orders (oneP x.plan x_3) x_2 (100000 : Int)).fst).drop ∧ (hspot (bestP none (wdriver x x_4) x.orders (oneP x.plan x_3) x_2 (100000 : Int)).fst).cost = (hspot (bestP
  none (wdriver x x_4) x.orders (oneP x.plan x_3) x_2 (100000 : Int)).fst).cost) ∧ (oneP x.plan x_3).stops = (oneP x.plan x_3).stops ∧ x.plan = x.plan ∧ x.orders = x.orders ∧ x.drivers = x.drivers ∧ x.times = x.times ∧ [] ++ x.orders ++ [x_2]
  = [] ++ x.orders ++ [x_2]) ∧ inv x_14 x_15 (wrap (x_11 + (1 : Int))) ∧ μ x_14 x_15 (wrap (x_11 + (1 : Int))) < μ x_9 x_10 x_11)) ∧ (decide (x_11 ≤ (↑(oneP x.plan x_3).stops.length : Int)) = false → (decide (x_9 = (bestP none (wdriver x x_4)
  x.orders (oneP x.plan x_3) x_2 (100000 : Int)).fst.steps) = true → ((x_10 == decide ((bestP none (wdriver x x_4) x.orders (oneP x.plan x_3) x_2 (100000 : Int)).snd = (0 : Int))) = true → true = true) ∧ ((x_10 == decide ((bestP none (wdriver
  x x_4) x.orders (oneP x.plan x_3) x_2 (100000 : Int)).snd = (0 : Int))) = !true → false = true)) ∧ (decide (x_9 = (bestP none (wdriver x x_4) x.orders (oneP x.plan x_3) x_2 (100000 : Int)).fst.steps) = !true → false = true))))) ∧ (newE x.n
  x.times = (0 : Int) → ((!true) = true → false = true) ∧ ((!true) = false → (∀ (x_8 : MapD), some (MapD.mk x.n x.times) = some x_8 → MapOk x_8) ∧ ∃ (inv : Prop), (((!decide ((bestP (some (MapD.mk x.n x.times)) (wdriver x x_4) x.orders (oneP
  x.plan x_3) x_2 (100000 : Int)).snd = (0 : Int))) = true → ((!decide ((bestP (some (MapD.mk x.n x.times)) (wdriver x x_4) x.orders (oneP x.plan x_3) x_2 (100000 : Int)).snd = (20 : Int))) = false → (decide ((↑(oneP x.plan x_3).stops.length
  : Int) > (10 : Int)) = true → (decide ((bestP (some (MapD.mk x.n x.times)) (wdriver x x_4) x.orders (oneP x.plan x_3) x_2 (100000 : Int)).snd = (0 : Int)) = false → ((decide ((hspot (bestP (some (MapD.mk x.n x.times)) (wdriver x x_4)
  x.orders (oneP x.plan x_3) x_2 (100000 : Int)).fst).driver = (0 : Int)) && (decide ((hspot (bestP (some (MapD.mk x.n x.times)) (wdriver x x_4) x.orders (oneP x.plan x_3) x_2 (100000 : Int)).fst).pick = (0 : Int)) && (decide ((hspot (bestP
  (some (MapD.mk x.n x.times)) (wdriver x x_4) x.orders (oneP x.plan x_3) x_2 (100000 : Int)).fst).drop = (0 : Int)) && (decide ((hspot (bestP (some (MapD.mk x.n x.times)) (wdriver x x_4) x.orders (oneP x.plan x_3) x_2 (100000 :
  Int)).fst).cost = (0 : Int)) && true)))) = true → true = true) ∧ ((decide ((hspot (bestP (some (MapD.mk x.n x.times)) (wdriver x x_4) x.orders (oneP x.plan x_3) x_2 (100000 : Int)).fst).driver = (0 : Int)) && (decide ((hspot (bestP (some
  (MapD.mk x.n x.times)) (wdriver x x_4) x.orders (oneP x.plan x_3) x_2 (100000 : Int)).fst).pick = (0 : Int)) && (decide ((hspot (bestP (some (MapD.mk x.n x.times)) (wdriver x x_4) x.orders (oneP x.plan x_3) x_2 (100000 : Int)).fst).drop =
  (0 : Int)) && (decide ((hspot (bestP (some (MapD.mk x.n x.times)) (wdriver x x_4) x.orders (oneP x.plan x_3) x_2 (100000 : Int)).fst).cost = (0 : Int)) && true)))) = !true → false = true)) ∧ (decide ((bestP (some (MapD.mk x.n x.times))
  (wdriver x x_4) x.orders (oneP x.plan x_3) x_2 (100000 : Int)).snd = (0 : Int)) = !false → true = true)) ∧ (decide ((↑(oneP x.plan x_3).stops.length : Int) > (10 : Int)) = false → (((bestP (some (MapD.mk x.n x.times)) (wdriver x x_4)
  x.orders (oneP x.plan x_3) x_2 (100000 : Int)).fst.steps = (bestP (some (MapD.mk x.n x.times)) (wdriver x x_4) x.orders (oneP x.plan x_3) x_2 (100000 : Int)).fst.steps ∧ (bestP (some (MapD.mk x.n x.times)) (wdriver x x_4) x.orders (oneP
  x.plan x_3) x_2 (100000 : Int)).snd = (bestP (some (MapD.mk x.n x.times)) (wdriver x x_4) x.orders (oneP x.plan x_3) x_2 (100000 : Int)).snd) ∧ (x.n = x.n ∧ (x_2.id = x_2.id ∧ x_2.size = x_2.size ∧ x_2.pp = x_2.pp ∧ x_2.pf = x_2.pf ∧ x_2.pt
  = x_2.pt ∧ x_2.ps = x_2.ps ∧ x_2.dp = x_2.dp ∧ x_2.df = x_2.df ∧ x_2.dt = x_2.dt ∧ x_2.ds = x_2.ds) ∧ x.n = x.n ∧ ((oneP x.plan x_3).driver = (oneP x.plan x_3).driver ∧ (oneP x.plan x_3).served = (oneP x.plan x_3).served) ∧ ((wdriver x
  x_4).id = (wdriver x x_4).id ∧ (wdriver x x_4).room = (wdriver x x_4).room ∧ (wdriver x x_4).home = (wdriver x x_4).home ∧ (wdriver x x_4).lo = (wdriver x x_4).lo ∧ (wdriver x x_4).hi = (wdriver x x_4).hi ∧ (wdriver x x_4).retired =
  (wdriver x x_4).retired) ∧ (hspot (bestP (some (MapD.mk x.n x.times)) (wdriver x x_4) x.orders (oneP x.plan x_3) x_2 (100000 : Int)).fst).driver = (hspot (bestP (some (MapD.mk x.n x.times)) (wdriver x x_4) x.orders (oneP x.plan x_3) x_2
  (100000 : Int)).fst).driver ∧ (hspot (bestP (some (MapD.mk x.n x.times)) (wdriver x x_4) x.orders (oneP x.plan x_3) x_2 (100000 : Int)).fst).pick = (hspot (bestP (some (MapD.mk x.n x.times)) (wdriver x x_4) x.orders (oneP x.plan x_3) x_2
  (100000 : Int)).fst).pick ∧ (hspot (bestP (some (MapD.mk x.n x.times)) (wdriver x x_4) x.orders (oneP x.plan x_3) x_2 (100000 : Int)).fst).drop = (hspot (bestP (some (MapD.mk x.n x.times)) (wdriver x x_4) x.orders (oneP x.plan x_3) x_2
  (100000 : Int)).fst).drop ∧ (hspot (bestP (some (MapD.mk x.n x.times)) (wdriver x x_4) x.orders (oneP x.plan x_3) x_2 (100000 : Int)).fst).cost = (hspot (bestP (some (MapD.mk x.n x.times)) (wdriver x x_4) x.orders (oneP x.plan x_3) x_2
  (100000 : Int)).fst).cost) ∧ (oneP x.plan x_3).stops = (oneP x.plan x_3).stops ∧ x.times = x.times ∧ x.plan = x.plan ∧ x.orders = x.orders ∧ x.drivers = x.drivers ∧ x.times = x.times) ∧ inv)) ∧ ((!decide ((bestP (some (MapD.mk x.n x.times))
  (wdriver x x_4) x.orders (oneP x.plan x_3) x_2 (100000 : Int)).snd = (20 : Int))) = !false → (decide ((bestP (some (MapD.mk x.n x.times)) (wdriver x x_4) x.orders (oneP x.plan x_3) x_2 (100000 : Int)).snd = (0 : Int)) = false → ((decide
  ((hspot (bestP (some (MapD.mk x.n x.times)) (wdriver x x_4) x.orders (oneP x.plan x_3) x_2 (100000 : Int)).fst).driver = (0 : Int)) && (decide ((hspot (bestP (some (MapD.mk x.n x.times)) (wdriver x x_4) x.orders (oneP x.plan x_3) x_2
  (100000 : Int)).fst).pick = (0 : Int)) && (decide ((hspot (bestP (some (MapD.mk x.n x.times)) (wdriver x x_4) x.orders (oneP x.plan x_3) x_2 (100000 : Int)).fst).drop = (0 : Int)) && (decide ((hspot (bestP (some (MapD.mk x.n x.times))
  (wdriver x x_4) x.orders (oneP x.plan x_3) x_2 (100000 : Int)).fst).cost = (0 : Int)) && true)))) = true → true = true) ∧ ((decide ((hspot (bestP (some (MapD.mk x.n x.times)) (wdriver x x_4) x.orders (oneP x.plan x_3) x_2 (100000 :
  Int)).fst).driver = (0 : Int)) && (decide ((hspot (bestP (some (MapD.mk x.n x.times)) (wdriver x x_4) x.orders (oneP x.plan x_3) x_2 (100000 : Int)).fst).pick = (0 : Int)) && (decide ((hspot (bestP (some (MapD.mk x.n x.times)) (wdriver x
  x_4) x.orders (oneP x.plan x_3) x_2 (100000 : Int)).fst).drop = (0 : Int)) && (decide ((hspot (bestP (some (MapD.mk x.n x.times)) (wdriver x x_4) x.orders (oneP x.plan x_3) x_2 (100000 : Int)).fst).cost = (0 : Int)) && true)))) = !true →
  false = true)) ∧ (decide ((bestP (some (MapD.mk x.n x.times)) (wdriver x x_4) x.orders (oneP x.plan x_3) x_2 (100000 : Int)).snd = (0 : Int)) = !false → true = true))) ∧ ((!decide ((bestP (some (MapD.mk x.n x.times)) (wdriver x x_4)
  x.orders (oneP x.plan x_3) x_2 (100000 : Int)).snd = (0 : Int))) = !true → (decide ((↑(oneP x.plan x_3).stops.length : Int) > (10 : Int)) = true → (decide ((bestP (some (MapD.mk x.n x.times)) (wdriver x x_4) x.orders (oneP x.plan x_3) x_2
  (100000 : Int)).snd = (0 : Int)) = false → ((decide ((hspot (bestP (some (MapD.mk x.n x.times)) (wdriver x x_4) x.orders (oneP x.plan x_3) x_2 (100000 : Int)).fst).driver = (0 : Int)) && (decide ((hspot (bestP (some (MapD.mk x.n x.times))
  (wdriver x x_4) x.orders (oneP x.plan x_3) x_2 (100000 : Int)).fst).pick = (0 : Int)) && (decide ((hspot (bestP (some (MapD.mk x.n x.times)) (wdriver x x_4) x.orders (oneP x.plan x_3) x_2 (100000 : Int)).fst).drop = (0 : Int)) && (decide
  ((hspot (bestP (some (MapD.mk x.n x.times)) (wdriver x x_4) x.orders (oneP x.plan x_3) x_2 (100000 : Int)).fst).cost = (0 : Int)) && true)))) = true → true = true) ∧ ((decide ((hspot (bestP (some (MapD.mk x.n x.times)) (wdriver x x_4)
  x.orders (oneP x.plan x_3) x_2 (100000 : Int)).fst).driver = (0 : Int)) && (decide ((hspot (bestP (some (MapD.mk x.n x.times)) (wdriver x x_4) x.orders (oneP x.plan x_3) x_2 (100000 : Int)).fst).pick = (0 : Int)) && (decide ((hspot (bestP
  (some (MapD.mk x.n x.times)) (wdriver x x_4) x.orders (oneP x.plan x_3) x_2 (100000 : Int)).fst).drop = (0 : Int)) && (decide ((hspot (bestP (some (MapD.mk x.n x.times)) (wdriver x x_4) x.orders (oneP x.plan x_3) x_2 (100000 :
  Int)).fst).cost = (0 : Int)) && true)))) = !true → false = true)) ∧ (decide ((bestP (some (MapD.mk x.n x.times)) (wdriver x x_4) x.orders (oneP x.plan x_3) x_2 (100000 : Int)).snd = (0 : Int)) = !false → true = true)) ∧ (decide ((↑(oneP
  x.plan x_3).stops.length : Int) > (10 : Int)) = false → (((bestP (some (MapD.mk x.n x.times)) (wdriver x x_4) x.orders (oneP x.plan x_3) x_2 (100000 : Int)).fst.steps = (bestP (some (MapD.mk x.n x.times)) (wdriver x x_4) x.orders (oneP
  x.plan x_3) x_2 (100000 : Int)).fst.steps ∧ (bestP (some (MapD.mk x.n x.times)) (wdriver x x_4) x.orders (oneP x.plan x_3) x_2 (100000 : Int)).snd = (bestP (some (MapD.mk x.n x.times)) (wdriver x x_4) x.orders (oneP x.plan x_3) x_2 (100000
  : Int)).snd) ∧ (x.n = x.n ∧ (x_2.id = x_2.id ∧ x_2.size = x_2.size ∧ x_2.pp = x_2.pp ∧ x_2.pf = x_2.pf ∧ x_2.pt = x_2.pt ∧ x_2.ps = x_2.ps ∧ x_2.dp = x_2.dp ∧ x_2.df = x_2.df ∧ x_2.dt = x_2.dt ∧ x_2.ds = x_2.ds) ∧ x.n = x.n ∧ ((oneP x.plan
  x_3).driver = (oneP x.plan x_3).driver ∧ (oneP x.plan x_3).served = (oneP x.plan x_3).served) ∧ ((wdriver x x_4).id = (wdriver x x_4).id ∧ (wdriver x x_4).room = (wdriver x x_4).room ∧ (wdriver x x_4).home = (wdriver x x_4).home ∧ (wdriver
  x x_4).lo = (wdriver x x_4).lo ∧ (wdriver x x_4).hi = (wdriver x x_4).hi ∧ (wdriver x x_4).retired = (wdriver x x_4).retired) ∧ (hspot (bestP (some (MapD.mk x.n x.times)) (wdriver x x_4) x.orders (oneP x.plan x_3) x_2 (100000 :
  Int)).fst).driver = (hspot (bestP (some (MapD.mk x.n x.times)) (wdriver x x_4) x.orders (oneP x.plan x_3) x_2 (100000 : Int)).fst).driver ∧ (hspot (bestP (some (MapD.mk x.n x.times)) (wdriver x x_4) x.orders (oneP x.plan x_3) x_2 (100000 :
  Int)).fst).pick = (hspot (bestP (some (MapD.mk x.n x.times)) (wdriver x x_4) x.orders (oneP x.plan x_3) x_2 (100000 : Int)).fst).pick ∧ (hspot (bestP (some (MapD.mk x.n x.times)) (wdriver x x_4) x.orders (oneP x.plan x_3) x_2 (100000 :
  Int)).fst).drop = (hspot (bestP (some (MapD.mk x.n x.times)) (wdriver x x_4) x.orders (oneP x.plan x_3) x_2 (100000 : Int)).fst).drop ∧ (hspot (bestP (some (MapD.mk x.n x.times)) (wdriver x x_4) x.orders (oneP x.plan x_3) x_2 (100000 :
  Int)).fst).cost = (hspot (bestP (some (MapD.mk x.n x.times)) (wdriver x x_4) x.orders (oneP x.plan x_3) x_2 (100000 : Int)).fst).cost) ∧ (oneP x.plan x_3).stops = (oneP x.plan x_3).stops ∧ x.times = x.times ∧ x.plan = x.plan ∧ x.orders =
  x.orders ∧ x.drivers = x.drivers ∧ x.times = x.times) ∧ inv))) ∧ (inv → (∀ (x_9 : MapD), some (MapD.mk x.n x.times) = some x_9 → MapOk x_9) ∧ (True ∧ ((0 : Nat) + x.orders.length) * ((8 : Nat) * (10 : Nat)) ≤ (140737488355328 : Nat)) ∧
  (True ∧ (([] ++ x.orders).length + [x_2].length) * ((8 : Nat) * (10 : Nat)) ≤ (140737488355328 : Nat)) ∧ ∃ (inv : Int → Bool → Int → Prop), ∃ (μ : Int → Bool → Int → Nat), ((((bestP (some (MapD.mk x.n x.times)) (wdriver x x_4) x.orders
  (oneP x.plan x_3) x_2 (100000 : Int)).fst.steps = (bestP (some (MapD.mk x.n x.times)) (wdriver x x_4) x.orders (oneP x.plan x_3) x_2 (100000 : Int)).fst.steps ∧ (bestP (some (MapD.mk x.n x.times)) (wdriver x x_4) x.orders (oneP x.plan x_3)
  x_2 (100000 : Int)).snd = (bestP (some (MapD.mk x.n x.times)) (wdriver x x_4) x.orders (oneP x.plan x_3) x_2 (100000 : Int)).snd ∧ (cost (some (MapD.mk x.n x.times)) (wdriver x x_4) x.orders (oneP x.plan x_3).stops).fst = (cost (some
  (MapD.mk x.n x.times)) (wdriver x x_4) x.orders (oneP x.plan x_3).stops).fst ∧ (0 : Int) = (0 : Int) ∧ false = false ∧ (oneP x.plan x_3).served = (oneP x.plan x_3).served) ∧ (x.n = x.n ∧ (x_2.id = x_2.id ∧ x_2.size = x_2.size ∧ x_2.pp =
  x_2.pp ∧ x_2.pf = x_2.pf ∧ x_2.pt = x_2.pt ∧ x_2.ps = x_2.ps ∧ x_2.dp = x_2.dp ∧ x_2.df = x_2.df ∧ x_2.dt = x_2.dt ∧ x_2.ds = x_2.ds) ∧ x.n = x.n ∧ ((oneP x.plan x_3).driver = (oneP x.plan x_3).driver ∧ (oneP x.plan x_3).served = (oneP
  x.plan x_3).served) ∧ ((wdriver x x_4).id = (wdriver x x_4).id ∧ (wdriver x x_4).room = (wdriver x x_4).room ∧ (wdriver x x_4).home = (wdriver x x_4).home ∧ (wdriver x x_4).lo = (wdriver x x_4).lo ∧ (wdriver x x_4).hi = (wdriver x x_4).hi ∧
  (wdriver x x_4).retired = (wdriver x x_4).retired) ∧ (hspot (bestP (some (MapD.mk x.n x.times)) (wdriver x x_4) x.orders (oneP x.plan x_3) x_2 (100000 : Int)).fst).driver = (hspot (bestP (some (MapD.mk x.n x.times)) (wdriver x x_4) x.orders
  (oneP x.plan x_3) x_2 (100000 : Int)).fst).driver ∧ (hspot (bestP (some (MapD.mk x.n x.times)) (wdriver x x_4) x.orders (oneP x.plan x_3) x_2 (100000 : Int)).fst).pick = (hspot (bestP (some (MapD.mk x.n x.times)) (wdriver x x_4) x.orders
  (oneP x.plan x_3) x_2 (100000 : Int)).fst).pick ∧ (hspot (bestP (some (MapD.mk x.n x.times)) (wdriver x x_4) x.orders (oneP x.plan x_3) x_2 (100000 : Int)).fst).drop = (hspot (bestP (some (MapD.mk x.n x.times)) (wdriver x x_4) x.orders
  (oneP x.plan x_3) x_2 (100000 : Int)).fst).drop ∧ (hspot (bestP (some (MapD.mk x.n x.times)) (wdriver x x_4) x.orders (oneP x.plan x_3) x_2 (100000 : Int)).fst).cost = (hspot (bestP (some (MapD.mk x.n x.times)) (wdriver x x_4) x.orders
  (oneP x.plan x_3) x_2 (100000 : Int)).fst).cost) ∧ (oneP x.plan x_3).stops = (oneP x.plan x_3).stops ∧ x.times = x.times ∧ x.plan = x.plan ∧ x.orders = x.orders ∧ x.drivers = x.drivers ∧ x.times = x.times ∧ [] ++ x.orders ++ [x_2] = [] ++
  x.orders ++ [x_2]) ∧ inv (0 : Int) false (oneP x.plan x_3).served) ∧ ∀ (x_9 : Int) (x_10 : Bool) (x_11 : Int), inv x_9 x_10 x_11 → (decide (x_11 ≤ (↑(oneP x.plan x_3).stops.length : Int)) = true → ∃ (inv_1 : Int → Bool → Int → Prop), ∃ (μ_1
  : Int → Bool → Int → Nat), ((((bestP (some (MapD.mk x.n x.times)) (wdriver x x_4) x.orders (oneP x.plan x_3) x_2 (100000 : Int)).fst.steps = (bestP (some (MapD.mk x.n x.times)) (wdriver x x_4) x.orders (oneP x.plan x_3) x_2 (100000 :
  Int)).fst.steps ∧ (bestP (some (MapD.mk x.n x.times)) (wdriver x x_4) x.orders (oneP x.plan x_3) x_2 (100000 : Int)).snd = (bestP (some (MapD.mk x.n x.times)) (wdriver x x_4) x.orders (oneP x.plan x_3) x_2 (100000 : Int)).snd ∧ (cost (some
  (MapD.mk x.n x.times)) (wdriver x x_4) x.orders (oneP x.plan x_3).stops).fst = (cost (some (MapD.mk x.n x.times)) (wdriver x x_4) x.orders (oneP x.plan x_3).stops).fst ∧ x_9 = x_9 ∧ x_10 = x_10 ∧ x_11 = x_11 ∧ x_11 = x_11) ∧ (x.n = x.n ∧
  (x_2.id = x_2.id ∧ x_2.size = x_2.size ∧ x_2.pp = x_2.pp ∧ x_2.pf = x_2.pf ∧ x_2.pt = x_2.pt ∧ x_2.ps = x_2.ps ∧ x_2.dp = x_2.dp ∧ x_2.df = x_2.df ∧ x_2.dt = x_2.dt ∧ x_2.ds = x_2.ds) ∧ x.n = x.n ∧ ((oneP x.plan x_3).driver = (oneP x.plan
  x_3).driver ∧ (oneP x.plan x_3).served = (oneP x.plan x_3).served) ∧ ((wdriver x x_4).id = (wdriver x x_4).id ∧ (wdriver x x_4).room = (wdriver x x_4).room ∧ (wdriver x x_4).home = (wdriver x x_4).home ∧ (wdriver x x_4).lo = (wdriver x
  x_4).lo ∧ (wdriver x x_4).hi = (wdriver x x_4).hi ∧ (wdriver x x_4).retired = (wdriver x x_4).retired) ∧ (hspot (bestP (some (MapD.mk x.n x.times)) (wdriver x x_4) x.orders (oneP x.plan x_3) x_2 (100000 : Int)).fst).driver = (hspot (bestP
  (some (MapD.mk x.n x.times)) (wdriver x x_4) x.orders (oneP x.plan x_3) x_2 (100000 : Int)).fst).driver ∧ (hspot (bestP (some (MapD.mk x.n x.times)) (wdriver x x_4) x.orders (oneP x.plan x_3) x_2 (100000 : Int)).fst).pick = (hspot (bestP
  (some (MapD.mk x.n x.times)) (wdriver x x_4) x.orders (oneP x.plan x_3) x_2 (100000 : Int)).fst).pick ∧ (hspot (bestP (some (MapD.mk x.n x.times)) (wdriver x x_4) x.orders (oneP x.plan x_3) x_2 (100000 : Int)).fst).drop = (hspot (bestP
  (some (MapD.mk x.n x.times)) (wdriver x x_4) x.orders (oneP x.plan x_3) x_2 (100000 : Int)).fst).drop ∧ (hspot (bestP (some (MapD.mk x.n x.times)) (wdriver x x_4) x.orders (oneP x.plan x_3) x_2 (100000 : Int)).fst).cost = (hspot (bestP
  (some (MapD.mk x.n x.times)) (wdriver x x_4) x.orders (oneP x.plan x_3) x_2 (100000 : Int)).fst).cost) ∧ (oneP x.plan x_3).stops = (oneP x.plan x_3).stops ∧ x.times = x.times ∧ x.plan = x.plan ∧ x.orders = x.orders ∧ x.drivers = x.drivers ∧
  x.times = x.times ∧ [] ++ x.orders ++ [x_2] = [] ++ x.orders ++ [x_2]) ∧ inv_1 x_9 x_10 x_11) ∧ ∀ (x_14 : Int) (x_15 : Bool) (x_16 : Int), inv_1 x_14 x_15 x_16 → (decide (x_16 ≤ (↑(oneP x.plan x_3).stops.length : Int)) = true → ((∀ (x_19 :
  MapD), some (MapD.mk x.n x.times) = some x_19 → MapOk x_19) ∧ x.orders.length * (80 : Nat) ≤ (140737488351232 : Nat) ∧ (oneP x.plan x_3).stops.length * (16 : Nat) ≤ (140737488351232 : Nat)) ∧ ((!fits (some (MapD.mk x.n x.times)) (wdriver x
  x_4) x.orders (oneP x.plan x_3).stops x_2 x_11 x_16) = true → (((bestP (some (MapD.mk x.n x.times)) (wdriver x x_4) x.orders (oneP x.plan x_3) x_2 (100000 : Int)).fst.steps = (bestP (some (MapD.mk x.n x.times)) (wdriver x x_4) x.orders
  (oneP x.plan x_3) x_2 (100000 : Int)).fst.steps ∧ (bestP (some (MapD.mk x.n x.times)) (wdriver x x_4) x.orders (oneP x.plan x_3) x_2 (100000 : Int)).snd = (bestP (some (MapD.mk x.n x.times)) (wdriver x x_4) x.orders (oneP x.plan x_3) x_2
  (100000 : Int)).snd ∧ (cost (some (MapD.mk x.n x.times)) (wdriver x x_4) x.orders (oneP x.plan x_3).stops).fst = (cost (some (MapD.mk x.n x.times)) (wdriver x x_4) x.orders (oneP x.plan x_3).stops).fst ∧ wrap (x_14 + (1 : Int)) = wrap (x_14
  + (1 : Int)) ∧ x_15 = x_15 ∧ x_11 = x_11 ∧ wrap (x_16 + (1 : Int)) = wrap (x_16 + (1 : Int))) ∧ (x.n = x.n ∧ (x_2.id = x_2.id ∧ x_2.size = x_2.size ∧ x_2.pp = x_2.pp ∧ x_2.pf = x_2.pf ∧ x_2.pt = x_2.pt ∧ x_2.ps = x_2.ps ∧ x_2.dp = x_2.dp ∧
  x_2.df = x_2.df ∧ x_2.dt = x_2.dt ∧ x_2.ds = x_2.ds) ∧ x.n = x.n ∧ ((oneP x.plan x_3).driver = (oneP x.plan x_3).driver ∧ (oneP x.plan x_3).served = (oneP x.plan x_3).served) ∧ ((wdriver x x_4).id = (wdriver x x_4).id ∧ (wdriver x x_4).room
  = (wdriver x x_4).room ∧ (wdriver x x_4).home = (wdriver x x_4).home ∧ (wdriver x x_4).lo = (wdriver x x_4).lo ∧ (wdriver x x_4).hi = (wdriver x x_4).hi ∧ (wdriver x x_4).retired = (wdriver x x_4).retired) ∧ (hspot (bestP (some (MapD.mk x.n
  x.times)) (wdriver x x_4) x.orders (oneP x.plan x_3) x_2 (100000 : Int)).fst).driver = (hspot (bestP (some (MapD.mk x.n x.times)) (wdriver x x_4) x.orders (oneP x.plan x_3) x_2 (100000 : Int)).fst).driver ∧ (hspot (bestP (some (MapD.mk x.n
  x.times)) (wdriver x x_4) x.orders (oneP x.plan x_3) x_2 (100000 : Int)).fst).pick = (hspot (bestP (some (MapD.mk x.n x.times)) (wdriver x x_4) x.orders (oneP x.plan x_3) x_2 (100000 : Int)).fst).pick ∧ (hspot (bestP (some (MapD.mk x.n
  x.times)) (wdriver x x_4) x.orders (oneP x.plan x_3) x_2 (100000 : Int)).fst).drop = (hspot (bestP (some (MapD.mk x.n x.times)) (wdriver x x_4) x.orders (oneP x.plan x_3) x_2 (100000 : Int)).fst).drop ∧ (hspot (bestP (some (MapD.mk x.n
  x.times)) (wdriver x x_4) x.orders (oneP x.plan x_3) x_2 (100000 : Int)).fst).cost = (hspot (bestP (some (MapD.mk x.n x.times)) (wdriver x x_4) x.orders (oneP x.plan x_3) x_2 (100000 : Int)).fst).cost) ∧ (oneP x.plan x_3).stops = (oneP
  x.plan x_3).stops ∧ x.times = x.times ∧ x.plan = x.plan ∧ x.orders = x.orders ∧ x.drivers = x.drivers ∧ x.times = x.times ∧ [] ++ x.orders ++ [x_2] = [] ++ x.orders ++ [x_2]) ∧ inv_1 (wrap (x_14 + (1 : Int))) x_15 (wrap (x_16 + (1 : Int)))
  ∧ μ_1 (wrap (x_14 + (1 : Int))) x_15 (wrap (x_16 + (1 : Int))) < μ_1 x_14 x_15 x_16) ∧ ((!fits (some (MapD.mk x.n x.times)) (wdriver x x_4) x.orders (oneP x.plan x_3).stops x_2 x_11 x_16) = false → (oneP x.plan x_3).stops.length * (16 :
  Nat) ≤ (140737488351232 : Nat) ∧ (∀ (x_20 : MapD), some (MapD.mk x.n x.times) = some x_20 → MapOk x_20) ∧ (decide ((bestP (some (MapD.mk x.n x.times)) (wdriver x x_4) x.orders (oneP x.plan x_3) x_2 (100000 : Int)).snd = (0 : Int)) = true →
  (decide ((hspot (bestP (some (MapD.mk x.n x.times)) (wdriver x x_4) x.orders (oneP x.plan x_3) x_2 (100000 : Int)).fst).pick = x_11) = true → ((!(cost (some (MapD.mk x.n x.times)) (wdriver x x_4) ([] ++ x.orders ++ [x_2]) (putS (oneP x.plan
  x_3).stops x_2.id x_11 x_16)).snd) = false → ((!decide ((bestP (some (MapD.mk x.n x.times)) (wdriver x x_4) x.orders (oneP x.plan x_3) x_2 (100000 : Int)).snd = (0 : Int))) = false → (decide (wrap ((cost (some (MapD.mk x.n x.times))
  (wdriver x x_4) ([] ++ x.orders ++ [x_2]) (putS (oneP x.plan x_3).stops x_2.id x_11 x_16)).fst - (cost (some (MapD.mk x.n x.times)) (wdriver x x_4) x.orders (oneP x.plan x_3).stops).fst) < (hspot (bestP (some (MapD.mk x.n x.times)) (wdriver
  x x_4) x.orders (oneP x.plan x_3) x_2 (100000 : Int)).fst).cost) = false → (decide ((hspot (bestP (some (MapD.mk x.n x.times)) (wdriver x x_4) x.orders (oneP x.plan x_3) x_2 (100000 : Int)).fst).drop = x_16) = true → ((!decide (wrap ((cost
  (some (MapD.mk x.n x.times)) (wdriver x x_4) ([] ++ x.orders ++ [x_2]) (putS (oneP x.plan x_3).stops x_2.id x_11 x_16)).fst - (cost (some (MapD.mk x.n x.times)) (wdriver x x_4) x.orders (oneP x.plan x_3).stops).fst) = (hspot (bestP (some
  (MapD.mk x.n x.times)) (wdriver x x_4) x.orders (oneP x.plan x_3) x_2 (100000 : Int)).fst).cost)) = false → ((!x_15) = true → ((!decide ((hspot (bestP (some (MapD.mk x.n x.times)) (wdriver x x_4) x.orders (oneP x.plan x_3) x_2 (100000 :
  Int)).fst).drop = x_16)) = true → (decide (wrap ((cost (some (MapD.mk x.n x.times)) (wdriver x x_4) ([] ++ x.orders ++ [x_2]) (putS (oneP x.plan x_3).stops x_2.id x_11 x_16)).fst - (cost (some (MapD.mk x.n x.times)) (wdriver x x_4) x.orders
  (oneP x.plan x_3).stops).fst) = (hspot (bestP (some (MapD.mk x.n x.times)) (wdriver x x_4) x.orders (oneP x.plan x_3) x_2 (100000 : Int)).fst).cost) = true → false = true) ∧ (decide (wrap ((cost (some (MapD.mk x.n x.times)) (wdriver x x_4)
  ([] ++ x.orders ++ [x_2]) (putS (oneP x.plan x_3).stops x_2.id x_11 x_16)).fst - (cost (some (MapD.mk x.n x.times)) (wdriver x x_4) x.orders (oneP x.plan x_3).stops).fst) = (hspot (bestP (some (MapD.mk x.n x.times)) (wdriver x x_4) x.orders
  (oneP x.plan x_3) x_2 (100000 : Int)).fst).cost) = false → (x_15 = false → (((bestP (some (MapD.mk x.n x.times)) (wdriver x x_4) x.orders (oneP x.plan x_3) x_2 (100000 : Int)).fst.steps = (bestP (some (MapD.mk x.n x.times)) (wdriver x x_4)
  x.orders (oneP x.plan x_3) x_2 (100000 : Int)).fst.steps ∧ (bestP (some (MapD.mk x.n x.times)) (wdriver x x_4) x.orders (oneP x.plan x_3) x_2 (100000 : Int)).snd = (bestP (some (MapD.mk x.n x.times)) (wdriver x x_4) x.orders (oneP x.plan
  x_3) x_2 (100000 : Int)).snd ∧ (cost (some (MapD.mk x.n x.times)) (wdriver x x_4) x.orders (oneP x.plan x_3).stops).fst = (cost (some (MapD.mk x.n x.times)) (wdriver x x_4) x.orders (oneP x.plan x_3).stops).fst ∧ wrap (x_14 + (1 : Int)) =
  wrap (x_14 + (1 : Int)) ∧ decide ((hspot (bestP (some (MapD.mk x.n x.times)) (wdriver x x_4) x.orders (oneP x.plan x_3) x_2 (100000 : Int)).fst).drop = x_16) = decide ((hspot (bestP (some (MapD.mk x.n x.times)) (wdriver x x_4) x.orders
  (oneP x.plan x_3) x_2 (100000 : Int)).fst).drop = x_16) ∧ x_11 = x_11 ∧ wrap (x_16 + (1 : Int)) = wrap (x_16 + (1 : Int))) ∧ (x.n = x.n ∧ (x_2.id = x_2.id ∧ x_2.size = x_2.size ∧ x_2.pp = x_2.pp ∧ x_2.pf = x_2.pf ∧ x_2.pt = x_2.pt ∧ x_2.ps
  = x_2.ps ∧ x_2.dp = x_2.dp ∧ x_2.df = x_2.df ∧ x_2.dt = x_2.dt ∧ x_2.ds = x_2.ds) ∧ x.n = x.n ∧ ((oneP x.plan x_3).driver = (oneP x.plan x_3).driver ∧ (oneP x.plan x_3).served = (oneP x.plan x_3).served) ∧ ((wdriver x x_4).id = (wdriver x
  x_4).id ∧ (wdriver x x_4).room = (wdriver x x_4).room ∧ (wdriver x x_4).home = (wdriver x x_4).home ∧ (wdriver x x_4).lo = (wdriver x x_4).lo ∧ (wdriver x x_4).hi = (wdriver x x_4).hi ∧ (wdriver x x_4).retired = (wdriver x x_4).retired) ∧
  (hspot (bestP (some (MapD.mk x.n x.times)) (wdriver x x_4) x.orders (oneP x.plan x_3) x_2 (100000 : Int)).fst).driver = (hspot (bestP (some (MapD.mk x.n x.times)) (wdriver x x_4) x.orders (oneP x.plan x_3) x_2 (100000 : Int)).fst).driver ∧
  (hspot (bestP (some (MapD.mk x.n x.times)) (wdriver x x_4) x.orders (oneP x.plan x_3) x_2 (100000 : Int)).fst).pick = (hspot (bestP (some (MapD.mk x.n x.times)) (wdriver x x_4) x.orders (oneP x.plan x_3) x_2 (100000 : Int)).fst).pick ∧
  (hspot (bestP (some (MapD.mk x.n x.times)) (wdriver x x_4) x.orders (oneP x.plan x_3) x_2 (100000 : Int)).fst).drop = (hspot (bestP (some (MapD.mk x.n x.times)) (wdriver x x_4) x.orders (oneP x.plan x_3) x_2 (100000 : Int)).fst).drop ∧
  (hspot (bestP (some (MapD.mk x.n x.times)) (wdriver x x_4) x.orders (oneP x.plan x_3) x_2 (100000 : Int)).fst).cost = (hspot (bestP (some (MapD.mk x.n x.times)) (wdriver x x_4) x.orders (oneP x.plan x_3) x_2 (100000 : Int)).fst).cost) ∧
  (oneP x.plan x_3).stops = (oneP x.plan x_3).stops ∧ x.times = x.times ∧ x.plan = x.plan ∧ x.orders = x.orders ∧ x.drivers = x.drivers ∧ x.times = x.times ∧ [] ++ x.orders ++ [x_2] = [] ++ x.orders ++ [x_2]) ∧ inv_1 (wrap (x_14 + (1 : Int)))
  (decide ((hspot (bestP (some (MapD.mk x.n x.times)) (wdriver x x_4) x.orders (oneP x.plan x_3) x_2 (100000 : Int)).fst).drop = x_16)) (wrap (x_16 + (1 : Int))) ∧ μ_1 (wrap (x_14 + (1 : Int))) (decide ((hspot (bestP (some (MapD.mk x.n
  x.times)) (wdriver x x_4) x.orders (oneP x.plan x_3) x_2 (100000 : Int)).fst).drop = x_16)) (wrap (x_16 + (1 : Int))) < μ_1 x_14 x_15 x_16) ∧ (x_15 = !false → (((bestP (some (MapD.mk x.n x.times)) (wdriver x x_4) x.orders (oneP x.plan x_3)
  x_2 (100000 : Int)).fst.steps = (bestP (some (MapD.mk x.n x.times)) (wdriver x x_4) x.orders (oneP x.plan x_3) x_2 (100000 : Int)).fst.steps ∧ (bestP (some (MapD.mk x.n x.times)) (wdriver x x_4) x.orders (oneP x.plan x_3) x_2 (100000 :
  Int)).snd = (bestP (some (MapD.mk x.n x.times)) (wdriver x x_4) x.orders (oneP x.plan x_3) x_2 (100000 : Int)).snd ∧ (cost (some (MapD.mk x.n x.times)) (wdriver x x_4) x.orders (oneP x.plan x_3).stops).fst = (cost (some (MapD.mk x.n
  x.times)) (wdriver x x_4) x.orders (oneP x.plan x_3).stops).fst ∧ wrap (x_14 + (1 : Int)) = wrap (x_14 + (1 : Int)) ∧ true = true ∧ x_11 = x_11 ∧ wrap (x_16 + (1 : Int)) = wrap (x_16 + (1 : Int))) ∧ (x.n = x.n ∧ (x_2.id = x_2.id ∧ x_2.size
  = x_2.size ∧ x_2.pp = x_2.pp ∧ x_2.pf = x_2.pf ∧ x_2.pt = x_2.pt ∧ x_2.ps = x_2.ps ∧ x_2.dp = x_2.dp ∧ x_2.df = x_2.df ∧ x_2.dt = x_2.dt ∧ x_2.ds = x_2.ds) ∧ x.n = x.n ∧ ((oneP x.plan x_3).driver = (oneP x.plan x_3).driver ∧ (oneP x.plan
  x_3).served = (oneP x.plan x_3).served) ∧ ((wdriver x x_4).id = (wdriver x x_4).id ∧ (wdriver x x_4).room = (wdriver x x_4).room ∧ (wdriver x x_4).home = (wdriver x x_4).home ∧ (wdriver x x_4).lo = (wdriver x x_4).lo ∧ (wdriver x x_4).hi =
  (wdriver x x_4).hi ∧ (wdriver x x_4).retired = (wdriver x x_4).retired) ∧ (hspot (bestP (some (MapD.mk x.n x.times)) (wdriver x x_4) x.orders (oneP x.plan x_3) x_2 (100000 : Int)).fst).driver = (hspot (bestP (some (MapD.mk x.n x.times))
  (wdriver x x_4) x.orders (oneP x.plan x_3) x_2 (100000 : Int)).fst).driver ∧ (hspot (bestP (some (MapD.mk x.n x.times)) (wdriver x x_4) x.orders (oneP x.plan x_3) x_2 (100000 : Int)).fst).pick = (hspot (bestP (some (MapD.mk x.n x.times))
  (wdriver x x_4) x.orders (oneP x.plan x_3) x_2 (100000 : Int)).fst).pick ∧ (hspot (bestP (some (MapD.mk x.n x.times)) (wdriver x x_4) x.orders (oneP x.plan x_3) x_2 (100000 : Int)).fst).drop = (hspot (bestP (some (MapD.mk x.n x.times))
  (wdriver x x_4) x.orders (oneP x.plan x_3) x_2 (100000 : Int)).fst).drop ∧ (hspot (bestP (some (MapD.mk x.n x.times)) (wdriver x x_4) x.orders (oneP x.plan x_3) x_2 (100000 : Int)).fst).cost = (hspot (bestP (some (MapD.mk x.n x.times))
  (wdriver x x_4) x.orders (oneP x.plan x_3) x_2 (100000 : Int)).fst).cost) ∧ (oneP x.plan x_3).stops = (oneP x.plan x_3).stops ∧ x.times = x.times ∧ x.plan = x.plan ∧ x.orders = x.orders ∧ x.drivers = x.drivers ∧ x.times = x.times ∧ [] ++
  x.orders ++ [x_2] = [] ++ x.orders ++ [x_2]) ∧ inv_1 (wrap (x_14 + (1 : Int))) true (wrap (x_16 + (1 : Int))) ∧ μ_1 (wrap (x_14 + (1 : Int))) true (wrap (x_16 + (1 : Int))) < μ_1 x_14 x_15 x_16))) ∧ ((!decide ((hspot (bestP (some (MapD.mk
  x.n x.times)) (wdriver x x_4) x.orders (oneP x.plan x_3) x_2 (100000 : Int)).fst).drop = x_16)) = !true → (x_15 = false → (((bestP (some (MapD.mk x.n x.times)) (wdriver x x_4) x.orders (oneP x.plan x_3) x_2 (100000 : Int)).fst.steps =
  (bestP (some (MapD.mk x.n x.times)) (wdriver x x_4) x.orders (oneP x.plan x_3) x_2 (100000 : Int)).fst.steps ∧ (bestP (some (MapD.mk x.n x.times)) (wdriver x x_4) x.orders (oneP x.plan x_3) x_2 (100000 : Int)).snd = (bestP (some (MapD.mk
  x.n x.times)) (wdriver x x_4) x.orders (oneP x.plan x_3) x_2 (100000 : Int)).snd ∧ (cost (some (MapD.mk x.n x.times)) (wdriver x x_4) x.orders (oneP x.plan x_3).stops).fst = (cost (some (MapD.mk x.n x.times)) (wdriver x x_4) x.orders (oneP
  x.plan x_3).stops).fst ∧ wrap (x_14 + (1 : Int)) = wrap (x_14 + (1 : Int)) ∧ decide ((hspot (bestP (some (MapD.mk x.n x.times)) (wdriver x x_4) x.orders (oneP x.plan x_3) x_2 (100000 : Int)).fst).drop = x_16) = decide ((hspot (bestP (some
  (MapD.mk x.n x.times)) (wdriver x x_4) x.orders (oneP x.plan x_3) x_2 (100000 : Int)).fst).drop = x_16) ∧ x_11 = x_11 ∧ wrap (x_16 + (1 : Int)) = wrap (x_16 + (1 : Int))) ∧ (x.n = x.n ∧ (x_2.id = x_2.id ∧ x_2.size = x_2.size ∧ x_2.pp =
  x_2.pp ∧ x_2.pf = x_2.pf ∧ x_2.pt = x_2.pt ∧ x_2.ps = x_2.ps ∧ x_2.dp = x_2.dp ∧ x_2.df = x_2.df ∧ x_2.dt = x_2.dt ∧ x_2.ds = x_2.ds) ∧ x.n = x.n ∧ ((oneP x.plan x_3).driver = (oneP x.plan x_3).driver ∧ (oneP x.plan x_3).served = (oneP
  x.plan x_3).served) ∧ ((wdriver x x_4).id = (wdriver x x_4).id ∧ (wdriver x x_4).room = (wdriver x x_4).room ∧ (wdriver x x_4).home = (wdriver x x_4).home ∧ (wdriver x x_4).lo = (wdriver x x_4).lo ∧ (wdriver x x_4).hi = (wdriver x x_4).hi ∧
  (wdriver x x_4).retired = (wdriver x x_4).retired) ∧ (hspot (bestP (some (MapD.mk x.n x.times)) (wdriver x x_4) x.orders (oneP x.plan x_3) x_2 (100000 : Int)).fst).driver = (hspot (bestP (some (MapD.mk x.n x.times)) (wdriver x x_4) x.orders
  (oneP x.plan x_3) x_2 (100000 : Int)).fst).driver ∧ (hspot (bestP (some (MapD.mk x.n x.times)) (wdriver x x_4) x.orders (oneP x.plan x_3) x_2 (100000 : Int)).fst).pick = (hspot (bestP (some (MapD.mk x.n x.times)) (wdriver x x_4) x.orders
  (oneP x.plan x_3) x_2 (100000 : Int)).fst).pick ∧ (hspot (bestP (some (MapD.mk x.n x.times)) (wdriver x x_4) x.orders (oneP x.plan x_3) x_2 (100000 : Int)).fst).drop = (hspot (bestP (some (MapD.mk x.n x.times)) (wdriver x x_4) x.orders
  (oneP x.plan x_3) x_2 (100000 : Int)).fst).drop ∧ (hspot (bestP (some (MapD.mk x.n x.times)) (wdriver x x_4) x.orders (oneP x.plan x_3) x_2 (100000 : Int)).fst).cost = (hspot (bestP (some (MapD.mk x.n x.times)) (wdriver x x_4) x.orders
  (oneP x.plan x_3) x_2 (100000 : Int)).fst).cost) ∧ (oneP x.plan x_3).stops = (oneP x.plan x_3).stops ∧ x.times = x.times ∧ x.plan = x.plan ∧ x.orders = x.orders ∧ x.drivers = x.drivers ∧ x.times = x.times ∧ [] ++ x.orders ++ [x_2] = [] ++
  x.orders ++ [x_2]) ∧ inv_1 (wrap (x_14 + (1 : Int))) (decide ((hspot (bestP (some (MapD.mk x.n x.times)) (wdriver x x_4) x.orders (oneP x.plan x_3) x_2 (100000 : Int)).fst).drop = x_16)) (wrap (x_16 + (1 : Int))) ∧ μ_1 (wrap (x_14 + (1 :
  Int))) (decide ((hspot (bestP (some (MapD.mk x.n x.times)) (wdriver x x_4) x.orders (oneP x.plan x_3) x_2 (100000 : Int)).fst).drop = x_16)) (wrap (x_16 + (1 : Int))) < μ_1 x_14 x_15 x_16) ∧ (x_15 = !false → (((bestP (some (MapD.mk x.n
  x.times)) (wdriver x x_4) x.orders (oneP x.plan x_3) x_2 (100000 : Int)).fst.steps = (bestP (some (MapD.mk x.n x.times)) (wdriver x x_4) x.orders (oneP x.plan x_3) x_2 (100000 : Int)).fst.steps ∧ (bestP (some (MapD.mk x.n x.times)) (wdriver
  x x_4) x.orders (oneP x.plan x_3) x_2 (100000 : Int)).snd = (bestP (some (MapD.mk x.n x.times)) (wdriver x x_4) x.orders (oneP x.plan x_3) x_2 (100000 : Int)).snd ∧ (cost (some (MapD.mk x.n x.times)) (wdriver x x_4) x.orders (oneP x.plan
  x_3).stops).fst = (cost (some (MapD.mk x.n x.times)) (wdriver x x_4) x.orders (oneP x.plan x_3).stops).fst ∧ wrap (x_14 + (1 : Int)) = wrap (x_14 + (1 : Int)) ∧ true = true ∧ x_11 = x_11 ∧ wrap (x_16 + (1 : Int)) = wrap (x_16 + (1 : Int)))
  ∧ (x.n = x.n ∧ (x_2.id = x_2.id ∧ x_2.size = x_2.size ∧ x_2.pp = x_2.pp ∧ x_2.pf = x_2.pf ∧ x_2.pt = x_2.pt ∧ x_2.ps = x_2.ps ∧ x_2.dp = x_2.dp ∧ x_2.df = x_2.df ∧ x_2.dt = x_2.dt ∧ x_2.ds = x_2.ds) ∧ x.n = x.n ∧ ((oneP x.plan x_3).driver =
  (oneP x.plan x_3).driver ∧ (oneP x.plan x_3).served = (oneP x.plan x_3).served) ∧ ((wdriver x x_4).id = (wdriver x x_4).id ∧ (wdriver x x_4).room = (wdriver x x_4).room ∧ (wdriver x x_4).home = (wdriver x x_4).home ∧ (wdriver x x_4).lo =
  (wdriver x x_4).lo ∧ (wdriver x x_4).hi = (wdriver x x_4).hi ∧ (wdriver x x_4).retired = (wdriver x x_4).retired) ∧ (hspot (bestP (some (MapD.mk x.n x.times)) (wdriver x x_4) x.orders (oneP x.plan x_3) x_2 (100000 : Int)).fst).driver =
  (hspot (bestP (some (MapD.mk x.n x.times)) (wdriver x x_4) x.orders (oneP x.plan x_3) x_2 (100000 : Int)).fst).driver ∧ (hspot (bestP (some (MapD.mk x.n x.times)) (wdriver x x_4) x.orders (oneP x.plan x_3) x_2 (100000 : Int)).fst).pick =
  (hspot (bestP (some (MapD.mk x.n x.times)) (wdriver x x_4) x.orders (oneP x.plan x_3) x_2 (100000 : Int)).fst).pick ∧ (hspot (bestP (some (MapD.mk x.n x.times)) (wdriver x x_4) x.orders (oneP x.plan x_3) x_2 (100000 : Int)).fst).drop =
  (hspot (bestP (some (MapD.mk x.n x.times)) (wdriver x x_4) x.orders (oneP x.plan x_3) x_2 (100000 : Int)).fst).drop ∧ (hspot (bestP (some (MapD.mk x.n x.times)) (wdriver x x_4) x.orders (oneP x.plan x_3) x_2 (100000 : Int)).fst).cost =
  (hspot (bestP (some (MapD.mk x.n x.times)) (wdriver x x_4) x.orders (oneP x.plan x_3) x_2 (100000 : Int)).fst).cost) ∧ (oneP x.plan x_3).stops = (oneP x.plan x_3).stops ∧ x.times = x.times ∧ x.plan = x.plan ∧ x.orders = x.orders ∧ x.drivers
  = x.drivers ∧ x.times = x.times ∧ [] ++ x.orders ++ [x_2] = [] ++ x.orders ++ [x_2]) ∧ inv_1 (wrap (x_14 + (1 : Int))) true (wrap (x_16 + (1 : Int))) ∧ μ_1 (wrap (x_14 + (1 : Int))) true (wrap (x_16 + (1 : Int))) < μ_1 x_14 x_15 x_16))) ∧
  ((!x_15) = !true → (x_15 = false → (((bestP (some (MapD.mk x.n x.times)) (wdriver x x_4) x.orders (oneP x.plan x_3) x_2 (100000 : Int)).fst.steps = (bestP (some (MapD.mk x.n x.times)) (wdriver x x_4) x.orders (oneP x.plan x_3) x_2 (100000 :
  Int)).fst.steps ∧ (bestP (some (MapD.mk x.n x.times)) (wdriver x x_4) x.orders (oneP x.plan x_3) x_2 (100000 : Int)).snd = (bestP (some (MapD.mk x.n x.times)) (wdriver x x_4) x.orders (oneP x.plan x_3) x_2 (100000 : Int)).snd ∧ (cost (some
  (MapD.mk x.n x.times)) (wdriver x x_4) x.orders (oneP x.plan x_3).stops).fst = (cost (some (MapD.mk x.n x.times)) (wdriver x x_4) x.orders (oneP x.plan x_3).stops).fst ∧ wrap (x_14 + (1 : Int)) = wrap (x_14 + (1 : Int)) ∧ decide ((hspot
  (bestP (some (MapD.mk x.n x.times)) (wdriver x x_4) x.orders (oneP x.plan x_3) x_2 (100000 : Int)).fst).drop = x_16) = decide ((hspot (bestP (some (MapD.mk x.n x.times)) (wdriver x x_4) x.orders (oneP x.plan x_3) x_2 (100000 :
  Int)).fst).drop = x_16) ∧ x_11 = x_11 ∧ wrap (x_16 + (1 : Int)) = wrap (x_16 + (1 : Int))) ∧ (x.n = x.n ∧ (x_2.id = x_2.id ∧ x_2.size = x_2.size ∧ x_2.pp = x_2.pp ∧ x_2.pf = x_2.pf ∧ x_2.pt = x_2.pt ∧ x_2.ps = x_2.ps ∧ x_2.dp = x_2.dp ∧
  x_2.df = x_2.df ∧ x_2.dt = x_2.dt ∧ x_2.ds = x_2.ds) ∧ x.n = x.n ∧ ((oneP x.plan x_3).driver = (oneP x.plan x_3).driver ∧ (oneP x.plan x_3).served = (oneP x.plan x_3).served) ∧ ((wdriver x x_4).id = (wdriver x x_4).id ∧ (wdriver x x_4).room
  = (wdriver x x_4).room ∧ (wdriver x x_4).home = (wdriver x x_4).home ∧ (wdriver x x_4).lo = (wdriver x x_4).lo ∧ (wdriver x x_4).hi = (wdriver x x_4).hi ∧ (wdriver x x_4).retired = (wdriver x x_4).retired) ∧ (hspot (bestP (some (MapD.mk x.n
  x.times)) (wdriver x x_4) x.orders (oneP x.plan x_3) x_2 (100000 : Int)).fst).driver = (hspot (bestP (some (MapD.mk x.n x.times)) (wdriver x x_4) x.orders (oneP x.plan x_3) x_2 (100000 : Int)).fst).driver ∧ (hspot (bestP (some (MapD.mk x.n
  x.times)) (wdriver x x_4) x.orders (oneP x.plan x_3) x_2 (100000 : Int)).fst).pick = (hspot (bestP (some (MapD.mk x.n x.times)) (wdriver x x_4) x.orders (oneP x.plan x_3) x_2 (100000 : Int)).fst).pick ∧ (hspot (bestP (some (MapD.mk x.n
  x.times)) (wdriver x x_4) x.orders (oneP x.plan x_3) x_2 (100000 : Int)).fst).drop = (hspot (bestP (some (MapD.mk x.n x.times)) (wdriver x x_4) x.orders (oneP x.plan x_3) x_2 (100000 : Int)).fst).drop ∧ (hspot (bestP (some (MapD.mk x.n
  x.times)) (wdriver x x_4) x.orders (oneP x.plan x_3) x_2 (100000 : Int)).fst).cost = (hspot (bestP (some (MapD.mk x.n x.times)) (wdriver x x_4) x.orders (oneP x.plan x_3) x_2 (100000 : Int)).fst).cost) ∧ (oneP x.plan x_3).stops = (oneP
  x.plan x_3).stops ∧ x.times = x.times ∧ x.plan = x.plan ∧ x.orders = x.orders ∧ x.drivers = x.drivers ∧ x.times = x.times ∧ [] ++ x.orders ++ [x_2] = [] ++ x.orders ++ [x_2]) ∧ inv_1 (wrap (x_14 + (1 : Int))) (decide ((hspot (bestP (some
  (MapD.mk x.n x.times)) (wdriver x x_4) x.orders (oneP x.plan x_3) x_2 (100000 : Int)).fst).drop = x_16)) (wrap (x_16 + (1 : Int))) ∧ μ_1 (wrap (x_14 + (1 : Int))) (decide ((hspot (bestP (some (MapD.mk x.n x.times)) (wdriver x x_4) x.orders
  (oneP x.plan x_3) x_2 (100000 : Int)).fst).drop = x_16)) (wrap (x_16 + (1 : Int))) < μ_1 x_14 x_15 x_16) ∧ (x_15 = !false → (((bestP (some (MapD.mk x.n x.times)) (wdriver x x_4) x.orders (oneP x.plan x_3) x_2 (100000 : Int)).fst.steps =
  (bestP (some (MapD.mk x.n x.times)) (wdriver x x_4) x.orders (oneP x.plan x_3) x_2 (100000 : Int)).fst.steps ∧ (bestP (some (MapD.mk x.n x.times)) (wdriver x x_4) x.orders (oneP x.plan x_3) x_2 (100000 : Int)).snd = (bestP (some (MapD.mk
  x.n x.times)) (wdriver x x_4) x.orders (oneP x.plan x_3) x_2 (100000 : Int)).snd ∧ (cost (some (MapD.mk x.n x.times)) (wdriver x x_4) x.orders (oneP x.plan x_3).stops).fst = (cost (some (MapD.mk x.n x.times)) (wdriver x x_4) x.orders (oneP
  x.plan x_3).stops).fst ∧ wrap (x_14 + (1 : Int)) = wrap (x_14 + (1 : Int)) ∧ true = true ∧ x_11 = x_11 ∧ wrap (x_16 + (1 : Int)) = wrap (x_16 + (1 : Int))) ∧ (x.n = x.n ∧ (x_2.id = x_2.id ∧ x_2.size = x_2.size ∧ x_2.pp = x_2.pp ∧ x_2.pf =
  x_2.pf ∧ x_2.pt = x_2.pt ∧ x_2.ps = x_2.ps ∧ x_2.dp = x_2.dp ∧ x_2.df = x_2.df ∧ x_2.dt = x_2.dt ∧ x_2.ds = x_2.ds) ∧ x.n = x.n ∧ ((oneP x.plan x_3).driver = (oneP x.plan x_3).driver ∧ (oneP x.plan x_3).served = (oneP x.plan x_3).served) ∧
  ((wdriver x x_4).id = (wdriver x x_4).id ∧ (wdriver x x_4).room = (wdriver x x_4).room ∧ (wdriver x x_4).home = (wdriver x x_4).home ∧ (wdriver x x_4).lo = (wdriver x x_4).lo ∧ (wdriver x x_4).hi = (wdriver x x_4).hi ∧ (wdriver x
  x_4).retired = (wdriver x x_4).retired) ∧ (hspot (bestP (some (MapD.mk x.n x.times)) (wdriver x x_4) x.orders (oneP x.plan x_3) x_2 (100000 : Int)).fst).driver = (hspot (bestP (some (MapD.mk x.n x.times)) (wdriver x x_4) x.orders (oneP
  x.plan x_3) x_2 (100000 : Int)).fst).driver ∧ (hspot (bestP (some (MapD.mk x.n x.times)) (wdriver x x_4) x.orders (oneP x.plan x_3) x_2 (100000 : Int)).fst).pick = (hspot (bestP (some (MapD.mk x.n x.times)) (wdriver x x_4) x.orders (oneP
  x.plan x_3) x_2 (100000 : Int)).fst).pick ∧ (hspot (bestP (some (MapD.mk x.n x.times)) (wdriver x x_4) x.orders (oneP x.plan x_3) x_2 (100000 : Int)).fst).drop = (hspot (bestP (some (MapD.mk x.n x.times)) (wdriver x x_4) x.orders (oneP
  x.plan x_3) x_2 (100000 : Int)).fst).drop ∧ (hspot (bestP (some (MapD.mk x.n x.times)) (wdriver x x_4) x.orders (oneP x.plan x_3) x_2 (100000 : Int)).fst).cost = (hspot (bestP (some (MapD.mk x.n x.times)) (wdriver x x_4) x.orders (oneP
  x.plan x_3) x_2 (100000 : Int)).fst).cost) ∧ (oneP x.plan x_3).stops = (oneP x.plan x_3).stops ∧ x.times = x.times ∧ x.plan = x.plan ∧ x.orders = x.orders ∧ x.drivers = x.drivers ∧ x.times = x.times ∧ [] ++ x.orders ++ [x_2] = [] ++
  x.orders ++ [x_2]) ∧ inv_1 (wrap (x_14 + (1 : Int))) true (wrap (x_16 + (1 : Int))) ∧ μ_1 (wrap (x_14 + (1 : Int))) true (wrap (x_16 + (1 : Int))) < μ_1 x_14 x_15 x_16))) ∧ ((!decide (wrap ((cost (some (MapD.mk x.n x.times)) (wdriver x x_4)
  ([] ++ x.orders ++ [x_2]) (putS (oneP x.plan x_3).stops x_2.id x_11 x_16)).fst - (cost (some (MapD.mk x.n x.times)) (wdriver x x_4) x.orders (oneP x.plan x_3).stops).fst) = (hspot (bestP (some (MapD.mk x.n x.times)) (wdriver x x_4) x.orders
  (oneP x.plan x_3) x_2 (100000 : Int)).fst).cost)) = !false → false = true)) ∧ (decide ((hspot (bestP (some (MapD.mk x.n x.times)) (wdriver x x_4) x.orders (oneP x.plan x_3) x_2 (100000 : Int)).fst).drop = x_16) = !true → ((!x_15) = true →
  ((!decide ((hspot (bestP (some (MapD.mk x.n x.times)) (wdriver x x_4) x.orders (oneP x.plan x_3) x_2 (100000 : Int)).fst).drop = x_16)) = true → (decide (wrap ((cost (some (MapD.mk x.n x.times)) (wdriver x x_4) ([] ++ x.orders ++ [x_2])
  (putS (oneP x.plan x_3).stops x_2.id x_11 x_16)).fst - (cost (some (MapD.mk x.n x.times)) (wdriver x x_4) x.orders (oneP x.plan x_3).stops).fst) = (hspot (bestP (some (MapD.mk x.n x.times)) (wdriver x x_4) x.orders (oneP x.plan x_3) x_2
  (100000 : Int)).fst).cost) = true → false = true) ∧ (decide (wrap ((cost (some (MapD.mk x.n x.times)) (wdriver x x_4) ([] ++ x.orders ++ [x_2]) (putS (oneP x.plan x_3).stops x_2.id x_11 x_16)).fst - (cost (some (MapD.mk x.n x.times))
  (wdriver x x_4) x.orders (oneP x.plan x_3).stops).fst) = (hspot (bestP (some (MapD.mk x.n x.times)) (wdriver x x_4) x.orders (oneP x.plan x_3) x_2 (100000 : Int)).fst).cost) = false → (x_15 = false → (((bestP (some (MapD.mk x.n x.times))
  (wdriver x x_4) x.orders (oneP x.plan x_3) x_2 (100000 : Int)).fst.steps = (bestP (some (MapD.mk x.n x.times)) (wdriver x x_4) x.orders (oneP x.plan x_3) x_2 (100000 : Int)).fst.steps ∧ (bestP (some (MapD.mk x.n x.times)) (wdriver x x_4)
  x.orders (oneP x.plan x_3) x_2 (100000 : Int)).snd = (bestP (some (MapD.mk x.n x.times)) (wdriver x x_4) x.orders (oneP x.plan x_3) x_2 (100000 : Int)).snd ∧ (cost (some (MapD.mk x.n x.times)) (wdriver x x_4) x.orders (oneP x.plan
  x_3).stops).fst = (cost (some (MapD.mk x.n x.times)) (wdriver x x_4) x.orders (oneP x.plan x_3).stops).fst ∧ wrap (x_14 + (1 : Int)) = wrap (x_14 + (1 : Int)) ∧ decide ((hspot (bestP (some (MapD.mk x.n x.times)) (wdriver x x_4) x.orders
  (oneP x.plan x_3) x_2 (100000 : Int)).fst).drop = x_16) = decide ((hspot (bestP (some (MapD.mk x.n x.times)) (wdriver x x_4) x.orders (oneP x.plan x_3) x_2 (100000 : Int)).fst).drop = x_16) ∧ x_11 = x_11 ∧ wrap (x_16 + (1 : Int)) = wrap
  (x_16 + (1 : Int))) ∧ (x.n = x.n ∧ (x_2.id = x_2.id ∧ x_2.size = x_2.size ∧ x_2.pp = x_2.pp ∧ x_2.pf = x_2.pf ∧ x_2.pt = x_2.pt ∧ x_2.ps = x_2.ps ∧ x_2.dp = x_2.dp ∧ x_2.df = x_2.df ∧ x_2.dt = x_2.dt ∧ x_2.ds = x_2.ds) ∧ x.n = x.n ∧ ((oneP
  x.plan x_3).driver = (oneP x.plan x_3).driver ∧ (oneP x.plan x_3).served = (oneP x.plan x_3).served) ∧ ((wdriver x x_4).id = (wdriver x x_4).id ∧ (wdriver x x_4).room = (wdriver x x_4).room ∧ (wdriver x x_4).home = (wdriver x x_4).home ∧
  (wdriver x x_4).lo = (wdriver x x_4).lo ∧ (wdriver x x_4).hi = (wdriver x x_4).hi ∧ (wdriver x x_4).retired = (wdriver x x_4).retired) ∧ (hspot (bestP (some (MapD.mk x.n x.times)) (wdriver x x_4) x.orders (oneP x.plan x_3) x_2 (100000 :
  Int)).fst).driver = (hspot (bestP (some (MapD.mk x.n x.times)) (wdriver x x_4) x.orders (oneP x.plan x_3) x_2 (100000 : Int)).fst).driver ∧ (hspot (bestP (some (MapD.mk x.n x.times)) (wdriver x x_4) x.orders (oneP x.plan x_3) x_2 (100000 :
  Int)).fst).pick = (hspot (bestP (some (MapD.mk x.n x.times)) (wdriver x x_4) x.orders (oneP x.plan x_3) x_2 (100000 : Int)).fst).pick ∧ (hspot (bestP (some (MapD.mk x.n x.times)) (wdriver x x_4) x.orders (oneP x.plan x_3) x_2 (100000 :
  Int)).fst).drop = (hspot (bestP (some (MapD.mk x.n x.times)) (wdriver x x_4) x.orders (oneP x.plan x_3) x_2 (100000 : Int)).fst).drop ∧ (hspot (bestP (some (MapD.mk x.n x.times)) (wdriver x x_4) x.orders (oneP x.plan x_3) x_2 (100000 :
  Int)).fst).cost = (hspot (bestP (some (MapD.mk x.n x.times)) (wdriver x x_4) x.orders (oneP x.plan x_3) x_2 (100000 : Int)).fst).cost) ∧ (oneP x.plan x_3).stops = (oneP x.plan x_3).stops ∧ x.times = x.times ∧ x.plan = x.plan ∧ x.orders =
  x.orders ∧ x.drivers = x.drivers ∧ x.times = x.times ∧ [] ++ x.orders ++ [x_2] = [] ++ x.orders ++ [x_2]) ∧ inv_1 (wrap (x_14 + (1 : Int))) (decide ((hspot (bestP (some (MapD.mk x.n x.times)) (wdriver x x_4) x.orders (oneP x.plan x_3) x_2
  (100000 : Int)).fst).drop = x_16)) (wrap (x_16 + (1 : Int))) ∧ μ_1 (wrap (x_14 + (1 : Int))) (decide ((hspot (bestP (some (MapD.mk x.n x.times)) (wdriver x x_4) x.orders (oneP x.plan x_3) x_2 (100000 : Int)).fst).drop = x_16)) (wrap (x_16 +
  (1 : Int))) < μ_1 x_14 x_15 x_16) ∧ (x_15 = !false → (((bestP (some (MapD.mk x.n x.times)) (wdriver x x_4) x.orders (oneP x.plan x_3) x_2 (100000 : Int)).fst.steps = (bestP (some (MapD.mk x.n x.times)) (wdriver x x_4) x.orders (oneP x.plan
  x_3) x_2 (100000 : Int)).fst.steps ∧ (bestP (some (MapD.mk x.n x.times)) (wdriver x x_4) x.orders (oneP x.plan x_3) x_2 (100000 : Int)).snd = (bestP (some (MapD.mk x.n x.times)) (wdriver x x_4) x.orders (oneP x.plan x_3) x_2 (100000 :
  Int)).snd ∧ (cost (some (MapD.mk x.n x.times)) (wdriver x x_4) x.orders (oneP x.plan x_3).stops).fst = (cost (some (MapD.mk x.n x.times)) (wdriver x x_4) x.orders (oneP x.plan x_3).stops).fst ∧ wrap (x_14 + (1 : Int)) = wrap (x_14 + (1 :
  Int)) ∧ true = true ∧ x_11 = x_11 ∧ wrap (x_16 + (1 : Int)) = wrap (x_16 + (1 : Int))) ∧ (x.n = x.n ∧ (x_2.id = x_2.id ∧ x_2.size = x_2.size ∧ x_2.pp = x_2.pp ∧ x_2.pf = x_2.pf ∧ x_2.pt = x_2.pt ∧ x_2.ps = x_2.ps ∧ x_2.dp = x_2.dp ∧ x_2.df
  = x_2.df ∧ x_2.dt = x_2.dt ∧ x_2.ds = x_2.ds) ∧ x.n = x.n ∧ ((oneP x.plan x_3).driver = (oneP x.plan x_3).driver ∧ (oneP x.plan x_3).served = (oneP x.plan x_3).served) ∧ ((wdriver x x_4).id = (wdriver x x_4).id ∧ (wdriver x x_4).room =
  (wdriver x x_4).room ∧ (wdriver x x_4).home = (wdriver x x_4).home ∧ (wdriver x x_4).lo = (wdriver x x_4).lo ∧ (wdriver x x_4).hi = (wdriver x x_4).hi ∧ (wdriver x x_4).retired = (wdriver x x_4).retired) ∧ (hspot (bestP (some (MapD.mk x.n
  x.times)) (wdriver x x_4) x.orders (oneP x.plan x_3) x_2 (100000 : Int)).fst).driver = (hspot (bestP (some (MapD.mk x.n x.times)) (wdriver x x_4) x.orders (oneP x.plan x_3) x_2 (100000 : Int)).fst).driver ∧ (hspot (bestP (some (MapD.mk x.n
  x.times)) (wdriver x x_4) x.orders (oneP x.plan x_3) x_2 (100000 : Int)).fst).pick = (hspot (bestP (some (MapD.mk x.n x.times)) (wdriver x x_4) x.orders (oneP x.plan x_3) x_2 (100000 : Int)).fst).pick ∧ (hspot (bestP (some (MapD.mk x.n
  x.times)) (wdriver x x_4) x.orders (oneP x.plan x_3) x_2 (100000 : Int)).fst).drop = (hspot (bestP (some (MapD.mk x.n x.times)) (wdriver x x_4) x.orders (oneP x.plan x_3) x_2 (100000 : Int)).fst).drop ∧ (hspot (bestP (some (MapD.mk x.n
  x.times)) (wdriver x x_4) x.orders (oneP x.plan x_3) x_2 (100000 : Int)).fst).cost = (hspot (bestP (some (MapD.mk x.n x.times)) (wdriver x x_4) x.orders (oneP x.plan x_3) x_2 (100000 : Int)).fst).cost) ∧ (oneP x.plan x_3).stops = (oneP
  x.plan x_3).stops ∧ x.times = x.times ∧ x.plan = x.plan ∧ x.orders = x.orders ∧ x.drivers = x.drivers ∧ x.times = x.times ∧ [] ++ x.orders ++ [x_2] = [] ++ x.orders ++ [x_2]) ∧ inv_1 (wrap (x_14 + (1 : Int))) true (wrap (x_16 + (1 : Int)))
  ∧ μ_1 (wrap (x_14 + (1 : Int))) true (wrap (x_16 + (1 : Int))) < μ_1 x_14 x_15 x_16))) ∧ ((!decide ((hspot (bestP (some (MapD.mk x.n x.times)) (wdriver x x_4) x.orders (oneP x.plan x_3) x_2 (100000 : Int)).fst).drop = x_16)) = !true → (x_15
  = false → (((bestP (some (MapD.mk x.n x.times)) (wdriver x x_4) x.orders (oneP x.plan x_3) x_2 (100000 : Int)).fst.steps = (bestP (some (MapD.mk x.n x.times)) (wdriver x x_4) x.orders (oneP x.plan x_3) x_2 (100000 : Int)).fst.steps ∧ (bestP
  (some (MapD.mk x.n x.times)) (wdriver x x_4) x.orders (oneP x.plan x_3) x_2 (100000 : Int)).snd = (bestP (some (MapD.mk x.n x.times)) (wdriver x x_4) x.orders (oneP x.plan x_3) x_2 (100000 : Int)).snd ∧ (cost (some (MapD.mk x.n x.times))
  (wdriver x x_4) x.orders (oneP x.plan x_3).stops).fst = (cost (some (MapD.mk x.n x.times)) (wdriver x x_4) x.orders (oneP x.plan x_3).stops).fst ∧ wrap (x_14 + (1 : Int)) = wrap (x_14 + (1 : Int)) ∧ decide ((hspot (bestP (some (MapD.mk x.n
  x.times)) (wdriver x x_4) x.orders (oneP x.plan x_3) x_2 (100000 : Int)).fst).drop = x_16) = decide ((hspot (bestP (some (MapD.mk x.n x.times)) (wdriver x x_4) x.orders (oneP x.plan x_3) x_2 (100000 : Int)).fst).drop = x_16) ∧ x_11 = x_11 ∧
  wrap (x_16 + (1 : Int)) = wrap (x_16 + (1 : Int))) ∧ (x.n = x.n ∧ (x_2.id = x_2.id ∧ x_2.size = x_2.size ∧ x_2.pp = x_2.pp ∧ x_2.pf = x_2.pf ∧ x_2.pt = x_2.pt ∧ x_2.ps = x_2.ps ∧ x_2.dp = x_2.dp ∧ x_2.df = x_2.df ∧ x_2.dt = x_2.dt ∧ x_2.ds
  = x_2.ds) ∧ x.n = x.n ∧ ((oneP x.plan x_3).driver = (oneP x.plan x_3).driver ∧ (oneP x.plan x_3).served = (oneP x.plan x_3).served) ∧ ((wdriver x x_4).id = (wdriver x x_4).id ∧ (wdriver x x_4).room = (wdriver x x_4).room ∧ (wdriver x
  x_4).home = (wdriver x x_4).home ∧ (wdriver x x_4).lo = (wdriver x x_4).lo ∧ (wdriver x x_4).hi = (wdriver x x_4).hi ∧ (wdriver x x_4).retired = (wdriver x x_4).retired) ∧ (hspot (bestP (some (MapD.mk x.n x.times)) (wdriver x x_4) x.orders
  (oneP x.plan x_3) x_2 (100000 : Int)).fst).driver = (hspot (bestP (some (MapD.mk x.n x.times)) (wdriver x x_4) x.orders (oneP x.plan x_3) x_2 (100000 : Int)).fst).driver ∧ (hspot (bestP (some (MapD.mk x.n x.times)) (wdriver x x_4) x.orders
  (oneP x.plan x_3) x_2 (100000 : Int)).fst).pick = (hspot (bestP (some (MapD.mk x.n x.times)) (wdriver x x_4) x.orders (oneP x.plan x_3) x_2 (100000 : Int)).fst).pick ∧ (hspot (bestP (some (MapD.mk x.n x.times)) (wdriver x x_4) x.orders
  (oneP x.plan x_3) x_2 (100000 : Int)).fst).drop = (hspot (bestP (some (MapD.mk x.n x.times)) (wdriver x x_4) x.orders (oneP x.plan x_3) x_2 (100000 : Int)).fst).drop ∧ (hspot (bestP (some (MapD.mk x.n x.times)) (wdriver x x_4) x.orders
  (oneP x.plan x_3) x_2 (100000 : Int)).fst).cost = (hspot (bestP (some (MapD.mk x.n x.times)) (wdriver x x_4) x.orders (oneP x.plan x_3) x_2 (100000 : Int)).fst).cost) ∧ (oneP x.plan x_3).stops = (oneP x.plan x_3).stops ∧ x.times = x.times ∧
  x.plan = x.plan ∧ x.orders = x.orders ∧ x.drivers = x.drivers ∧ x.times = x.times ∧ [] ++ x.orders ++ [x_2] = [] ++ x.orders ++ [x_2]) ∧ inv_1 (wrap (x_14 + (1 : Int))) (decide ((hspot (bestP (some (MapD.mk x.n x.times)) (wdriver x x_4)
  x.orders (oneP x.plan x_3) x_2 (100000 : Int)).fst).drop = x_16)) (wrap (x_16 + (1 : Int))) ∧ μ_1 (wrap (x_14 + (1 : Int))) (decide ((hspot (bestP (some (MapD.mk x.n x.times)) (wdriver x x_4) x.orders (oneP x.plan x_3) x_2 (100000 :
  Int)).fst).drop = x_16)) (wrap (x_16 + (1 : Int))) < μ_1 x_14 x_15 x_16) ∧ (x_15 = !false → (((bestP (some (MapD.mk x.n x.times)) (wdriver x x_4) x.orders (oneP x.plan x_3) x_2 (100000 : Int)).fst.steps = (bestP (some (MapD.mk x.n x.times))
  (wdriver x x_4) x.orders (oneP x.plan x_3) x_2 (100000 : Int)).fst.steps ∧ (bestP (some (MapD.mk x.n x.times)) (wdriver x x_4) x.orders (oneP x.plan x_3) x_2 (100000 : Int)).snd = (bestP (some (MapD.mk x.n x.times)) (wdriver x x_4) x.orders
  (oneP x.plan x_3) x_2 (100000 : Int)).snd ∧ (cost (some (MapD.mk x.n x.times)) (wdriver x x_4) x.orders (oneP x.plan x_3).stops).fst = (cost (some (MapD.mk x.n x.times)) (wdriver x x_4) x.orders (oneP x.plan x_3).stops).fst ∧ wrap (x_14 +
  (1 : Int)) = wrap (x_14 + (1 : Int)) ∧ true = true ∧ x_11 = x_11 ∧ wrap (x_16 + (1 : Int)) = wrap (x_16 + (1 : Int))) ∧ (x.n = x.n ∧ (x_2.id = x_2.id ∧ x_2.size = x_2.size ∧ x_2.pp = x_2.pp ∧ x_2.pf = x_2.pf ∧ x_2.pt = x_2.pt ∧ x_2.ps =
  x_2.ps ∧ x_2.dp = x_2.dp ∧ x_2.df = x_2.df ∧ x_2.dt = x_2.dt ∧ x_2.ds = x_2.ds) ∧ x.n = x.n ∧ ((oneP x.plan x_3).driver = (oneP x.plan x_3).driver ∧ (oneP x.plan x_3).served = (oneP x.plan x_3).served) ∧ ((wdriver x x_4).id = (wdriver x
  x_4).id ∧ (wdriver x x_4).room = (wdriver x x_4).room ∧ (wdriver x x_4).home = (wdriver x x_4).home ∧ (wdriver x x_4).lo = (wdriver x x_4).lo ∧ (wdriver x x_4).hi = (wdriver x x_4).hi ∧ (wdriver x x_4).retired = (wdriver x x_4).retired) ∧
  (hspot (bestP (some (MapD.mk x.n x.times)) (wdriver x x_4) x.orders (oneP x.plan x_3) x_2 (100000 : Int)).fst).driver = (hspot (bestP (some (MapD.mk x.n x.times)) (wdriver x x_4) x.orders (oneP x.plan x_3) x_2 (100000 : Int)).fst).driver ∧
  (hspot (bestP (some (MapD.mk x.n x.times)) (wdriver x x_4) x.orders (oneP x.plan x_3) x_2 (100000 : Int)).fst).pick = (hspot (bestP (some (MapD.mk x.n x.times)) (wdriver x x_4) x.orders (oneP x.plan x_3) x_2 (100000 : Int)).fst).pick ∧
  (hspot (bestP (some (MapD.mk x.n x.times)) (wdriver x x_4) x.orders (oneP x.plan x_3) x_2 (100000 : Int)).fst).drop = (hspot (bestP (some (MapD.mk x.n x.times)) (wdriver x x_4) x.orders (oneP x.plan x_3) x_2 (100000 : Int)).fst).drop ∧
  (hspot (bestP (some (MapD.mk x.n x.times)) (wdriver x x_4) x.orders (oneP x.plan x_3) x_2 (100000 : Int)).fst).cost = (hspot (bestP (some (MapD.mk x.n x.times)) (wdriver x x_4) x.orders (oneP x.plan x_3) x_2 (100000 : Int)).fst).cost) ∧
  (oneP x.plan x_3).stops = (oneP x.plan x_3).stops ∧ x.times = x.times ∧ x.plan = x.plan ∧ x.orders = x.orders ∧ x.drivers = x.drivers ∧ x.times = x.times ∧ [] ++ x.orders ++ [x_2] = [] ++ x.orders ++ [x_2]) ∧ inv_1 (wrap (x_14 + (1 : Int)))
  true (wrap (x_16 + (1 : Int))) ∧ μ_1 (wrap (x_14 + (1 : Int))) true (wrap (x_16 + (1 : Int))) < μ_1 x_14 x_15 x_16))) ∧ ((!x_15) = !true → (x_15 = false → (((bestP (some (MapD.mk x.n x.times)) (wdriver x x_4) x.orders (oneP x.plan x_3) x_2
  (100000 : Int)).fst.steps = (bestP (some (MapD.mk x.n x.times)) (wdriver x x_4) x.orders (oneP x.plan x_3) x_2 (100000 : Int)).fst.steps ∧ (bestP (some (MapD.mk x.n x.times)) (wdriver x x_4) x.orders (oneP x.plan x_3) x_2 (100000 :
  Int)).snd = (bestP (some (MapD.mk x.n x.times)) (wdriver x x_4) x.orders (oneP x.plan x_3) x_2 (100000 : Int)).snd ∧ (cost (some (MapD.mk x.n x.times)) (wdriver x x_4) x.orders (oneP x.plan x_3).stops).fst = (cost (some (MapD.mk x.n
  x.times)) (wdriver x x_4) x.orders (oneP x.plan x_3).stops).fst ∧ wrap (x_14 + (1 : Int)) = wrap (x_14 + (1 : Int)) ∧ decide ((hspot (bestP (some (MapD.mk x.n x.times)) (wdriver x x_4) x.orders (oneP x.plan x_3) x_2 (100000 :
  Int)).fst).drop = x_16) = decide ((hspot (bestP (some (MapD.mk x.n x.times)) (wdriver x x_4) x.orders (oneP x.plan x_3) x_2 (100000 : Int)).fst).drop = x_16) ∧ x_11 = x_11 ∧ wrap (x_16 + (1 : Int)) = wrap (x_16 + (1 : Int))) ∧ (x.n = x.n ∧
  (x_2.id = x_2.id ∧ x_2.size = x_2.size ∧ x_2.pp = x_2.pp ∧ x_2.pf = x_2.pf ∧ x_2.pt = x_2.pt ∧ x_2.ps = x_2.ps ∧ x_2.dp = x_2.dp ∧ x_2.df = x_2.df ∧ x_2.dt = x_2.dt ∧ x_2.ds = x_2.ds) ∧ x.n = x.n ∧ ((oneP x.plan x_3).driver = (oneP x.plan
  x_3).driver ∧ (oneP x.plan x_3).served = (oneP x.plan x_3).served) ∧ ((wdriver x x_4).id = (wdriver x x_4).id ∧ (wdriver x x_4).room = (wdriver x x_4).room ∧ (wdriver x x_4).home = (wdriver x x_4).home ∧ (wdriver x x_4).lo = (wdriver x
  x_4).lo ∧ (wdriver x x_4).hi = (wdriver x x_4).hi ∧ (wdriver x x_4).retired = (wdriver x x_4).retired) ∧ (hspot (bestP (some (MapD.mk x.n x.times)) (wdriver x x_4) x.orders (oneP x.plan x_3) x_2 (100000 : Int)).fst).driver = (hspot (bestP
  (some (MapD.mk x.n x.times)) (wdriver x x_4) x.orders (oneP x.plan x_3) x_2 (100000 : Int)).fst).driver ∧ (hspot (bestP (some (MapD.mk x.n x.times)) (wdriver x x_4) x.orders (oneP x.plan x_3) x_2 (100000 : Int)).fst).pick = (hspot (bestP
  (some (MapD.mk x.n x.times)) (wdriver x x_4) x.orders (oneP x.plan x_3) x_2 (100000 : Int)).fst).pick ∧ (hspot (bestP (some (MapD.mk x.n x.times)) (wdriver x x_4) x.orders (oneP x.plan x_3) x_2 (100000 : Int)).fst).drop = (hspot (bestP
  (some (MapD.mk x.n x.times)) (wdriver x x_4) x.orders (oneP x.plan x_3) x_2 (100000 : Int)).fst).drop ∧ (hspot (bestP (some (MapD.mk x.n x.times)) (wdriver x x_4) x.orders (oneP x.plan x_3) x_2 (100000 : Int)).fst).cost = (hspot (bestP
  (some (MapD.mk x.n x.times)) (wdriver x x_4) x.orders (oneP x.plan x_3) x_2 (100000 : Int)).fst).cost) ∧ (oneP x.plan x_3).stops = (oneP x.plan x_3).stops ∧ x.times = x.times ∧ x.plan = x.plan ∧ x.orders = x.orders ∧ x.drivers = x.drivers ∧
  x.times = x.times ∧ [] ++ x.orders ++ [x_2] = [] ++ x.orders ++ [x_2]) ∧ inv_1 (wrap (x_14 + (1 : Int))) (decide ((hspot (bestP (some (MapD.mk x.n x.times)) (wdriver x x_4) x.orders (oneP x.plan x_3) x_2 (100000 : Int)).fst).drop = x_16))
  (wrap (x_16 + (1 : Int))) ∧ μ_1 (wrap (x_14 + (1 : Int))) (decide ((hspot (bestP (some (MapD.mk x.n x.times)) (wdriver x x_4) x.orders (oneP x.plan x_3) x_2 (100000 : Int)).fst).drop = x_16)) (wrap (x_16 + (1 : Int))) < μ_1 x_14 x_15 x_16)
  ∧ (x_15 = !false → (((bestP (some (MapD.mk x.n x.times)) (wdriver x x_4) x.orders (oneP x.plan x_3) x_2 (100000 : Int)).fst.steps = (bestP (some (MapD.mk x.n x.times)) (wdriver x x_4) x.orders (oneP x.plan x_3) x_2 (100000 : Int)).fst.steps
  ∧ (bestP (some (MapD.mk x.n x.times)) (wdriver x x_4) x.orders (oneP x.plan x_3) x_2 (100000 : Int)).snd = (bestP (some (MapD.mk x.n x.times)) (wdriver x x_4) x.orders (oneP x.plan x_3) x_2 (100000 : Int)).snd ∧ (cost (some (MapD.mk x.n
  x.times)) (wdriver x x_4) x.orders (oneP x.plan x_3).stops).fst = (cost (some (MapD.mk x.n x.times)) (wdriver x x_4) x.orders (oneP x.plan x_3).stops).fst ∧ wrap (x_14 + (1 : Int)) = wrap (x_14 + (1 : Int)) ∧ true = true ∧ x_11 = x_11 ∧
  wrap (x_16 + (1 : Int)) = wrap (x_16 + (1 : Int))) ∧ (x.n = x.n ∧ (x_2.id = x_2.id ∧ x_2.size = x_2.size ∧ x_2.pp = x_2.pp ∧ x_2.pf = x_2.pf ∧ x_2.pt = x_2.pt ∧ x_2.ps = x_2.ps ∧ x_2.dp = x_2.dp ∧ x_2.df = x_2.df ∧ x_2.dt = x_2.dt ∧ x_2.ds
  = x_2.ds) ∧ x.n = x.n ∧ ((oneP x.plan x_3).driver = (oneP x.plan x_3).driver ∧ (oneP x.plan x_3).served = (oneP x.plan x_3).served) ∧ ((wdriver x x_4).id = (wdriver x x_4).id ∧ (wdriver x x_4).room = (wdriver x x_4).room ∧ (wdriver x
  x_4).home = (wdriver x x_4).home ∧ (wdriver x x_4).lo = (wdriver x x_4).lo ∧ (wdriver x x_4).hi = (wdriver x x_4).hi ∧ (wdriver x x_4).retired = (wdriver x x_4).retired) ∧ (hspot (bestP (some (MapD.mk x.n x.times)) (wdriver x x_4) x.orders
  (oneP x.plan x_3) x_2 (100000 : Int)).fst).driver = (hspot (bestP (some (MapD.mk x.n x.times)) (wdriver x x_4) x.orders (oneP x.plan x_3) x_2 (100000 : Int)).fst).driver ∧ (hspot (bestP (some (MapD.mk x.n x.times)) (wdriver x x_4) x.orders
  (oneP x.plan x_3) x_2 (100000 : Int)).fst).pick = (hspot (bestP (some (MapD.mk x.n x.times)) (wdriver x x_4) x.orders (oneP x.plan x_3) x_2 (100000 : Int)).fst).pick ∧ (hspot (bestP (some (MapD.mk x.n x.times)) (wdriver x x_4) x.orders
  (oneP x.plan x_3) x_2 (100000 : Int)).fst).drop = (hspot (bestP (some (MapD.mk x.n x.times)) (wdriver x x_4) x.orders (oneP x.plan x_3) x_2 (100000 : Int)).fst).drop ∧ (hspot (bestP (some (MapD.mk x.n x.times)) (wdriver x x_4) x.orders
  (oneP x.plan x_3) x_2 (100000 : Int)).fst).cost = (hspot (bestP (some (MapD.mk x.n x.times)) (wdriver x x_4) x.orders (oneP x.plan x_3) x_2 (100000 : Int)).fst).cost) ∧ (oneP x.plan x_3).stops = (oneP x.plan x_3).stops ∧ x.times = x.times ∧
  x.plan = x.plan ∧ x.orders = x.orders ∧ x.drivers = x.drivers ∧ x.times = x.times ∧ [] ++ x.orders ++ [x_2] = [] ++ x.orders ++ [x_2]) ∧ inv_1 (wrap (x_14 + (1 : Int))) true (wrap (x_16 + (1 : Int))) ∧ μ_1 (wrap (x_14 + (1 : Int))) true
  (wrap (x_16 + (1 : Int))) < μ_1 x_14 x_15 x_16)))) ∧ (decide (wrap ((cost (some (MapD.mk x.n x.times)) (wdriver x x_4) ([] ++ x.orders ++ [x_2]) (putS (oneP x.plan x_3).stops x_2.id x_11 x_16)).fst - (cost (some (MapD.mk x.n x.times))
  (wdriver x x_4) x.orders (oneP x.plan x_3).stops).fst) < (hspot (bestP (some (MapD.mk x.n x.times)) (wdriver x x_4) x.orders (oneP x.plan x_3) x_2 (100000 : Int)).fst).cost) = !false → false = true)) ∧ ((!decide ((bestP (some (MapD.mk x.n
  x.times)) (wdriver x x_4) x.orders (oneP x.plan x_3) x_2 (100000 : Int)).snd = (0 : Int))) = !false → false = true)) ∧ ((!(cost (some (MapD.mk x.n x.times)) (wdriver x x_4) ([] ++ x.orders ++ [x_2]) (putS (oneP x.plan x_3).stops x_2.id x_11
  x_16)).snd) = !false → false = true)) ∧ (decide ((hspot (bestP (some (MapD.mk x.n x.times)) (wdriver x x_4) x.orders (oneP x.plan x_3) x_2 (100000 : Int)).fst).pick = x_11) = !true → ((!(cost (some (MapD.mk x.n x.times)) (wdriver x x_4) ([]
  ++ x.orders ++ [x_2]) (putS (oneP x.plan x_3).stops x_2.id x_11 x_16)).snd) = false → ((!decide ((bestP (some (MapD.mk x.n x.times)) (wdriver x x_4) x.orders (oneP x.plan x_3) x_2 (100000 : Int)).snd = (0 : Int))) = false → (decide (wrap
  ((cost (some (MapD.mk x.n x.times)) (wdriver x x_4) ([] ++ x.orders ++ [x_2]) (putS (oneP x.plan x_3).stops x_2.id x_11 x_16)).fst - (cost (some (MapD.mk x.n x.times)) (wdriver x x_4) x.orders (oneP x.plan x_3).stops).fst) < (hspot (bestP
  (some (MapD.mk x.n x.times)) (wdriver x x_4) x.orders (oneP x.plan x_3) x_2 (100000 : Int)).fst).cost) = false → ((!x_15) = true → (decide (wrap ((cost (some (MapD.mk x.n x.times)) (wdriver x x_4) ([] ++ x.orders ++ [x_2]) (putS (oneP
  x.plan x_3).stops x_2.id x_11 x_16)).fst - (cost (some (MapD.mk x.n x.times)) (wdriver x x_4) x.orders (oneP x.plan x_3).stops).fst) = (hspot (bestP (some (MapD.mk x.n x.times)) (wdriver x x_4) x.orders (oneP x.plan x_3) x_2 (100000 :
  Int)).fst).cost) = true → false = true) ∧ (decide (wrap ((cost (some (MapD.mk x.n x.times)) (wdriver x x_4) ([] ++ x.orders ++ [x_2]) (putS (oneP x.plan x_3).stops x_2.id x_11 x_16)).fst - (cost (some (MapD.mk x.n x.times)) (wdriver x x_4)
  x.orders (oneP x.plan x_3).stops).fst) = (hspot (bestP (some (MapD.mk x.n x.times)) (wdriver x x_4) x.orders (oneP x.plan x_3) x_2 (100000 : Int)).fst).cost) = false → (x_15 = false → (((bestP (some (MapD.mk x.n x.times)) (wdriver x x_4)
  x.orders (oneP x.plan x_3) x_2 (100000 : Int)).fst.steps = (bestP (some (MapD.mk x.n x.times)) (wdriver x x_4) x.orders (oneP x.plan x_3) x_2 (100000 : Int)).fst.steps ∧ (bestP (some (MapD.mk x.n x.times)) (wdriver x x_4) x.orders (oneP
  x.plan x_3) x_2 (100000 : Int)).snd = (bestP (some (MapD.mk x.n x.times)) (wdriver x x_4) x.orders (oneP x.plan x_3) x_2 (100000 : Int)).snd ∧ (cost (some (MapD.mk x.n x.times)) (wdriver x x_4) x.orders (oneP x.plan x_3).stops).fst = (cost
  (some (MapD.mk x.n x.times)) (wdriver x x_4) x.orders (oneP x.plan x_3).stops).fst ∧ wrap (x_14 + (1 : Int)) = wrap (x_14 + (1 : Int)) ∧ false = false ∧ x_11 = x_11 ∧ wrap (x_16 + (1 : Int)) = wrap (x_16 + (1 : Int))) ∧ (x.n = x.n ∧ (x_2.id
  = x_2.id ∧ x_2.size = x_2.size ∧ x_2.pp = x_2.pp ∧ x_2.pf = x_2.pf ∧ x_2.pt = x_2.pt ∧ x_2.ps = x_2.ps ∧ x_2.dp = x_2.dp ∧ x_2.df = x_2.df ∧ x_2.dt = x_2.dt ∧ x_2.ds = x_2.ds) ∧ x.n = x.n ∧ ((oneP x.plan x_3).driver = (oneP x.plan
  x_3).driver ∧ (oneP x.plan x_3).served = (oneP x.plan x_3).served) ∧ ((wdriver x x_4).id = (wdriver x x_4).id ∧ (wdriver x x_4).room = (wdriver x x_4).room ∧ (wdriver x x_4).home = (wdriver x x_4).home ∧ (wdriver x x_4).lo = (wdriver x
  x_4).lo ∧ (wdriver x x_4).hi = (wdriver x x_4).hi ∧ (wdriver x x_4).retired = (wdriver x x_4).retired) ∧ (hspot (bestP (some (MapD.mk x.n x.times)) (wdriver x x_4) x.orders (oneP x.plan x_3) x_2 (100000 : Int)).fst).driver = (hspot (bestP
  (some (MapD.mk x.n x.times)) (wdriver x x_4) x.orders (oneP x.plan x_3) x_2 (100000 : Int)).fst).driver ∧ (hspot (bestP (some (MapD.mk x.n x.times)) (wdriver x x_4) x.orders (oneP x.plan x_3) x_2 (100000 : Int)).fst).pick = (hspot (bestP
  (some (MapD.mk x.n x.times)) (wdriver x x_4) x.orders (oneP x.plan x_3) x_2 (100000 : Int)).fst).pick ∧ (hspot (bestP (some (MapD.mk x.n x.times)) (wdriver x x_4) x.orders (oneP x.plan x_3) x_2 (100000 : Int)).fst).drop = (hspot (bestP
  (some (MapD.mk x.n x.times)) (wdriver x x_4) x.orders (oneP x.plan x_3) x_2 (100000 : Int)).fst).drop ∧ (hspot (bestP (some (MapD.mk x.n x.times)) (wdriver x x_4) x.orders (oneP x.plan x_3) x_2 (100000 : Int)).fst).cost = (hspot (bestP
  (some (MapD.mk x.n x.times)) (wdriver x x_4) x.orders (oneP x.plan x_3) x_2 (100000 : Int)).fst).cost) ∧ (oneP x.plan x_3).stops = (oneP x.plan x_3).stops ∧ x.times = x.times ∧ x.plan = x.plan ∧ x.orders = x.orders ∧ x.drivers = x.drivers ∧
  x.times = x.times ∧ [] ++ x.orders ++ [x_2] = [] ++ x.orders ++ [x_2]) ∧ inv_1 (wrap (x_14 + (1 : Int))) false (wrap (x_16 + (1 : Int))) ∧ μ_1 (wrap (x_14 + (1 : Int))) false (wrap (x_16 + (1 : Int))) < μ_1 x_14 x_15 x_16) ∧ (x_15 = !false
  → (((bestP (some (MapD.mk x.n x.times)) (wdriver x x_4) x.orders (oneP x.plan x_3) x_2 (100000 : Int)).fst.steps = (bestP (some (MapD.mk x.n x.times)) (wdriver x x_4) x.orders (oneP x.plan x_3) x_2 (100000 : Int)).fst.steps ∧ (bestP (some
  (MapD.mk x.n x.times)) (wdriver x x_4) x.orders (oneP x.plan x_3) x_2 (100000 : Int)).snd = (bestP (some (MapD.mk x.n x.times)) (wdriver x x_4) x.orders (oneP x.plan x_3) x_2 (100000 : Int)).snd ∧ (cost (some (MapD.mk x.n x.times)) (wdriver
  x x_4) x.orders (oneP x.plan x_3).stops).fst = (cost (some (MapD.mk x.n x.times)) (wdriver x x_4) x.orders (oneP x.plan x_3).stops).fst ∧ wrap (x_14 + (1 : Int)) = wrap (x_14 + (1 : Int)) ∧ true = true ∧ x_11 = x_11 ∧ wrap (x_16 + (1 :
  Int)) = wrap (x_16 + (1 : Int))) ∧ (x.n = x.n ∧ (x_2.id = x_2.id ∧ x_2.size = x_2.size ∧ x_2.pp = x_2.pp ∧ x_2.pf = x_2.pf ∧ x_2.pt = x_2.pt ∧ x_2.ps = x_2.ps ∧ x_2.dp = x_2.dp ∧ x_2.df = x_2.df ∧ x_2.dt = x_2.dt ∧ x_2.ds = x_2.ds) ∧ x.n =
  x.n ∧ ((oneP x.plan x_3).driver = (oneP x.plan x_3).driver ∧ (oneP x.plan x_3).served = (oneP x.plan x_3).served) ∧ ((wdriver x x_4).id = (wdriver x x_4).id ∧ (wdriver x x_4).room = (wdriver x x_4).room ∧ (wdriver x x_4).home = (wdriver x
  x_4).home ∧ (wdriver x x_4).lo = (wdriver x x_4).lo ∧ (wdriver x x_4).hi = (wdriver x x_4).hi ∧ (wdriver x x_4).retired = (wdriver x x_4).retired) ∧ (hspot (bestP (some (MapD.mk x.n x.times)) (wdriver x x_4) x.orders (oneP x.plan x_3) x_2
  (100000 : Int)).fst).driver = (hspot (bestP (some (MapD.mk x.n x.times)) (wdriver x x_4) x.orders (oneP x.plan x_3) x_2 (100000 : Int)).fst).driver ∧ (hspot (bestP (some (MapD.mk x.n x.times)) (wdriver x x_4) x.orders (oneP x.plan x_3) x_2
  (100000 : Int)).fst).pick = (hspot (bestP (some (MapD.mk x.n x.times)) (wdriver x x_4) x.orders (oneP x.plan x_3) x_2 (100000 : Int)).fst).pick ∧ (hspot (bestP (some (MapD.mk x.n x.times)) (wdriver x x_4) x.orders (oneP x.plan x_3) x_2
  (100000 : Int)).fst).drop = (hspot (bestP (some (MapD.mk x.n x.times)) (wdriver x x_4) x.orders (oneP x.plan x_3) x_2 (100000 : Int)).fst).drop ∧ (hspot (bestP (some (MapD.mk x.n x.times)) (wdriver x x_4) x.orders (oneP x.plan x_3) x_2
  (100000 : Int)).fst).cost = (hspot (bestP (some (MapD.mk x.n x.times)) (wdriver x x_4) x.orders (oneP x.plan x_3) x_2 (100000 : Int)).fst).cost) ∧ (oneP x.plan x_3).stops = (oneP x.plan x_3).stops ∧ x.times = x.times ∧ x.plan = x.plan ∧
  x.orders = x.orders ∧ x.drivers = x.drivers ∧ x.times = x.times ∧ [] ++ x.orders ++ [x_2] = [] ++ x.orders ++ [x_2]) ∧ inv_1 (wrap (x_14 + (1 : Int))) true (wrap (x_16 + (1 : Int))) ∧ μ_1 (wrap (x_14 + (1 : Int))) true (wrap (x_16 + (1 :
  Int))) < μ_1 x_14 x_15 x_16))) ∧ ((!x_15) = !true → (x_15 = false → (((bestP (some (MapD.mk x.n x.times)) (wdriver x x_4) x.orders (oneP x.plan x_3) x_2 (100000 : Int)).fst.steps = (bestP (some (MapD.mk x.n x.times)) (wdriver x x_4)
  x.orders (oneP x.plan x_3) x_2 (100000 : Int)).fst.steps ∧ (bestP (some (MapD.mk x.n x.times)) (wdriver x x_4) x.orders (oneP x.plan x_3) x_2 (100000 : Int)).snd = (bestP (some (MapD.mk x.n x.times)) (wdriver x x_4) x.orders (oneP x.plan
  x_3) x_2 (100000 : Int)).snd ∧ (cost (some (MapD.mk x.n x.times)) (wdriver x x_4) x.orders (oneP x.plan x_3).stops).fst = (cost (some (MapD.mk x.n x.times)) (wdriver x x_4) x.orders (oneP x.plan x_3).stops).fst ∧ wrap (x_14 + (1 : Int)) =
  wrap (x_14 + (1 : Int)) ∧ false = false ∧ x_11 = x_11 ∧ wrap (x_16 + (1 : Int)) = wrap (x_16 + (1 : Int))) ∧ (x.n = x.n ∧ (x_2.id = x_2.id ∧ x_2.size = x_2.size ∧ x_2.pp = x_2.pp ∧ x_2.pf = x_2.pf ∧ x_2.pt = x_2.pt ∧ x_2.ps = x_2.ps ∧
  x_2.dp = x_2.dp ∧ x_2.df = x_2.df ∧ x_2.dt = x_2.dt ∧ x_2.ds = x_2.ds) ∧ x.n = x.n ∧ ((oneP x.plan x_3).driver = (oneP x.plan x_3).driver ∧ (oneP x.plan x_3).served = (oneP x.plan x_3).served) ∧ ((wdriver x x_4).id = (wdriver x x_4).id ∧
  (wdriver x x_4).room = (wdriver x x_4).room ∧ (wdriver x x_4).home = (wdriver x x_4).home ∧ (wdriver x x_4).lo = (wdriver x x_4).lo ∧ (wdriver x x_4).hi = (wdriver x x_4).hi ∧ (wdriver x x_4).retired = (wdriver x x_4).retired) ∧ (hspot
  (bestP (some (MapD.mk x.n x.times)) (wdriver x x_4) x.orders (oneP x.plan x_3) x_2 (100000 : Int)).fst).driver = (hspot (bestP (some (MapD.mk x.n x.times)) (wdriver x x_4) x.orders (oneP x.plan x_3) x_2 (100000 : Int)).fst).driver ∧ (hspot
  (bestP (some (MapD.mk x.n x.times)) (wdriver x x_4) x.orders (oneP x.plan x_3) x_2 (100000 : Int)).fst).pick = (hspot (bestP (some (MapD.mk x.n x.times)) (wdriver x x_4) x.orders (oneP x.plan x_3) x_2 (100000 : Int)).fst).pick ∧ (hspot
  (bestP (some (MapD.mk x.n x.times)) (wdriver x x_4) x.orders (oneP x.plan x_3) x_2 (100000 : Int)).fst).drop = (hspot (bestP (some (MapD.mk x.n x.times)) (wdriver x x_4) x.orders (oneP x.plan x_3) x_2 (100000 : Int)).fst).drop ∧ (hspot
  (bestP (some (MapD.mk x.n x.times)) (wdriver x x_4) x.orders (oneP x.plan x_3) x_2 (100000 : Int)).fst).cost = (hspot (bestP (some (MapD.mk x.n x.times)) (wdriver x x_4) x.orders (oneP x.plan x_3) x_2 (100000 : Int)).fst).cost) ∧ (oneP
  x.plan x_3).stops = (oneP x.plan x_3).stops ∧ x.times = x.times ∧ x.plan = x.plan ∧ x.orders = x.orders ∧ x.drivers = x.drivers ∧ x.times = x.times ∧ [] ++ x.orders ++ [x_2] = [] ++ x.orders ++ [x_2]) ∧ inv_1 (wrap (x_14 + (1 : Int))) false
  (wrap (x_16 + (1 : Int))) ∧ μ_1 (wrap (x_14 + (1 : Int))) false (wrap (x_16 + (1 : Int))) < μ_1 x_14 x_15 x_16) ∧ (x_15 = !false → (((bestP (some (MapD.mk x.n x.times)) (wdriver x x_4) x.orders (oneP x.plan x_3) x_2 (100000 :
  Int)).fst.steps = (bestP (some (MapD.mk x.n x.times)) (wdriver x x_4) x.orders (oneP x.plan x_3) x_2 (100000 : Int)).fst.steps ∧ (bestP (some (MapD.mk x.n x.times)) (wdriver x x_4) x.orders (oneP x.plan x_3) x_2 (100000 : Int)).snd = (bestP
  (some (MapD.mk x.n x.times)) (wdriver x x_4) x.orders (oneP x.plan x_3) x_2 (100000 : Int)).snd ∧ (cost (some (MapD.mk x.n x.times)) (wdriver x x_4) x.orders (oneP x.plan x_3).stops).fst = (cost (some (MapD.mk x.n x.times)) (wdriver x x_4)
  x.orders (oneP x.plan x_3).stops).fst ∧ wrap (x_14 + (1 : Int)) = wrap (x_14 + (1 : Int)) ∧ true = true ∧ x_11 = x_11 ∧ wrap (x_16 + (1 : Int)) = wrap (x_16 + (1 : Int))) ∧ (x.n = x.n ∧ (x_2.id = x_2.id ∧ x_2.size = x_2.size ∧ x_2.pp =
  x_2.pp ∧ x_2.pf = x_2.pf ∧ x_2.pt = x_2.pt ∧ x_2.ps = x_2.ps ∧ x_2.dp = x_2.dp ∧ x_2.df = x_2.df ∧ x_2.dt = x_2.dt ∧ x_2.ds = x_2.ds) ∧ x.n = x.n ∧ ((oneP x.plan x_3).driver = (oneP x.plan x_3).driver ∧ (oneP x.plan x_3).served = (oneP
  x.plan x_3).served) ∧ ((wdriver x x_4).id = (wdriver x x_4).id ∧ (wdriver x x_4).room = (wdriver x x_4).room ∧ (wdriver x x_4).home = (wdriver x x_4).home ∧ (wdriver x x_4).lo = (wdriver x x_4).lo ∧ (wdriver x x_4).hi = (wdriver x x_4).hi ∧
  (wdriver x x_4).retired = (wdriver x x_4).retired) ∧ (hspot (bestP (some (MapD.mk x.n x.times)) (wdriver x x_4) x.orders (oneP x.plan x_3) x_2 (100000 : Int)).fst).driver = (hspot (bestP (some (MapD.mk x.n x.times)) (wdriver x x_4) x.orders
  (oneP x.plan x_3) x_2 (100000 : Int)).fst).driver ∧ (hspot (bestP (some (MapD.mk x.n x.times)) (wdriver x x_4) x.orders (oneP x.plan x_3) x_2 (100000 : Int)).fst).pick = (hspot (bestP (some (MapD.mk x.n x.times)) (wdriver x x_4) x.orders
  (oneP x.plan x_3) x_2 (100000 : Int)).fst).pick ∧ (hspot (bestP (some (MapD.mk x.n x.times)) (wdriver x x_4) x.orders (oneP x.plan x_3) x_2 (100000 : Int)).fst).drop = (hspot (bestP (some (MapD.mk x.n x.times)) (wdriver x x_4) x.orders
  (oneP x.plan x_3) x_2 (100000 : Int)).fst).drop ∧ (hspot (bestP (some (MapD.mk x.n x.times)) (wdriver x x_4) x.orders (oneP x.plan x_3) x_2 (100000 : Int)).fst).cost = (hspot (bestP (some (MapD.mk x.n x.times)) (wdriver x x_4) x.orders
  (oneP x.plan x_3) x_2 (100000 : Int)).fst).cost) ∧ (oneP x.plan x_3).stops = (oneP x.plan x_3).stops ∧ x.times = x.times ∧ x.plan = x.plan ∧ x.orders = x.orders ∧ x.drivers = x.drivers ∧ x.times = x.times ∧ [] ++ x.orders ++ [x_2] = [] ++
  x.orders ++ [x_2]) ∧ inv_1 (wrap (x_14 + (1 : Int))) true (wrap (x_16 + (1 : Int))) ∧ μ_1 (wrap (x_14 + (1 : Int))) true (wrap (x_16 + (1 : Int))) < μ_1 x_14 x_15 x_16))) ∧ (decide (wrap ((cost (some (MapD.mk x.n x.times)) (wdriver x x_4)
  ([] ++ x.orders ++ [x_2]) (putS (oneP x.plan x_3).stops x_2.id x_11 x_16)).fst - (cost (some (MapD.mk x.n x.times)) (wdriver x x_4) x.orders (oneP x.plan x_3).stops).fst) < (hspot (bestP (some (MapD.mk x.n x.times)) (wdriver x x_4) x.orders
  (oneP x.plan x_3) x_2 (100000 : Int)).fst).cost) = !false → false = true)) ∧ ((!decide ((bestP (some (MapD.mk x.n x.times)) (wdriver x x_4) x.orders (oneP x.plan x_3) x_2 (100000 : Int)).snd = (0 : Int))) = !false → false = true)) ∧
  ((!(cost (some (MapD.mk x.n x.times)) (wdriver x x_4) ([] ++ x.orders ++ [x_2]) (putS (oneP x.plan x_3).stops x_2.id x_11 x_16)).snd) = !false → false = true))) ∧ (decide ((bestP (some (MapD.mk x.n x.times)) (wdriver x x_4) x.orders (oneP
  x.plan x_3) x_2 (100000 : Int)).snd = (0 : Int)) = !true → ((!(cost (some (MapD.mk x.n x.times)) (wdriver x x_4) ([] ++ x.orders ++ [x_2]) (putS (oneP x.plan x_3).stops x_2.id x_11 x_16)).snd) = false → ((!decide ((bestP (some (MapD.mk x.n
  x.times)) (wdriver x x_4) x.orders (oneP x.plan x_3) x_2 (100000 : Int)).snd = (0 : Int))) = false → (decide (wrap ((cost (some (MapD.mk x.n x.times)) (wdriver x x_4) ([] ++ x.orders ++ [x_2]) (putS (oneP x.plan x_3).stops x_2.id x_11
  x_16)).fst - (cost (some (MapD.mk x.n x.times)) (wdriver x x_4) x.orders (oneP x.plan x_3).stops).fst) < (hspot (bestP (some (MapD.mk x.n x.times)) (wdriver x x_4) x.orders (oneP x.plan x_3) x_2 (100000 : Int)).fst).cost) = false → ((!x_15)
  = true → (decide (wrap ((cost (some (MapD.mk x.n x.times)) (wdriver x x_4) ([] ++ x.orders ++ [x_2]) (putS (oneP x.plan x_3).stops x_2.id x_11 x_16)).fst - (cost (some (MapD.mk x.n x.times)) (wdriver x x_4) x.orders (oneP x.plan
  x_3).stops).fst) = (hspot (bestP (some (MapD.mk x.n x.times)) (wdriver x x_4) x.orders (oneP x.plan x_3) x_2 (100000 : Int)).fst).cost) = true → false = true) ∧ (decide (wrap ((cost (some (MapD.mk x.n x.times)) (wdriver x x_4) ([] ++
  x.orders ++ [x_2]) (putS (oneP x.plan x_3).stops x_2.id x_11 x_16)).fst - (cost (some (MapD.mk x.n x.times)) (wdriver x x_4) x.orders (oneP x.plan x_3).stops).fst) = (hspot (bestP (some (MapD.mk x.n x.times)) (wdriver x x_4) x.orders (oneP
  x.plan x_3) x_2 (100000 : Int)).fst).cost) = false → (x_15 = false → (((bestP (some (MapD.mk x.n x.times)) (wdriver x x_4) x.orders (oneP x.plan x_3) x_2 (100000 : Int)).fst.steps = (bestP (some (MapD.mk x.n x.times)) (wdriver x x_4)
  x.orders (oneP x.plan x_3) x_2 (100000 : Int)).fst.steps ∧ (bestP (some (MapD.mk x.n x.times)) (wdriver x x_4) x.orders (oneP x.plan x_3) x_2 (100000 : Int)).snd = (bestP (some (MapD.mk x.n x.times)) (wdriver x x_4) x.orders (oneP x.plan
  x_3) x_2 (100000 : Int)).snd ∧ (cost (some (MapD.mk x.n x.times)) (wdriver x x_4) x.orders (oneP x.plan x_3).stops).fst = (cost (some (MapD.mk x.n x.times)) (wdriver x x_4) x.orders (oneP x.plan x_3).stops).fst ∧ wrap (x_14 + (1 : Int)) =
  wrap (x_14 + (1 : Int)) ∧ false = false ∧ x_11 = x_11 ∧ wrap (x_16 + (1 : Int)) = wrap (x_16 + (1 : Int))) ∧ (x.n = x.n ∧ (x_2.id = x_2.id ∧ x_2.size = x_2.size ∧ x_2.pp = x_2.pp ∧ x_2.pf = x_2.pf ∧ x_2.pt = x_2.pt ∧ x_2.ps = x_2.ps ∧
  x_2.dp = x_2.dp ∧ x_2.df = x_2.df ∧ x_2.dt = x_2.dt ∧ x_2.ds = x_2.ds) ∧ x.n = x.n ∧ ((oneP x.plan x_3).driver = (oneP x.plan x_3).driver ∧ (oneP x.plan x_3).served = (oneP x.plan x_3).served) ∧ ((wdriver x x_4).id = (wdriver x x_4).id ∧
  (wdriver x x_4).room = (wdriver x x_4).room ∧ (wdriver x x_4).home = (wdriver x x_4).home ∧ (wdriver x x_4).lo = (wdriver x x_4).lo ∧ (wdriver x x_4).hi = (wdriver x x_4).hi ∧ (wdriver x x_4).retired = (wdriver x x_4).retired) ∧ (hspot
  (bestP (some (MapD.mk x.n x.times)) (wdriver x x_4) x.orders (oneP x.plan x_3) x_2 (100000 : Int)).fst).driver = (hspot (bestP (some (MapD.mk x.n x.times)) (wdriver x x_4) x.orders (oneP x.plan x_3) x_2 (100000 : Int)).fst).driver ∧ (hspot
  (bestP (some (MapD.mk x.n x.times)) (wdriver x x_4) x.orders (oneP x.plan x_3) x_2 (100000 : Int)).fst).pick = (hspot (bestP (some (MapD.mk x.n x.times)) (wdriver x x_4) x.orders (oneP x.plan x_3) x_2 (100000 : Int)).fst).pick ∧ (hspot
  (bestP (some (MapD.mk x.n x.times)) (wdriver x x_4) x.orders (oneP x.plan x_3) x_2 (100000 : Int)).fst).drop = (hspot (bestP (some (MapD.mk x.n x.times)) (wdriver x x_4) x.orders (oneP x.plan x_3) x_2 (100000 : Int)).fst).drop ∧ (hspot
  (bestP (some (MapD.mk x.n x.times)) (wdriver x x_4) x.orders (oneP x.plan x_3) x_2 (100000 : Int)).fst).cost = (hspot (bestP (some (MapD.mk x.n x.times)) (wdriver x x_4) x.orders (oneP x.plan x_3) x_2 (100000 : Int)).fst).cost) ∧ (oneP
  x.plan x_3).stops = (oneP x.plan x_3).stops ∧ x.times = x.times ∧ x.plan = x.plan ∧ x.orders = x.orders ∧ x.drivers = x.drivers ∧ x.times = x.times ∧ [] ++ x.orders ++ [x_2] = [] ++ x.orders ++ [x_2]) ∧ inv_1 (wrap (x_14 + (1 : Int))) false
  (wrap (x_16 + (1 : Int))) ∧ μ_1 (wrap (x_14 + (1 : Int))) false (wrap (x_16 + (1 : Int))) < μ_1 x_14 x_15 x_16) ∧ (x_15 = !false → (((bestP (some (MapD.mk x.n x.times)) (wdriver x x_4) x.orders (oneP x.plan x_3) x_2 (100000 :
  Int)).fst.steps = (bestP (some (MapD.mk x.n x.times)) (wdriver x x_4) x.orders (oneP x.plan x_3) x_2 (100000 : Int)).fst.steps ∧ (bestP (some (MapD.mk x.n x.times)) (wdriver x x_4) x.orders (oneP x.plan x_3) x_2 (100000 : Int)).snd = (bestP
  (some (MapD.mk x.n x.times)) (wdriver x x_4) x.orders (oneP x.plan x_3) x_2 (100000 : Int)).snd ∧ (cost (some (MapD.mk x.n x.times)) (wdriver x x_4) x.orders (oneP x.plan x_3).stops).fst = (cost (some (MapD.mk x.n x.times)) (wdriver x x_4)
  x.orders (oneP x.plan x_3).stops).fst ∧ wrap (x_14 + (1 : Int)) = wrap (x_14 + (1 : Int)) ∧ true = true ∧ x_11 = x_11 ∧ wrap (x_16 + (1 : Int)) = wrap (x_16 + (1 : Int))) ∧ (x.n = x.n ∧ (x_2.id = x_2.id ∧ x_2.size = x_2.size ∧ x_2.pp =
  x_2.pp ∧ x_2.pf = x_2.pf ∧ x_2.pt = x_2.pt ∧ x_2.ps = x_2.ps ∧ x_2.dp = x_2.dp ∧ x_2.df = x_2.df ∧ x_2.dt = x_2.dt ∧ x_2.ds = x_2.ds) ∧ x.n = x.n ∧ ((oneP x.plan x_3).driver = (oneP x.plan x_3).driver ∧ (oneP x.plan x_3).served = (oneP
  x.plan x_3).served) ∧ ((wdriver x x_4).id = (wdriver x x_4).id ∧ (wdriver x x_4).room = (wdriver x x_4).room ∧ (wdriver x x_4).home = (wdriver x x_4).home ∧ (wdriver x x_4).lo = (wdriver x x_4).lo ∧ (wdriver x x_4).hi = (wdriver x x_4).hi ∧
  (wdriver x x_4).retired = (wdriver x x_4).retired) ∧ (hspot (bestP (some (MapD.mk x.n x.times)) (wdriver x x_4) x.orders (oneP x.plan x_3) x_2 (100000 : Int)).fst).driver = (hspot (bestP (some (MapD.mk x.n x.times)) (wdriver x x_4) x.orders
  (oneP x.plan x_3) x_2 (100000 : Int)).fst).driver ∧ (hspot (bestP (some (MapD.mk x.n x.times)) (wdriver x x_4) x.orders (oneP x.plan x_3) x_2 (100000 : Int)).fst).pick = (hspot (bestP (some (MapD.mk x.n x.times)) (wdriver x x_4) x.orders
  (oneP x.plan x_3) x_2 (100000 : Int)).fst).pick ∧ (hspot (bestP (some (MapD.mk x.n x.times)) (wdriver x x_4) x.orders (oneP x.plan x_3) x_2 (100000 : Int)).fst).drop = (hspot (bestP (some (MapD.mk x.n x.times)) (wdriver x x_4) x.orders
  (oneP x.plan x_3) x_2 (100000 : Int)).fst).drop ∧ (hspot (bestP (some (MapD.mk x.n x.times)) (wdriver x x_4) x.orders (oneP x.plan x_3) x_2 (100000 : Int)).fst).cost = (hspot (bestP (some (MapD.mk x.n x.times)) (wdriver x x_4) x.orders
  (oneP x.plan x_3) x_2 (100000 : Int)).fst).cost) ∧ (oneP x.plan x_3).stops = (oneP x.plan x_3).stops ∧ x.times = x.times ∧ x.plan = x.plan ∧ x.orders = x.orders ∧ x.drivers = x.drivers ∧ x.times = x.times ∧ [] ++ x.orders ++ [x_2] = [] ++
  x.orders ++ [x_2]) ∧ inv_1 (wrap (x_14 + (1 : Int))) true (wrap (x_16 + (1 : Int))) ∧ μ_1 (wrap (x_14 + (1 : Int))) true (wrap (x_16 + (1 : Int))) < μ_1 x_14 x_15 x_16))) ∧ ((!x_15) = !true → (x_15 = false → (((bestP (some (MapD.mk x.n
  x.times)) (wdriver x x_4) x.orders (oneP x.plan x_3) x_2 (100000 : Int)).fst.steps = (bestP (some (MapD.mk x.n x.times)) (wdriver x x_4) x.orders (oneP x.plan x_3) x_2 (100000 : Int)).fst.steps ∧ (bestP (some (MapD.mk x.n x.times)) (wdriver
  x x_4) x.orders (oneP x.plan x_3) x_2 (100000 : Int)).snd = (bestP (some (MapD.mk x.n x.times)) (wdriver x x_4) x.orders (oneP x.plan x_3) x_2 (100000 : Int)).snd ∧ (cost (some (MapD.mk x.n x.times)) (wdriver x x_4) x.orders (oneP x.plan
  x_3).stops).fst = (cost (some (MapD.mk x.n x.times)) (wdriver x x_4) x.orders (oneP x.plan x_3).stops).fst ∧ wrap (x_14 + (1 : Int)) = wrap (x_14 + (1 : Int)) ∧ false = false ∧ x_11 = x_11 ∧ wrap (x_16 + (1 : Int)) = wrap (x_16 + (1 :
  Int))) ∧ (x.n = x.n ∧ (x_2.id = x_2.id ∧ x_2.size = x_2.size ∧ x_2.pp = x_2.pp ∧ x_2.pf = x_2.pf ∧ x_2.pt = x_2.pt ∧ x_2.ps = x_2.ps ∧ x_2.dp = x_2.dp ∧ x_2.df = x_2.df ∧ x_2.dt = x_2.dt ∧ x_2.ds = x_2.ds) ∧ x.n = x.n ∧ ((oneP x.plan
  x_3).driver = (oneP x.plan x_3).driver ∧ (oneP x.plan x_3).served = (oneP x.plan x_3).served) ∧ ((wdriver x x_4).id = (wdriver x x_4).id ∧ (wdriver x x_4).room = (wdriver x x_4).room ∧ (wdriver x x_4).home = (wdriver x x_4).home ∧ (wdriver
  x x_4).lo = (wdriver x x_4).lo ∧ (wdriver x x_4).hi = (wdriver x x_4).hi ∧ (wdriver x x_4).retired = (wdriver x x_4).retired) ∧ (hspot (bestP (some (MapD.mk x.n x.times)) (wdriver x x_4) x.orders (oneP x.plan x_3) x_2 (100000 :
  Int)).fst).driver = (hspot (bestP (some (MapD.mk x.n x.times)) (wdriver x x_4) x.orders (oneP x.plan x_3) x_2 (100000 : Int)).fst).driver ∧ (hspot (bestP (some (MapD.mk x.n x.times)) (wdriver x x_4) x.orders (oneP x.plan x_3) x_2 (100000 :
  Int)).fst).pick = (hspot (bestP (some (MapD.mk x.n x.times)) (wdriver x x_4) x.orders (oneP x.plan x_3) x_2 (100000 : Int)).fst).pick ∧ (hspot (bestP (some (MapD.mk x.n x.times)) (wdriver x x_4) x.orders (oneP x.plan x_3) x_2 (100000 :
  Int)).fst).drop = (hspot (bestP (some (MapD.mk x.n x.times)) (wdriver x x_4) x.orders (oneP x.plan x_3) x_2 (100000 : Int)).fst).drop ∧ (hspot (bestP (some (MapD.mk x.n x.times)) (wdriver x x_4) x.orders (oneP x.plan x_3) x_2 (100000 :
  Int)).fst).cost = (hspot (bestP (some (MapD.mk x.n x.times)) (wdriver x x_4) x.orders (oneP x.plan x_3) x_2 (100000 : Int)).fst).cost) ∧ (oneP x.plan x_3).stops = (oneP x.plan x_3).stops ∧ x.times = x.times ∧ x.plan = x.plan ∧ x.orders =
  x.orders ∧ x.drivers = x.drivers ∧ x.times = x.times ∧ [] ++ x.orders ++ [x_2] = [] ++ x.orders ++ [x_2]) ∧ inv_1 (wrap (x_14 + (1 : Int))) false (wrap (x_16 + (1 : Int))) ∧ μ_1 (wrap (x_14 + (1 : Int))) false (wrap (x_16 + (1 : Int))) <
  μ_1 x_14 x_15 x_16) ∧ (x_15 = !false → (((bestP (some (MapD.mk x.n x.times)) (wdriver x x_4) x.orders (oneP x.plan x_3) x_2 (100000 : Int)).fst.steps = (bestP (some (MapD.mk x.n x.times)) (wdriver x x_4) x.orders (oneP x.plan x_3) x_2
  (100000 : Int)).fst.steps ∧ (bestP (some (MapD.mk x.n x.times)) (wdriver x x_4) x.orders (oneP x.plan x_3) x_2 (100000 : Int)).snd = (bestP (some (MapD.mk x.n x.times)) (wdriver x x_4) x.orders (oneP x.plan x_3) x_2 (100000 : Int)).snd ∧
  (cost (some (MapD.mk x.n x.times)) (wdriver x x_4) x.orders (oneP x.plan x_3).stops).fst = (cost (some (MapD.mk x.n x.times)) (wdriver x x_4) x.orders (oneP x.plan x_3).stops).fst ∧ wrap (x_14 + (1 : Int)) = wrap (x_14 + (1 : Int)) ∧ true =
  true ∧ x_11 = x_11 ∧ wrap (x_16 + (1 : Int)) = wrap (x_16 + (1 : Int))) ∧ (x.n = x.n ∧ (x_2.id = x_2.id ∧ x_2.size = x_2.size ∧ x_2.pp = x_2.pp ∧ x_2.pf = x_2.pf ∧ x_2.pt = x_2.pt ∧ x_2.ps = x_2.ps ∧ x_2.dp = x_2.dp ∧ x_2.df = x_2.df ∧
  x_2.dt = x_2.dt ∧ x_2.ds = x_2.ds) ∧ x.n = x.n ∧ ((oneP x.plan x_3).driver = (oneP x.plan x_3).driver ∧ (oneP x.plan x_3).served = (oneP x.plan x_3).served) ∧ ((wdriver x x_4).id = (wdriver x x_4).id ∧ (wdriver x x_4).room = (wdriver x
  x_4).room ∧ (wdriver x x_4).home = (wdriver x x_4).home ∧ (wdriver x x_4).lo = (wdriver x x_4).lo ∧ (wdriver x x_4).hi = (wdriver x x_4).hi ∧ (wdriver x x_4).retired = (wdriver x x_4).retired) ∧ (hspot (bestP (some (MapD.mk x.n x.times))
  (wdriver x x_4) x.orders (oneP x.plan x_3) x_2 (100000 : Int)).fst).driver = (hspot (bestP (some (MapD.mk x.n x.times)) (wdriver x x_4) x.orders (oneP x.plan x_3) x_2 (100000 : Int)).fst).driver ∧ (hspot (bestP (some (MapD.mk x.n x.times))
  (wdriver x x_4) x.orders (oneP x.plan x_3) x_2 (100000 : Int)).fst).pick = (hspot (bestP (some (MapD.mk x.n x.times)) (wdriver x x_4) x.orders (oneP x.plan x_3) x_2 (100000 : Int)).fst).pick ∧ (hspot (bestP (some (MapD.mk x.n x.times))
  (wdriver x x_4) x.orders (oneP x.plan x_3) x_2 (100000 : Int)).fst).drop = (hspot (bestP (some (MapD.mk x.n x.times)) (wdriver x x_4) x.orders (oneP x.plan x_3) x_2 (100000 : Int)).fst).drop ∧ (hspot (bestP (some (MapD.mk x.n x.times))
  (wdriver x x_4) x.orders (oneP x.plan x_3) x_2 (100000 : Int)).fst).cost = (hspot (bestP (some (MapD.mk x.n x.times)) (wdriver x x_4) x.orders (oneP x.plan x_3) x_2 (100000 : Int)).fst).cost) ∧ (oneP x.plan x_3).stops = (oneP x.plan
  x_3).stops ∧ x.times = x.times ∧ x.plan = x.plan ∧ x.orders = x.orders ∧ x.drivers = x.drivers ∧ x.times = x.times ∧ [] ++ x.orders ++ [x_2] = [] ++ x.orders ++ [x_2]) ∧ inv_1 (wrap (x_14 + (1 : Int))) true (wrap (x_16 + (1 : Int))) ∧ μ_1
  (wrap (x_14 + (1 : Int))) true (wrap (x_16 + (1 : Int))) < μ_1 x_14 x_15 x_16))) ∧ (decide (wrap ((cost (some (MapD.mk x.n x.times)) (wdriver x x_4) ([] ++ x.orders ++ [x_2]) (putS (oneP x.plan x_3).stops x_2.id x_11 x_16)).fst - (cost
  (some (MapD.mk x.n x.times)) (wdriver x x_4) x.orders (oneP x.plan x_3).stops).fst) < (hspot (bestP (some (MapD.mk x.n x.times)) (wdriver x x_4) x.orders (oneP x.plan x_3) x_2 (100000 : Int)).fst).cost) = !false → false = true)) ∧ ((!decide
  ((bestP (some (MapD.mk x.n x.times)) (wdriver x x_4) x.orders (oneP x.plan x_3) x_2 (100000 : Int)).snd = (0 : Int))) = !false → false = true)) ∧ ((!(cost (some (MapD.mk x.n x.times)) (wdriver x x_4) ([] ++ x.orders ++ [x_2]) (putS (oneP
  x.plan x_3).stops x_2.id x_11 x_16)).snd) = !false → false = true)))) ∧ (decide (x_16 ≤ (↑(oneP x.plan x_3).stops.length : Int)) = false → (((bestP (some (MapD.mk x.n x.times)) (wdriver x x_4) x.orders (oneP x.plan x_3) x_2 (100000 :
  Int)).fst.steps = (bestP (some (MapD.mk x.n x.times)) (wdriver x x_4) x.orders (oneP x.plan x_3) x_2 (100000 : Int)).fst.steps ∧ (bestP (some (MapD.mk x.n x.times)) (wdriver x x_4) x.orders (oneP x.plan x_3) x_2 (100000 : Int)).snd = (bestP
  (some (MapD.mk x.n x.times)) (wdriver x x_4) x.orders (oneP x.plan x_3) x_2 (100000 : Int)).snd ∧ (cost (some (MapD.mk x.n x.times)) (wdriver x x_4) x.orders (oneP x.plan x_3).stops).fst = (cost (some (MapD.mk x.n x.times)) (wdriver x x_4)
  x.orders (oneP x.plan x_3).stops).fst ∧ x_14 = x_14 ∧ x_15 = x_15 ∧ wrap (x_11 + (1 : Int)) = wrap (x_11 + (1 : Int))) ∧ (x.n = x.n ∧ (x_2.id = x_2.id ∧ x_2.size = x_2.size ∧ x_2.pp = x_2.pp ∧ x_2.pf = x_2.pf ∧ x_2.pt = x_2.pt ∧ x_2.ps =
  x_2.ps ∧ x_2.dp = x_2.dp ∧ x_2.df = x_2.df ∧ x_2.dt = x_2.dt ∧ x_2.ds = x_2.ds) ∧ x.n = x.n ∧ ((oneP x.plan x_3).driver = (oneP x.plan x_3).driver ∧ (oneP x.plan x_3).served = (oneP x.plan x_3).served) ∧ ((wdriver x x_4).id = (wdriver x
  x_4).id ∧ (wdriver x x_4).room = (wdriver x x_4).room ∧ (wdriver x x_4).home = (wdriver x x_4).home ∧ (wdriver x x_4).lo = (wdriver x x_4).lo ∧ (wdriver x x_4).hi = (wdriver x x_4).hi ∧ (wdriver x x_4).retired = (wdriver x x_4).retired) ∧
  (hspot (bestP (some (MapD.mk x.n x.times)) (wdriver x x_4) x.orders (oneP x.plan x_3) x_2 (100000 : Int)).fst).driver = (hspot (bestP (some (MapD.mk x.n x.times)) (wdriver x x_4) x.orders (oneP x.plan x_3) x_2 (100000 : Int)).fst).driver ∧
  (hspot (bestP (some (MapD.mk x.n x.times)) (wdriver x x_4) x.orders (oneP x.plan x_3) x_2 (100000 : Int)).fst).pick = (hspot (bestP (some (MapD.mk x.n x.times)) (wdriver x x_4) x.orders (oneP x.plan x_3) x_2 (100000 : Int)).fst).pick ∧
  (hspot (bestP (some (MapD.mk x.n x.times)) (wdriver x x_4) x.orders (oneP x.plan x_3) x_2 (100000 : Int)).fst).drop = (hspot (bestP (some (MapD.mk x.n x.times)) (wdriver x x_4) x.orders (oneP x.plan x_3) x_2 (100000 : Int)).fst).drop ∧
  (hspot (bestP (some (MapD.mk x.n x.times)) (wdriver x x_4) x.orders (oneP x.plan x_3) x_2 (100000 : Int)).fst).cost = (hspot (bestP (some (MapD.mk x.n x.times)) (wdriver x x_4) x.orders (oneP x.plan x_3) x_2 (100000 : Int)).fst).cost) ∧
  (oneP x.plan x_3).stops = (oneP x.plan x_3).stops ∧ x.times = x.times ∧ x.plan = x.plan ∧ x.orders = x.orders ∧ x.drivers = x.drivers ∧ x.times = x.times ∧ [] ++ x.orders ++ [x_2] = [] ++ x.orders ++ [x_2]) ∧ inv x_14 x_15 (wrap (x_11 + (1
  : Int))) ∧ μ x_14 x_15 (wrap (x_11 + (1 : Int))) < μ x_9 x_10 x_11)) ∧ (decide (x_11 ≤ (↑(oneP x.plan x_3).stops.length : Int)) = false → (decide (x_9 = (bestP (some (MapD.mk x.n x.times)) (wdriver x x_4) x.orders (oneP x.plan x_3) x_2
  (100000 : Int)).fst.steps) = true → ((x_10 == decide ((bestP (some (MapD.mk x.n x.times)) (wdriver x x_4) x.orders (oneP x.plan x_3) x_2 (100000 : Int)).snd = (0 : Int))) = true → true = true) ∧ ((x_10 == decide ((bestP (some (MapD.mk x.n
  x.times)) (wdriver x x_4) x.orders (oneP x.plan x_3) x_2 (100000 : Int)).snd = (0 : Int))) = !true → false = true)) ∧ (decide (x_9 = (bestP (some (MapD.mk x.n x.times)) (wdriver x x_4) x.orders (oneP x.plan x_3) x_2 (100000 :
  Int)).fst.steps) = !true → false = true)))))
theorem insertLeast_told (hc : CsOk Try.prog insertLeast_cs) (h : insertLeast_vc) : Told Try.prog 3 insertLeast_con := told (A := insertLeast_la) tabOk mixed hc Try.func3 (by kernel_rfl) (by kernel_rfl) h
end Go.Eng

/- The conditions of functions, as print.. of the engine told them. -/
set_option linter.unusedVariables false
namespace Go.Eng
open Go Go.Proofs
end Go.Eng

/- The conditions of functions, as print.. of the engine told them. -/
set_option linter.unusedVariables false
namespace Go.Eng
open Go Go.Proofs
def insertRuns_vc : Prop :=
  ((!decide ((0 : Int) = (0 : Int))) = false → (∀ (x : MapD), some (MapD.mk (2 : Int) [(0 : Int), (5 : Int), (7 : Int), (0 : Int)]) = some x → MapOk x) ∧ (isH (bestP (some (MapD.mk (2 : Int) [(0 : Int), (5 : Int), (7 : Int), (0 : Int)]))
  (Driver.mk (4 : Int) (4 : Int) (1 : Int) (1 : Int) (30 : Int) false) [] (Route.mk (4 : Int) (0 : Int) []) (Order.mk (1 : Int) (3 : Int) (0 : Int) (2 : Int) (9 : Int) (1 : Int) (1 : Int) (0 : Int) (20 : Int) (2 : Int)) (9 : Int)) (Spot.mk (4
  : Int) (0 : Int) (0 : Int) (12 : Int)) (1 : Int) (0 : Int) = true → (∀ (x : MapD), some (MapD.mk (2 : Int) [(0 : Int), (5 : Int), (7 : Int), (0 : Int)]) = some x → MapOk x) ∧ (isH (bestP (some (MapD.mk (2 : Int) [(0 : Int), (5 : Int), (7 :
  Int), (0 : Int)])) (Driver.mk (4 : Int) (4 : Int) (1 : Int) (1 : Int) (30 : Int) false) [Order.mk (1 : Int) (3 : Int) (0 : Int) (2 : Int) (9 : Int) (1 : Int) (1 : Int) (0 : Int) (20 : Int) (2 : Int)] (Route.mk (4 : Int) (0 : Int) [Stop.mk
  (1 : Int) false, Stop.mk (1 : Int) true]) (Order.mk (2 : Int) (1 : Int) (0 : Int) (0 : Int) (100 : Int) (1 : Int) (1 : Int) (0 : Int) (100 : Int) (2 : Int)) (9 : Int)) (Spot.mk (4 : Int) (0 : Int) (1 : Int) (0 : Int)) (6 : Int) (0 : Int) =
  true → (∀ (x : MapD), some (MapD.mk (2 : Int) [(0 : Int), (5 : Int), (7 : Int), (0 : Int)]) = some x → MapOk x) ∧ (∀ (x : MapD), some (MapD.mk (2 : Int) [(0 : Int), (5 : Int), (7 : Int), (0 : Int)]) = some x → MapOk x) ∧ (isH (bestP (some
  (MapD.mk (2 : Int) [(0 : Int), (5 : Int), (7 : Int), (0 : Int)])) (Driver.mk (4 : Int) (4 : Int) (1 : Int) (1 : Int) (30 : Int) false) [Order.mk (1 : Int) (3 : Int) (0 : Int) (2 : Int) (9 : Int) (1 : Int) (1 : Int) (0 : Int) (20 : Int) (2 :
  Int)] (Route.mk (4 : Int) (0 : Int) [Stop.mk (1 : Int) false, Stop.mk (1 : Int) true]) (Order.mk (2 : Int) (1 : Int) (0 : Int) (0 : Int) (100 : Int) (1 : Int) (1 : Int) (0 : Int) (100 : Int) (2 : Int)) (1 : Int)) (Spot.mk (0 : Int) (0 :
  Int) (0 : Int) (0 : Int)) (1 : Int) (20 : Int) = true → (∀ (x : MapD), some (MapD.mk (2 : Int) [(0 : Int), (5 : Int), (7 : Int), (0 : Int)]) = some x → MapOk x) ∧ (isH (bestP (some (MapD.mk (2 : Int) [(0 : Int), (5 : Int), (7 : Int), (0 :
  Int)])) (Driver.mk (4 : Int) (4 : Int) (1 : Int) (1 : Int) (30 : Int) false) [Order.mk (1 : Int) (3 : Int) (0 : Int) (2 : Int) (9 : Int) (1 : Int) (1 : Int) (0 : Int) (20 : Int) (2 : Int)] (Route.mk (4 : Int) (0 : Int) [Stop.mk (1 : Int)
  false, Stop.mk (1 : Int) true]) (Order.mk (2 : Int) (1 : Int) (0 : Int) (0 : Int) (100 : Int) (1 : Int) (1 : Int) (0 : Int) (100 : Int) (2 : Int)) (0 : Int)) (Spot.mk (0 : Int) (0 : Int) (0 : Int) (0 : Int)) (0 : Int) (20 : Int) = true → (∀
  (x : MapD), some (MapD.mk (2 : Int) [(0 : Int), (5 : Int), (7 : Int), (0 : Int)]) = some x → MapOk x) ∧ (isH (bestP (some (MapD.mk (2 : Int) [(0 : Int), (5 : Int), (7 : Int), (0 : Int)])) (Driver.mk (4 : Int) (4 : Int) (1 : Int) (1 : Int)
  (30 : Int) false) [Order.mk (1 : Int) (3 : Int) (0 : Int) (2 : Int) (9 : Int) (1 : Int) (1 : Int) (0 : Int) (20 : Int) (2 : Int)] (Route.mk (4 : Int) (3 : Int) [Stop.mk (1 : Int) false, Stop.mk (1 : Int) true]) (Order.mk (2 : Int) (1 : Int)
  (0 : Int) (0 : Int) (100 : Int) (1 : Int) (1 : Int) (0 : Int) (100 : Int) (2 : Int)) (9 : Int)) (Spot.mk (0 : Int) (0 : Int) (0 : Int) (0 : Int)) (0 : Int) (1 : Int) = true → (∀ (x : MapD), some (MapD.mk (2 : Int) [(0 : Int), (5 : Int), (7
  : Int), (0 : Int)]) = some x → MapOk x) ∧ (∀ (x : MapD), some (MapD.mk (2 : Int) [(0 : Int), (5 : Int), (7 : Int), (0 : Int)]) = some x → MapOk x) ∧ (isH (bestP (some (MapD.mk (2 : Int) [(0 : Int), (5 : Int), (7 : Int), (0 : Int)]))
  (Driver.mk (4 : Int) (4 : Int) (1 : Int) (1 : Int) (30 : Int) false) [Order.mk (1 : Int) (3 : Int) (0 : Int) (2 : Int) (9 : Int) (1 : Int) (1 : Int) (0 : Int) (20 : Int) (2 : Int)] (Route.mk (4 : Int) (0 : Int) [Stop.mk (1 : Int) false,
  Stop.mk (1 : Int) true]) (Order.mk (2 : Int) (1 : Int) (0 : Int) (0 : Int) (100 : Int) (1 : Int) (1 : Int) (0 : Int) (100 : Int) (2 : Int)) (2 : Int)) (Spot.mk (4 : Int) (0 : Int) (1 : Int) (0 : Int)) (2 : Int) (0 : Int) = true → (isH
  (bestP (some (MapD.mk (2 : Int) [(0 : Int), (5 : Int), (7 : Int), (0 : Int)])) (Driver.mk (4 : Int) (4 : Int) (1 : Int) (1 : Int) (30 : Int) true) [Order.mk (1 : Int) (3 : Int) (0 : Int) (2 : Int) (9 : Int) (1 : Int) (1 : Int) (0 : Int) (20
  : Int) (2 : Int)] (Route.mk (4 : Int) (0 : Int) [Stop.mk (1 : Int) false, Stop.mk (1 : Int) true]) (Order.mk (2 : Int) (1 : Int) (0 : Int) (0 : Int) (100 : Int) (1 : Int) (1 : Int) (0 : Int) (100 : Int) (2 : Int)) (9 : Int)) (Spot.mk (0 :
  Int) (0 : Int) (0 : Int) (0 : Int)) (0 : Int) (23 : Int) = true → ((decide ((hspot (cheapP (some (MapD.mk (2 : Int) [(0 : Int), (5 : Int), (7 : Int), (0 : Int)])) [Driver.mk (4 : Int) (4 : Int) (1 : Int) (1 : Int) (30 : Int) false,
  Driver.mk (5 : Int) (4 : Int) (0 : Int) (1 : Int) (30 : Int) false] [Order.mk (1 : Int) (3 : Int) (0 : Int) (2 : Int) (9 : Int) (1 : Int) (1 : Int) (0 : Int) (20 : Int) (2 : Int)] [Route.mk (4 : Int) (0 : Int) [Stop.mk (1 : Int) false,
  Stop.mk (1 : Int) true], Route.mk (5 : Int) (0 : Int) []] (Order.mk (2 : Int) (1 : Int) (0 : Int) (0 : Int) (100 : Int) (1 : Int) (1 : Int) (0 : Int) (100 : Int) (2 : Int)) (100 : Int)).fst).driver = (4 : Int)) && (decide ((hspot (cheapP
  (some (MapD.mk (2 : Int) [(0 : Int), (5 : Int), (7 : Int), (0 : Int)])) [Driver.mk (4 : Int) (4 : Int) (1 : Int) (1 : Int) (30 : Int) false, Driver.mk (5 : Int) (4 : Int) (0 : Int) (1 : Int) (30 : Int) false] [Order.mk (1 : Int) (3 : Int)
  (0 : Int) (2 : Int) (9 : Int) (1 : Int) (1 : Int) (0 : Int) (20 : Int) (2 : Int)] [Route.mk (4 : Int) (0 : Int) [Stop.mk (1 : Int) false, Stop.mk (1 : Int) true], Route.mk (5 : Int) (0 : Int) []] (Order.mk (2 : Int) (1 : Int) (0 : Int) (0 :
  Int) (100 : Int) (1 : Int) (1 : Int) (0 : Int) (100 : Int) (2 : Int)) (100 : Int)).fst).pick = (0 : Int)) && (decide ((hspot (cheapP (some (MapD.mk (2 : Int) [(0 : Int), (5 : Int), (7 : Int), (0 : Int)])) [Driver.mk (4 : Int) (4 : Int) (1 :
  Int) (1 : Int) (30 : Int) false, Driver.mk (5 : Int) (4 : Int) (0 : Int) (1 : Int) (30 : Int) false] [Order.mk (1 : Int) (3 : Int) (0 : Int) (2 : Int) (9 : Int) (1 : Int) (1 : Int) (0 : Int) (20 : Int) (2 : Int)] [Route.mk (4 : Int) (0 :
  Int) [Stop.mk (1 : Int) false, Stop.mk (1 : Int) true], Route.mk (5 : Int) (0 : Int) []] (Order.mk (2 : Int) (1 : Int) (0 : Int) (0 : Int) (100 : Int) (1 : Int) (1 : Int) (0 : Int) (100 : Int) (2 : Int)) (100 : Int)).fst).drop = (1 : Int))
  && (decide ((hspot (cheapP (some (MapD.mk (2 : Int) [(0 : Int), (5 : Int), (7 : Int), (0 : Int)])) [Driver.mk (4 : Int) (4 : Int) (1 : Int) (1 : Int) (30 : Int) false, Driver.mk (5 : Int) (4 : Int) (0 : Int) (1 : Int) (30 : Int) false]
  [Order.mk (1 : Int) (3 : Int) (0 : Int) (2 : Int) (9 : Int) (1 : Int) (1 : Int) (0 : Int) (20 : Int) (2 : Int)] [Route.mk (4 : Int) (0 : Int) [Stop.mk (1 : Int) false, Stop.mk (1 : Int) true], Route.mk (5 : Int) (0 : Int) []] (Order.mk (2 :
  Int) (1 : Int) (0 : Int) (0 : Int) (100 : Int) (1 : Int) (1 : Int) (0 : Int) (100 : Int) (2 : Int)) (100 : Int)).fst).cost = (0 : Int)) && true)))) = true → (decide ((cheapP (some (MapD.mk (2 : Int) [(0 : Int), (5 : Int), (7 : Int), (0 :
  Int)])) [Driver.mk (4 : Int) (4 : Int) (1 : Int) (1 : Int) (30 : Int) false, Driver.mk (5 : Int) (4 : Int) (0 : Int) (1 : Int) (30 : Int) false] [Order.mk (1 : Int) (3 : Int) (0 : Int) (2 : Int) (9 : Int) (1 : Int) (1 : Int) (0 : Int) (20 :
  Int) (2 : Int)] [Route.mk (4 : Int) (0 : Int) [Stop.mk (1 : Int) false, Stop.mk (1 : Int) true], Route.mk (5 : Int) (0 : Int) []] (Order.mk (2 : Int) (1 : Int) (0 : Int) (0 : Int) (100 : Int) (1 : Int) (1 : Int) (0 : Int) (100 : Int) (2 :
  Int)) (100 : Int)).fst.steps = (7 : Int)) = true → decide ((cheapP (some (MapD.mk (2 : Int) [(0 : Int), (5 : Int), (7 : Int), (0 : Int)])) [Driver.mk (4 : Int) (4 : Int) (1 : Int) (1 : Int) (30 : Int) false, Driver.mk (5 : Int) (4 : Int) (0
  : Int) (1 : Int) (30 : Int) false] [Order.mk (1 : Int) (3 : Int) (0 : Int) (2 : Int) (9 : Int) (1 : Int) (1 : Int) (0 : Int) (20 : Int) (2 : Int)] [Route.mk (4 : Int) (0 : Int) [Stop.mk (1 : Int) false, Stop.mk (1 : Int) true], Route.mk (5
  : Int) (0 : Int) []] (Order.mk (2 : Int) (1 : Int) (0 : Int) (0 : Int) (100 : Int) (1 : Int) (1 : Int) (0 : Int) (100 : Int) (2 : Int)) (100 : Int)).snd = (0 : Int)) = true) ∧ (decide ((cheapP (some (MapD.mk (2 : Int) [(0 : Int), (5 : Int),
  (7 : Int), (0 : Int)])) [Driver.mk (4 : Int) (4 : Int) (1 : Int) (1 : Int) (30 : Int) false, Driver.mk (5 : Int) (4 : Int) (0 : Int) (1 : Int) (30 : Int) false] [Order.mk (1 : Int) (3 : Int) (0 : Int) (2 : Int) (9 : Int) (1 : Int) (1 : Int)
  (0 : Int) (20 : Int) (2 : Int)] [Route.mk (4 : Int) (0 : Int) [Stop.mk (1 : Int) false, Stop.mk (1 : Int) true], Route.mk (5 : Int) (0 : Int) []] (Order.mk (2 : Int) (1 : Int) (0 : Int) (0 : Int) (100 : Int) (1 : Int) (1 : Int) (0 : Int)
  (100 : Int) (2 : Int)) (100 : Int)).fst.steps = (7 : Int)) = !true → false = true)) ∧ ((decide ((hspot (cheapP (some (MapD.mk (2 : Int) [(0 : Int), (5 : Int), (7 : Int), (0 : Int)])) [Driver.mk (4 : Int) (4 : Int) (1 : Int) (1 : Int) (30 :
  Int) false, Driver.mk (5 : Int) (4 : Int) (0 : Int) (1 : Int) (30 : Int) false] [Order.mk (1 : Int) (3 : Int) (0 : Int) (2 : Int) (9 : Int) (1 : Int) (1 : Int) (0 : Int) (20 : Int) (2 : Int)] [Route.mk (4 : Int) (0 : Int) [Stop.mk (1 : Int)
  false, Stop.mk (1 : Int) true], Route.mk (5 : Int) (0 : Int) []] (Order.mk (2 : Int) (1 : Int) (0 : Int) (0 : Int) (100 : Int) (1 : Int) (1 : Int) (0 : Int) (100 : Int) (2 : Int)) (100 : Int)).fst).driver = (4 : Int)) && (decide ((hspot
  (cheapP (some (MapD.mk (2 : Int) [(0 : Int), (5 : Int), (7 : Int), (0 : Int)])) [Driver.mk (4 : Int) (4 : Int) (1 : Int) (1 : Int) (30 : Int) false, Driver.mk (5 : Int) (4 : Int) (0 : Int) (1 : Int) (30 : Int) false] [Order.mk (1 : Int) (3
  : Int) (0 : Int) (2 : Int) (9 : Int) (1 : Int) (1 : Int) (0 : Int) (20 : Int) (2 : Int)] [Route.mk (4 : Int) (0 : Int) [Stop.mk (1 : Int) false, Stop.mk (1 : Int) true], Route.mk (5 : Int) (0 : Int) []] (Order.mk (2 : Int) (1 : Int) (0 :
  Int) (0 : Int) (100 : Int) (1 : Int) (1 : Int) (0 : Int) (100 : Int) (2 : Int)) (100 : Int)).fst).pick = (0 : Int)) && (decide ((hspot (cheapP (some (MapD.mk (2 : Int) [(0 : Int), (5 : Int), (7 : Int), (0 : Int)])) [Driver.mk (4 : Int) (4 :
  Int) (1 : Int) (1 : Int) (30 : Int) false, Driver.mk (5 : Int) (4 : Int) (0 : Int) (1 : Int) (30 : Int) false] [Order.mk (1 : Int) (3 : Int) (0 : Int) (2 : Int) (9 : Int) (1 : Int) (1 : Int) (0 : Int) (20 : Int) (2 : Int)] [Route.mk (4 :
  Int) (0 : Int) [Stop.mk (1 : Int) false, Stop.mk (1 : Int) true], Route.mk (5 : Int) (0 : Int) []] (Order.mk (2 : Int) (1 : Int) (0 : Int) (0 : Int) (100 : Int) (1 : Int) (1 : Int) (0 : Int) (100 : Int) (2 : Int)) (100 : Int)).fst).drop =
  (1 : Int)) && (decide ((hspot (cheapP (some (MapD.mk (2 : Int) [(0 : Int), (5 : Int), (7 : Int), (0 : Int)])) [Driver.mk (4 : Int) (4 : Int) (1 : Int) (1 : Int) (30 : Int) false, Driver.mk (5 : Int) (4 : Int) (0 : Int) (1 : Int) (30 : Int)
  false] [Order.mk (1 : Int) (3 : Int) (0 : Int) (2 : Int) (9 : Int) (1 : Int) (1 : Int) (0 : Int) (20 : Int) (2 : Int)] [Route.mk (4 : Int) (0 : Int) [Stop.mk (1 : Int) false, Stop.mk (1 : Int) true], Route.mk (5 : Int) (0 : Int) []]
  (Order.mk (2 : Int) (1 : Int) (0 : Int) (0 : Int) (100 : Int) (1 : Int) (1 : Int) (0 : Int) (100 : Int) (2 : Int)) (100 : Int)).fst).cost = (0 : Int)) && true)))) = !true → false = true)) ∧ (isH (bestP (some (MapD.mk (2 : Int) [(0 : Int),
  (5 : Int), (7 : Int), (0 : Int)])) (Driver.mk (4 : Int) (4 : Int) (1 : Int) (1 : Int) (30 : Int) true) [Order.mk (1 : Int) (3 : Int) (0 : Int) (2 : Int) (9 : Int) (1 : Int) (1 : Int) (0 : Int) (20 : Int) (2 : Int)] (Route.mk (4 : Int) (0 :
  Int) [Stop.mk (1 : Int) false, Stop.mk (1 : Int) true]) (Order.mk (2 : Int) (1 : Int) (0 : Int) (0 : Int) (100 : Int) (1 : Int) (1 : Int) (0 : Int) (100 : Int) (2 : Int)) (9 : Int)) (Spot.mk (0 : Int) (0 : Int) (0 : Int) (0 : Int)) (0 :
  Int) (23 : Int) = !true → false = true)) ∧ (isH (bestP (some (MapD.mk (2 : Int) [(0 : Int), (5 : Int), (7 : Int), (0 : Int)])) (Driver.mk (4 : Int) (4 : Int) (1 : Int) (1 : Int) (30 : Int) false) [Order.mk (1 : Int) (3 : Int) (0 : Int) (2 :
  Int) (9 : Int) (1 : Int) (1 : Int) (0 : Int) (20 : Int) (2 : Int)] (Route.mk (4 : Int) (0 : Int) [Stop.mk (1 : Int) false, Stop.mk (1 : Int) true]) (Order.mk (2 : Int) (1 : Int) (0 : Int) (0 : Int) (100 : Int) (1 : Int) (1 : Int) (0 : Int)
  (100 : Int) (2 : Int)) (2 : Int)) (Spot.mk (4 : Int) (0 : Int) (1 : Int) (0 : Int)) (2 : Int) (0 : Int) = !true → false = true)) ∧ (isH (bestP (some (MapD.mk (2 : Int) [(0 : Int), (5 : Int), (7 : Int), (0 : Int)])) (Driver.mk (4 : Int) (4 :
  Int) (1 : Int) (1 : Int) (30 : Int) false) [Order.mk (1 : Int) (3 : Int) (0 : Int) (2 : Int) (9 : Int) (1 : Int) (1 : Int) (0 : Int) (20 : Int) (2 : Int)] (Route.mk (4 : Int) (3 : Int) [Stop.mk (1 : Int) false, Stop.mk (1 : Int) true])
  (Order.mk (2 : Int) (1 : Int) (0 : Int) (0 : Int) (100 : Int) (1 : Int) (1 : Int) (0 : Int) (100 : Int) (2 : Int)) (9 : Int)) (Spot.mk (0 : Int) (0 : Int) (0 : Int) (0 : Int)) (0 : Int) (1 : Int) = !true → (∀ (x : MapD), some (MapD.mk (2 :
  Int) [(0 : Int), (5 : Int), (7 : Int), (0 : Int)]) = some x → MapOk x) ∧ (isH (bestP (some (MapD.mk (2 : Int) [(0 : Int), (5 : Int), (7 : Int), (0 : Int)])) (Driver.mk (4 : Int) (4 : Int) (1 : Int) (1 : Int) (30 : Int) false) [Order.mk (1 :
  Int) (3 : Int) (0 : Int) (2 : Int) (9 : Int) (1 : Int) (1 : Int) (0 : Int) (20 : Int) (2 : Int)] (Route.mk (4 : Int) (0 : Int) [Stop.mk (1 : Int) false, Stop.mk (1 : Int) true]) (Order.mk (2 : Int) (1 : Int) (0 : Int) (0 : Int) (100 : Int)
  (1 : Int) (1 : Int) (0 : Int) (100 : Int) (2 : Int)) (2 : Int)) (Spot.mk (4 : Int) (0 : Int) (1 : Int) (0 : Int)) (2 : Int) (0 : Int) = true → false = true) ∧ (isH (bestP (some (MapD.mk (2 : Int) [(0 : Int), (5 : Int), (7 : Int), (0 :
  Int)])) (Driver.mk (4 : Int) (4 : Int) (1 : Int) (1 : Int) (30 : Int) false) [Order.mk (1 : Int) (3 : Int) (0 : Int) (2 : Int) (9 : Int) (1 : Int) (1 : Int) (0 : Int) (20 : Int) (2 : Int)] (Route.mk (4 : Int) (0 : Int) [Stop.mk (1 : Int)
  false, Stop.mk (1 : Int) true]) (Order.mk (2 : Int) (1 : Int) (0 : Int) (0 : Int) (100 : Int) (1 : Int) (1 : Int) (0 : Int) (100 : Int) (2 : Int)) (2 : Int)) (Spot.mk (4 : Int) (0 : Int) (1 : Int) (0 : Int)) (2 : Int) (0 : Int) = !true →
  false = true))) ∧ (isH (bestP (some (MapD.mk (2 : Int) [(0 : Int), (5 : Int), (7 : Int), (0 : Int)])) (Driver.mk (4 : Int) (4 : Int) (1 : Int) (1 : Int) (30 : Int) false) [Order.mk (1 : Int) (3 : Int) (0 : Int) (2 : Int) (9 : Int) (1 : Int)
  (1 : Int) (0 : Int) (20 : Int) (2 : Int)] (Route.mk (4 : Int) (0 : Int) [Stop.mk (1 : Int) false, Stop.mk (1 : Int) true]) (Order.mk (2 : Int) (1 : Int) (0 : Int) (0 : Int) (100 : Int) (1 : Int) (1 : Int) (0 : Int) (100 : Int) (2 : Int)) (0
  : Int)) (Spot.mk (0 : Int) (0 : Int) (0 : Int) (0 : Int)) (0 : Int) (20 : Int) = !true → (∀ (x : MapD), some (MapD.mk (2 : Int) [(0 : Int), (5 : Int), (7 : Int), (0 : Int)]) = some x → MapOk x) ∧ (isH (bestP (some (MapD.mk (2 : Int) [(0 :
  Int), (5 : Int), (7 : Int), (0 : Int)])) (Driver.mk (4 : Int) (4 : Int) (1 : Int) (1 : Int) (30 : Int) false) [Order.mk (1 : Int) (3 : Int) (0 : Int) (2 : Int) (9 : Int) (1 : Int) (1 : Int) (0 : Int) (20 : Int) (2 : Int)] (Route.mk (4 :
  Int) (0 : Int) [Stop.mk (1 : Int) false, Stop.mk (1 : Int) true]) (Order.mk (2 : Int) (1 : Int) (0 : Int) (0 : Int) (100 : Int) (1 : Int) (1 : Int) (0 : Int) (100 : Int) (2 : Int)) (2 : Int)) (Spot.mk (4 : Int) (0 : Int) (1 : Int) (0 :
  Int)) (2 : Int) (0 : Int) = true → false = true) ∧ (isH (bestP (some (MapD.mk (2 : Int) [(0 : Int), (5 : Int), (7 : Int), (0 : Int)])) (Driver.mk (4 : Int) (4 : Int) (1 : Int) (1 : Int) (30 : Int) false) [Order.mk (1 : Int) (3 : Int) (0 :
  Int) (2 : Int) (9 : Int) (1 : Int) (1 : Int) (0 : Int) (20 : Int) (2 : Int)] (Route.mk (4 : Int) (0 : Int) [Stop.mk (1 : Int) false, Stop.mk (1 : Int) true]) (Order.mk (2 : Int) (1 : Int) (0 : Int) (0 : Int) (100 : Int) (1 : Int) (1 : Int)
  (0 : Int) (100 : Int) (2 : Int)) (2 : Int)) (Spot.mk (4 : Int) (0 : Int) (1 : Int) (0 : Int)) (2 : Int) (0 : Int) = !true → false = true))) ∧ (isH (bestP (some (MapD.mk (2 : Int) [(0 : Int), (5 : Int), (7 : Int), (0 : Int)])) (Driver.mk (4
  : Int) (4 : Int) (1 : Int) (1 : Int) (30 : Int) false) [Order.mk (1 : Int) (3 : Int) (0 : Int) (2 : Int) (9 : Int) (1 : Int) (1 : Int) (0 : Int) (20 : Int) (2 : Int)] (Route.mk (4 : Int) (0 : Int) [Stop.mk (1 : Int) false, Stop.mk (1 : Int)
  true]) (Order.mk (2 : Int) (1 : Int) (0 : Int) (0 : Int) (100 : Int) (1 : Int) (1 : Int) (0 : Int) (100 : Int) (2 : Int)) (1 : Int)) (Spot.mk (0 : Int) (0 : Int) (0 : Int) (0 : Int)) (1 : Int) (20 : Int) = !true → (∀ (x : MapD), some
  (MapD.mk (2 : Int) [(0 : Int), (5 : Int), (7 : Int), (0 : Int)]) = some x → MapOk x) ∧ (isH (bestP (some (MapD.mk (2 : Int) [(0 : Int), (5 : Int), (7 : Int), (0 : Int)])) (Driver.mk (4 : Int) (4 : Int) (1 : Int) (1 : Int) (30 : Int) false)
  [Order.mk (1 : Int) (3 : Int) (0 : Int) (2 : Int) (9 : Int) (1 : Int) (1 : Int) (0 : Int) (20 : Int) (2 : Int)] (Route.mk (4 : Int) (0 : Int) [Stop.mk (1 : Int) false, Stop.mk (1 : Int) true]) (Order.mk (2 : Int) (1 : Int) (0 : Int) (0 :
  Int) (100 : Int) (1 : Int) (1 : Int) (0 : Int) (100 : Int) (2 : Int)) (2 : Int)) (Spot.mk (4 : Int) (0 : Int) (1 : Int) (0 : Int)) (2 : Int) (0 : Int) = true → false = true) ∧ (isH (bestP (some (MapD.mk (2 : Int) [(0 : Int), (5 : Int), (7 :
  Int), (0 : Int)])) (Driver.mk (4 : Int) (4 : Int) (1 : Int) (1 : Int) (30 : Int) false) [Order.mk (1 : Int) (3 : Int) (0 : Int) (2 : Int) (9 : Int) (1 : Int) (1 : Int) (0 : Int) (20 : Int) (2 : Int)] (Route.mk (4 : Int) (0 : Int) [Stop.mk
  (1 : Int) false, Stop.mk (1 : Int) true]) (Order.mk (2 : Int) (1 : Int) (0 : Int) (0 : Int) (100 : Int) (1 : Int) (1 : Int) (0 : Int) (100 : Int) (2 : Int)) (2 : Int)) (Spot.mk (4 : Int) (0 : Int) (1 : Int) (0 : Int)) (2 : Int) (0 : Int) =
  !true → false = true))) ∧ (isH (bestP (some (MapD.mk (2 : Int) [(0 : Int), (5 : Int), (7 : Int), (0 : Int)])) (Driver.mk (4 : Int) (4 : Int) (1 : Int) (1 : Int) (30 : Int) false) [Order.mk (1 : Int) (3 : Int) (0 : Int) (2 : Int) (9 : Int)
  (1 : Int) (1 : Int) (0 : Int) (20 : Int) (2 : Int)] (Route.mk (4 : Int) (0 : Int) [Stop.mk (1 : Int) false, Stop.mk (1 : Int) true]) (Order.mk (2 : Int) (1 : Int) (0 : Int) (0 : Int) (100 : Int) (1 : Int) (1 : Int) (0 : Int) (100 : Int) (2
  : Int)) (9 : Int)) (Spot.mk (4 : Int) (0 : Int) (1 : Int) (0 : Int)) (6 : Int) (0 : Int) = !true → (∀ (x : MapD), some (MapD.mk (2 : Int) [(0 : Int), (5 : Int), (7 : Int), (0 : Int)]) = some x → MapOk x) ∧ (isH (bestP (some (MapD.mk (2 :
  Int) [(0 : Int), (5 : Int), (7 : Int), (0 : Int)])) (Driver.mk (4 : Int) (4 : Int) (1 : Int) (1 : Int) (30 : Int) false) [Order.mk (1 : Int) (3 : Int) (0 : Int) (2 : Int) (9 : Int) (1 : Int) (1 : Int) (0 : Int) (20 : Int) (2 : Int)]
  (Route.mk (4 : Int) (0 : Int) [Stop.mk (1 : Int) false, Stop.mk (1 : Int) true]) (Order.mk (2 : Int) (1 : Int) (0 : Int) (0 : Int) (100 : Int) (1 : Int) (1 : Int) (0 : Int) (100 : Int) (2 : Int)) (1 : Int)) (Spot.mk (0 : Int) (0 : Int) (0 :
  Int) (0 : Int)) (1 : Int) (20 : Int) = true → (∀ (x : MapD), some (MapD.mk (2 : Int) [(0 : Int), (5 : Int), (7 : Int), (0 : Int)]) = some x → MapOk x) ∧ (isH (bestP (some (MapD.mk (2 : Int) [(0 : Int), (5 : Int), (7 : Int), (0 : Int)]))
  (Driver.mk (4 : Int) (4 : Int) (1 : Int) (1 : Int) (30 : Int) false) [Order.mk (1 : Int) (3 : Int) (0 : Int) (2 : Int) (9 : Int) (1 : Int) (1 : Int) (0 : Int) (20 : Int) (2 : Int)] (Route.mk (4 : Int) (0 : Int) [Stop.mk (1 : Int) false,
  Stop.mk (1 : Int) true]) (Order.mk (2 : Int) (1 : Int) (0 : Int) (0 : Int) (100 : Int) (1 : Int) (1 : Int) (0 : Int) (100 : Int) (2 : Int)) (0 : Int)) (Spot.mk (0 : Int) (0 : Int) (0 : Int) (0 : Int)) (0 : Int) (20 : Int) = true → (∀ (x :
  MapD), some (MapD.mk (2 : Int) [(0 : Int), (5 : Int), (7 : Int), (0 : Int)]) = some x → MapOk x) ∧ (isH (bestP (some (MapD.mk (2 : Int) [(0 : Int), (5 : Int), (7 : Int), (0 : Int)])) (Driver.mk (4 : Int) (4 : Int) (1 : Int) (1 : Int) (30 :
  Int) false) [Order.mk (1 : Int) (3 : Int) (0 : Int) (2 : Int) (9 : Int) (1 : Int) (1 : Int) (0 : Int) (20 : Int) (2 : Int)] (Route.mk (4 : Int) (3 : Int) [Stop.mk (1 : Int) false, Stop.mk (1 : Int) true]) (Order.mk (2 : Int) (1 : Int) (0 :
  Int) (0 : Int) (100 : Int) (1 : Int) (1 : Int) (0 : Int) (100 : Int) (2 : Int)) (9 : Int)) (Spot.mk (0 : Int) (0 : Int) (0 : Int) (0 : Int)) (0 : Int) (1 : Int) = true → (∀ (x : MapD), some (MapD.mk (2 : Int) [(0 : Int), (5 : Int), (7 :
  Int), (0 : Int)]) = some x → MapOk x) ∧ (∀ (x : MapD), some (MapD.mk (2 : Int) [(0 : Int), (5 : Int), (7 : Int), (0 : Int)]) = some x → MapOk x) ∧ false = true) ∧ (isH (bestP (some (MapD.mk (2 : Int) [(0 : Int), (5 : Int), (7 : Int), (0 :
  Int)])) (Driver.mk (4 : Int) (4 : Int) (1 : Int) (1 : Int) (30 : Int) false) [Order.mk (1 : Int) (3 : Int) (0 : Int) (2 : Int) (9 : Int) (1 : Int) (1 : Int) (0 : Int) (20 : Int) (2 : Int)] (Route.mk (4 : Int) (3 : Int) [Stop.mk (1 : Int)
  false, Stop.mk (1 : Int) true]) (Order.mk (2 : Int) (1 : Int) (0 : Int) (0 : Int) (100 : Int) (1 : Int) (1 : Int) (0 : Int) (100 : Int) (2 : Int)) (9 : Int)) (Spot.mk (0 : Int) (0 : Int) (0 : Int) (0 : Int)) (0 : Int) (1 : Int) = !true → (∀
  (x : MapD), some (MapD.mk (2 : Int) [(0 : Int), (5 : Int), (7 : Int), (0 : Int)]) = some x → MapOk x) ∧ false = true)) ∧ (isH (bestP (some (MapD.mk (2 : Int) [(0 : Int), (5 : Int), (7 : Int), (0 : Int)])) (Driver.mk (4 : Int) (4 : Int) (1 :
  Int) (1 : Int) (30 : Int) false) [Order.mk (1 : Int) (3 : Int) (0 : Int) (2 : Int) (9 : Int) (1 : Int) (1 : Int) (0 : Int) (20 : Int) (2 : Int)] (Route.mk (4 : Int) (0 : Int) [Stop.mk (1 : Int) false, Stop.mk (1 : Int) true]) (Order.mk (2 :
  Int) (1 : Int) (0 : Int) (0 : Int) (100 : Int) (1 : Int) (1 : Int) (0 : Int) (100 : Int) (2 : Int)) (0 : Int)) (Spot.mk (0 : Int) (0 : Int) (0 : Int) (0 : Int)) (0 : Int) (20 : Int) = !true → (∀ (x : MapD), some (MapD.mk (2 : Int) [(0 :
  Int), (5 : Int), (7 : Int), (0 : Int)]) = some x → MapOk x) ∧ false = true)) ∧ (isH (bestP (some (MapD.mk (2 : Int) [(0 : Int), (5 : Int), (7 : Int), (0 : Int)])) (Driver.mk (4 : Int) (4 : Int) (1 : Int) (1 : Int) (30 : Int) false)
  [Order.mk (1 : Int) (3 : Int) (0 : Int) (2 : Int) (9 : Int) (1 : Int) (1 : Int) (0 : Int) (20 : Int) (2 : Int)] (Route.mk (4 : Int) (0 : Int) [Stop.mk (1 : Int) false, Stop.mk (1 : Int) true]) (Order.mk (2 : Int) (1 : Int) (0 : Int) (0 :
  Int) (100 : Int) (1 : Int) (1 : Int) (0 : Int) (100 : Int) (2 : Int)) (1 : Int)) (Spot.mk (0 : Int) (0 : Int) (0 : Int) (0 : Int)) (1 : Int) (20 : Int) = !true → (∀ (x : MapD), some (MapD.mk (2 : Int) [(0 : Int), (5 : Int), (7 : Int), (0 :
  Int)]) = some x → MapOk x) ∧ false = true))) ∧ (isH (bestP (some (MapD.mk (2 : Int) [(0 : Int), (5 : Int), (7 : Int), (0 : Int)])) (Driver.mk (4 : Int) (4 : Int) (1 : Int) (1 : Int) (30 : Int) false) [] (Route.mk (4 : Int) (0 : Int) [])
  (Order.mk (1 : Int) (3 : Int) (0 : Int) (2 : Int) (9 : Int) (1 : Int) (1 : Int) (0 : Int) (20 : Int) (2 : Int)) (9 : Int)) (Spot.mk (4 : Int) (0 : Int) (0 : Int) (12 : Int)) (1 : Int) (0 : Int) = !true → (∀ (x : MapD), some (MapD.mk (2 :
  Int) [(0 : Int), (5 : Int), (7 : Int), (0 : Int)]) = some x → MapOk x) ∧ (isH (bestP (some (MapD.mk (2 : Int) [(0 : Int), (5 : Int), (7 : Int), (0 : Int)])) (Driver.mk (4 : Int) (4 : Int) (1 : Int) (1 : Int) (30 : Int) false) [Order.mk (1 :
  Int) (3 : Int) (0 : Int) (2 : Int) (9 : Int) (1 : Int) (1 : Int) (0 : Int) (20 : Int) (2 : Int)] (Route.mk (4 : Int) (0 : Int) [Stop.mk (1 : Int) false, Stop.mk (1 : Int) true]) (Order.mk (2 : Int) (1 : Int) (0 : Int) (0 : Int) (100 : Int)
  (1 : Int) (1 : Int) (0 : Int) (100 : Int) (2 : Int)) (1 : Int)) (Spot.mk (0 : Int) (0 : Int) (0 : Int) (0 : Int)) (1 : Int) (20 : Int) = true → (∀ (x : MapD), some (MapD.mk (2 : Int) [(0 : Int), (5 : Int), (7 : Int), (0 : Int)]) = some x →
  MapOk x) ∧ (isH (bestP (some (MapD.mk (2 : Int) [(0 : Int), (5 : Int), (7 : Int), (0 : Int)])) (Driver.mk (4 : Int) (4 : Int) (1 : Int) (1 : Int) (30 : Int) false) [Order.mk (1 : Int) (3 : Int) (0 : Int) (2 : Int) (9 : Int) (1 : Int) (1 :
  Int) (0 : Int) (20 : Int) (2 : Int)] (Route.mk (4 : Int) (0 : Int) [Stop.mk (1 : Int) false, Stop.mk (1 : Int) true]) (Order.mk (2 : Int) (1 : Int) (0 : Int) (0 : Int) (100 : Int) (1 : Int) (1 : Int) (0 : Int) (100 : Int) (2 : Int)) (0 :
  Int)) (Spot.mk (0 : Int) (0 : Int) (0 : Int) (0 : Int)) (0 : Int) (20 : Int) = true → (∀ (x : MapD), some (MapD.mk (2 : Int) [(0 : Int), (5 : Int), (7 : Int), (0 : Int)]) = some x → MapOk x) ∧ (isH (bestP (some (MapD.mk (2 : Int) [(0 :
  Int), (5 : Int), (7 : Int), (0 : Int)])) (Driver.mk (4 : Int) (4 : Int) (1 : Int) (1 : Int) (30 : Int) false) [Order.mk (1 : Int) (3 : Int) (0 : Int) (2 : Int) (9 : Int) (1 : Int) (1 : Int) (0 : Int) (20 : Int) (2 : Int)] (Route.mk (4 :
  Int) (3 : Int) [Stop.mk (1 : Int) false, Stop.mk (1 : Int) true]) (Order.mk (2 : Int) (1 : Int) (0 : Int) (0 : Int) (100 : Int) (1 : Int) (1 : Int) (0 : Int) (100 : Int) (2 : Int)) (9 : Int)) (Spot.mk (0 : Int) (0 : Int) (0 : Int) (0 :
  Int)) (0 : Int) (1 : Int) = true → (∀ (x : MapD), some (MapD.mk (2 : Int) [(0 : Int), (5 : Int), (7 : Int), (0 : Int)]) = some x → MapOk x) ∧ (∀ (x : MapD), some (MapD.mk (2 : Int) [(0 : Int), (5 : Int), (7 : Int), (0 : Int)]) = some x →
  MapOk x) ∧ false = true) ∧ (isH (bestP (some (MapD.mk (2 : Int) [(0 : Int), (5 : Int), (7 : Int), (0 : Int)])) (Driver.mk (4 : Int) (4 : Int) (1 : Int) (1 : Int) (30 : Int) false) [Order.mk (1 : Int) (3 : Int) (0 : Int) (2 : Int) (9 : Int)
  (1 : Int) (1 : Int) (0 : Int) (20 : Int) (2 : Int)] (Route.mk (4 : Int) (3 : Int) [Stop.mk (1 : Int) false, Stop.mk (1 : Int) true]) (Order.mk (2 : Int) (1 : Int) (0 : Int) (0 : Int) (100 : Int) (1 : Int) (1 : Int) (0 : Int) (100 : Int) (2
  : Int)) (9 : Int)) (Spot.mk (0 : Int) (0 : Int) (0 : Int) (0 : Int)) (0 : Int) (1 : Int) = !true → (∀ (x : MapD), some (MapD.mk (2 : Int) [(0 : Int), (5 : Int), (7 : Int), (0 : Int)]) = some x → MapOk x) ∧ false = true)) ∧ (isH (bestP (some
  (MapD.mk (2 : Int) [(0 : Int), (5 : Int), (7 : Int), (0 : Int)])) (Driver.mk (4 : Int) (4 : Int) (1 : Int) (1 : Int) (30 : Int) false) [Order.mk (1 : Int) (3 : Int) (0 : Int) (2 : Int) (9 : Int) (1 : Int) (1 : Int) (0 : Int) (20 : Int) (2 :
  Int)] (Route.mk (4 : Int) (0 : Int) [Stop.mk (1 : Int) false, Stop.mk (1 : Int) true]) (Order.mk (2 : Int) (1 : Int) (0 : Int) (0 : Int) (100 : Int) (1 : Int) (1 : Int) (0 : Int) (100 : Int) (2 : Int)) (0 : Int)) (Spot.mk (0 : Int) (0 :
  Int) (0 : Int) (0 : Int)) (0 : Int) (20 : Int) = !true → (∀ (x : MapD), some (MapD.mk (2 : Int) [(0 : Int), (5 : Int), (7 : Int), (0 : Int)]) = some x → MapOk x) ∧ false = true)) ∧ (isH (bestP (some (MapD.mk (2 : Int) [(0 : Int), (5 : Int),
  (7 : Int), (0 : Int)])) (Driver.mk (4 : Int) (4 : Int) (1 : Int) (1 : Int) (30 : Int) false) [Order.mk (1 : Int) (3 : Int) (0 : Int) (2 : Int) (9 : Int) (1 : Int) (1 : Int) (0 : Int) (20 : Int) (2 : Int)] (Route.mk (4 : Int) (0 : Int)
  [Stop.mk (1 : Int) false, Stop.mk (1 : Int) true]) (Order.mk (2 : Int) (1 : Int) (0 : Int) (0 : Int) (100 : Int) (1 : Int) (1 : Int) (0 : Int) (100 : Int) (2 : Int)) (1 : Int)) (Spot.mk (0 : Int) (0 : Int) (0 : Int) (0 : Int)) (1 : Int) (20
  : Int) = !true → (∀ (x : MapD), some (MapD.mk (2 : Int) [(0 : Int), (5 : Int), (7 : Int), (0 : Int)]) = some x → MapOk x) ∧ false = true))) ∧ ((!decide ((0 : Int) = (0 : Int))) = !false → false = true)
theorem insertRuns_told (hc : CsOk Try.prog insertRuns_cs) (h : insertRuns_vc) : Told Try.prog 5 insertRuns_con := told (A := insertRuns_la) tabOk mixed hc Try.func5 (by kernel_rfl) (by kernel_rfl) h
end Go.Eng

/- The conditions of functions, as print.. of the engine told them. -/
set_option linter.unusedVariables false
namespace Go.Eng
open Go Go.Proofs
def lbest_vc : Prop :=
  (∀ (x : Driver) (x_1 : List Order), LenOk x_1.length → ∀ (x_3 : Route), LenOk x_3.stops.length → ∀ (x_5 : Order) (x_6 : Int) (x_7 : Spot) (x_8 x_9 : Int), (∀ (x : MapD), none = some x → MapOk x) → (∀ (x : MapD), none = some x → MapOk x) ∧
  ((decide ((hspot (bestP none x x_1 x_3 x_5 x_6).fst).driver = x_7.driver) && (decide ((hspot (bestP none x x_1 x_3 x_5 x_6).fst).pick = x_7.pick) && (decide ((hspot (bestP none x x_1 x_3 x_5 x_6).fst).drop = x_7.drop) && (decide ((hspot
  (bestP none x x_1 x_3 x_5 x_6).fst).cost = x_7.cost) && true)))) = true → (decide ((bestP none x x_1 x_3 x_5 x_6).fst.steps = x_8) = true → decide ((bestP none x x_1 x_3 x_5 x_6).snd = x_9) = isH (bestP none x x_1 x_3 x_5 x_6) x_7 x_8 x_9)
  ∧ (decide ((bestP none x x_1 x_3 x_5 x_6).fst.steps = x_8) = !true → false = isH (bestP none x x_1 x_3 x_5 x_6) x_7 x_8 x_9)) ∧ ((decide ((hspot (bestP none x x_1 x_3 x_5 x_6).fst).driver = x_7.driver) && (decide ((hspot (bestP none x x_1
  x_3 x_5 x_6).fst).pick = x_7.pick) && (decide ((hspot (bestP none x x_1 x_3 x_5 x_6).fst).drop = x_7.drop) && (decide ((hspot (bestP none x x_1 x_3 x_5 x_6).fst).cost = x_7.cost) && true)))) = !true → false = isH (bestP none x x_1 x_3 x_5
  x_6) x_7 x_8 x_9)) ∧ ∀ (x : MapD), LenOk x.l.length → ∀ (x_2 : Driver) (x_3 : List Order), LenOk x_3.length → ∀ (x_5 : Route), LenOk x_5.stops.length → ∀ (x_7 : Order) (x_8 : Int) (x_9 : Spot) (x_10 x_11 : Int), (∀ (x_12 : MapD), some x =
  some x_12 → MapOk x_12) → (∀ (x_13 : MapD), some x = some x_13 → MapOk x_13) ∧ ((decide ((hspot (bestP (some x) x_2 x_3 x_5 x_7 x_8).fst).driver = x_9.driver) && (decide ((hspot (bestP (some x) x_2 x_3 x_5 x_7 x_8).fst).pick = x_9.pick) &&
  (decide ((hspot (bestP (some x) x_2 x_3 x_5 x_7 x_8).fst).drop = x_9.drop) && (decide ((hspot (bestP (some x) x_2 x_3 x_5 x_7 x_8).fst).cost = x_9.cost) && true)))) = true → (decide ((bestP (some x) x_2 x_3 x_5 x_7 x_8).fst.steps = x_10) =
  true → decide ((bestP (some x) x_2 x_3 x_5 x_7 x_8).snd = x_11) = isH (bestP (some x) x_2 x_3 x_5 x_7 x_8) x_9 x_10 x_11) ∧ (decide ((bestP (some x) x_2 x_3 x_5 x_7 x_8).fst.steps = x_10) = !true → false = isH (bestP (some x) x_2 x_3 x_5
  x_7 x_8) x_9 x_10 x_11)) ∧ ((decide ((hspot (bestP (some x) x_2 x_3 x_5 x_7 x_8).fst).driver = x_9.driver) && (decide ((hspot (bestP (some x) x_2 x_3 x_5 x_7 x_8).fst).pick = x_9.pick) && (decide ((hspot (bestP (some x) x_2 x_3 x_5 x_7
  x_8).fst).drop = x_9.drop) && (decide ((hspot (bestP (some x) x_2 x_3 x_5 x_7 x_8).fst).cost = x_9.cost) && true)))) = !true → false = isH (bestP (some x) x_2 x_3 x_5 x_7 x_8) x_9 x_10 x_11)
theorem lbest_told (hc : CsOk Try.prog lbest_cs) (h : lbest_vc) : Told Try.prog 22 lbest_con := told (A := lbest_la) tabOk mixed hc Try.func22 (by kernel_rfl) (by kernel_rfl) h
def oneR_vc : Prop :=
  ∀ (x : List Route), (LenOk x.length ∧ ∀ (r : Route), List.Mem r x → LenOk r.stops.length) → ∀ (x_2 : Int), (decide ((↑x.length : Int) = (0 : Int)) = true → ((0 : Int) = (oneP x x_2).driver ∧ (0 : Int) = (oneP x x_2).served) ∧ (oneP x
  x_2).stops = nilOf Stop) ∧ (decide ((↑x.length : Int) = (0 : Int)) = false → ((0 : Int) ≤ wrap ((↑x.length : Int) - (1 : Int)) ∧ (0 : Int) ≤ (0 : Int) ∧ wrap ((↑x.length : Int) - (1 : Int)) ≤ (9223372036854775806 : Int)) ∧ ((0 : Int) ≤
  bwithin x_2 (0 : Int) (wrap ((↑x.length : Int) - (1 : Int))) ∧ bwithin x_2 (0 : Int) (wrap ((↑x.length : Int) - (1 : Int))) < (↑x.length : Int)) ∧ (bwithin x_2 (0 : Int) (wrap ((↑x.length : Int) - (1 : Int)))).toNat < x.length ∧ ((x.getD
  (bwithin x_2 (0 : Int) (wrap ((↑x.length : Int) - (1 : Int)))).toNat (Route.mk (0 : Int) (0 : Int) [])).driver = (oneP x x_2).driver ∧ (x.getD (bwithin x_2 (0 : Int) (wrap ((↑x.length : Int) - (1 : Int)))).toNat (Route.mk (0 : Int) (0 :
  Int) [])).served = (oneP x x_2).served) ∧ (x.getD (bwithin x_2 (0 : Int) (wrap ((↑x.length : Int) - (1 : Int)))).toNat (Route.mk (0 : Int) (0 : Int) [])).stops = (oneP x x_2).stops)
theorem oneR_told (hc : CsOk Try.prog oneR_cs) (h : oneR_vc) : Told Try.prog 11 oneR_con := told (A := oneR_la) tabOk mixed hc Try.func11 (by kernel_rfl) (by kernel_rfl) h
end Go.Eng

/- An order's place looked for, without any program: the price that is told is what the route costs more. -/
set_option linter.unusedVariables false
set_option linter.unusedSimpArgs false
namespace Go.Eng
open Go Go.Proofs
def RightGo (os : List Order) : List Stop → List Stop → Prop
  | _, [] => True
  | ah, s :: l => wrongE os ah s = 0 ∧ RightGo os (ah ++ [s]) l
theorem rightGo_app {os : List Order} : ∀ (x y ah : List Stop), RightGo os ah (x ++ y) ↔ RightGo os ah x ∧ RightGo os (ah ++ x) y
  | [], y, ah => by simp [RightGo]
  | s :: x, y, ah => by
    rw [List.cons_append, RightGo, RightGo, rightGo_app x y (ah ++ [s]), and_assoc, List.append_assoc]; rfl
theorem wrongE_zero {os : List Order} {ah : List Stop} {s : Stop} : wrongE os ah s = 0 ↔ (findO os s.order).isSome = true ∧ s ∉ ah ∧ (s.drop = true → ⟨s.order, false⟩ ∈ ah) := by
  have h1 := @stands_iff ah s
  have h2 := @stands_iff ah ⟨s.order, false⟩
  unfold wrongE
  rw [findO_isNone]
  cases hf : (findO os s.order).isSome <;> cases hs : stands ah s <;> cases hd : s.drop <;> cases hp : stands ah ⟨s.order, false⟩ <;> simp [hs, hp] at h1 h2 ⊢ <;> first | exact h1 | exact ⟨h1, h2⟩ | grind
theorem rightGo_more {os os' : List Order} (hk : ∀ id, (findO os id).isSome = true → (findO os' id).isSome = true) : ∀ (l ah ah' : List Stop), RightGo os ah l → (∀ x ∈ ah, x ∈ ah') → (∀ s ∈ l, s ∈ ah' → s ∈ ah) → RightGo os' ah' l
  | [], _, _, _, _, _ => trivial
  | s :: l, ah, ah', h, h1, h2 => by
    obtain ⟨hw, hr⟩ := h
    obtain ⟨a, b, c⟩ := wrongE_zero.1 hw
    refine ⟨wrongE_zero.2 ⟨hk _ a, fun q => b (h2 s (by simp) q), fun q => h1 _ (c q)⟩, rightGo_more hk l (ah ++ [s]) (ah' ++ [s]) hr (fun x hx => ?_) fun x hx q => ?_⟩
    · rcases List.mem_append.1 hx with q | q
      · exact List.mem_append_left _ (h1 x q)
      · exact List.mem_append_right _ q
    · rcases List.mem_append.1 q with q | q
      · exact List.mem_append_left _ (h2 x (by simp [hx]) q)
      · exact List.mem_append_right _ q
theorem rightGo_known {os : List Order} : ∀ (l ah : List Stop), RightGo os ah l → ∀ s ∈ l, (findO os s.order).isSome = true
  | [], _, _ => by simp
  | t :: l, ah, h => fun s hs => by
    rcases List.mem_cons.1 hs with rfl | hs
    · exact (wrongE_zero.1 h.1).1
    · exact rightGo_known l _ h.2 s hs
theorem driveGo_right {m : MapD} {d : Driver} {os : List Order} : ∀ (l ah : List Stop) (p : Pos) (v : List Visit), driveGo m d os ah l p = .ok v → RightGo os ah l
  | [], _, _, _, _ => trivial
  | s :: l, ah, p, v, h => by
    rw [driveGo] at h
    cases ht : tryStop m d os ah s p with
    | error e => rw [ht] at h; cases h
    | ok w =>
      rw [ht] at h
      dsimp only at h
      cases hg : driveGo m d os (ah ++ [s]) l (after os s w) with
      | error f => rw [hg] at h; cases h
      | ok vs =>
        refine ⟨?_, driveGo_right l _ _ vs hg⟩
        unfold tryStop at ht
        split at ht
        · cases ht
        · omega
structure AtS (m : MapD) (st : State) (K : Nat) : Prop where
  pos : 0 ≤ st.pos ∧ st.pos < m.n
  now : 0 ≤ st.now ∧ st.now ≤ 1000000
  load : -(1000 * (K : Int)) ≤ st.load ∧ st.load ≤ 1000 * K
  way : 0 ≤ st.way ∧ st.way ≤ 1000000 * K
def moreL : List Leg → Int
  | [] => 0
  | l :: ls => l.more + moreL ls
theorem moreL_app : ∀ (x y : List Leg), moreL (x ++ y) = moreL x + moreL y
  | [], y => by simp [moreL]
  | l :: x, y => by rw [List.cons_append, moreL, moreL, moreL_app x y]; omega
theorem leg_site {os : List Order} {s : Stop} : (legT os s).pl = (stopSite os s).pl ∧ (legT os s).lo = (stopSite os s).lo ∧ (legT os s).hi = (stopSite os s).hi ∧ (legT os s).sv = (stopSite os s).sv := by
  unfold legT stopSite legO siteOf
  cases s.drop <;> exact ⟨rfl, rfl, rfl, rfl⟩
theorem leg_more {m : MapD} {os : List Order} {s : Stop} {load : Int} (hk : OrderOk m (fo os s.order)) : loadOf os s load = load + (legT os s).more ∧ -1000 ≤ (legT os s).more ∧ (legT os s).more ≤ 1000 := by
  have h := hk.size
  unfold loadOf legT legO
  cases s.drop
  · simp; omega
  · have : wrap (-(fo os s.order).size) = -(fo os s.order).size := wrap_id (by omega) (by omega)
    simp [this]; omega
theorem step_try {m : MapD} {d : Driver} {os : List Order} {ah : List Stop} {s : Stop} {st : State} {K : Nat} (hm : MapOk m) (hd : DriverOk m d) (hk : knownO (some m) os = true) (hw : wrongE os ah s = 0) (hK : K ≤ 1000) (ha : AtS m st K) :
    ((stepS m d st (legT os s)).2 = true → ∃ v, tryStop m d os ah s ⟨st.now, st.pos, st.load⟩ = .ok v ∧ after os s v = ⟨(stepS m d st (legT os s)).1.now, (stepS m d st (legT os s)).1.pos, (stepS m d st (legT os s)).1.load⟩ ∧ AtS m (stepS m d st (legT os s)).1 (K + 1) ∧
      (stepS m d st (legT os s)).1.way = st.way + tm m st.pos (stopSite os s).pl ∧ (stepS m d st (legT os s)).1.load = st.load + (legT os s).more ∧ (stepS m d st (legT os s)).1.pos = (stopSite os s).pl) ∧
    ((stepS m d st (legT os s)).2 = false → ∃ e, tryStop m d os ah s ⟨st.now, st.pos, st.load⟩ = .error e ∧ e ≠ 0) := by
  obtain ⟨hO, _, _⟩ := fo_ok hk (wrongE_some hw)
  have hS : SiteOk m (stopSite os s) := siteOf_ok hO s.drop
  obtain ⟨lm, lm1, lm2⟩ := leg_more (load := st.load) hO
  obtain ⟨l1, l2, l3, l4⟩ := @leg_site os s
  have hT : stepT m st (legT os s) = tm m st.pos (stopSite os s).pl := by
    unfold stepT; rw [l1, mtime_in ha.pos.1 ha.pos.2 hS.pl.1 hS.pl.2]
  obtain ⟨t0, t1⟩ := tm_bound hm st.pos (stopSite os s).pl
  have hB : stepB m st (legT os s) = begin_ (stopSite os s).win (st.now + tm m st.pos (stopSite os s).pl) := by
    unfold stepB
    have := ha.now
    rw [hT, wrap_id (by omega) (by omega), l2, l3]; rfl
  have hlw : wrap (st.load + (legT os s).more) = st.load + (legT os s).more := wrap_id (by have := ha.load; omega) (by have := ha.load; omega)
  have hww : wrap (st.way + stepT m st (legT os s)) = st.way + tm m st.pos (stopSite os s).pl := by rw [hT]; exact wrap_id (by have := ha.way; omega) (by have := ha.way; omega)
  have e1 : (stepS m d st (legT os s)).1.load = st.load + (legT os s).more := hlw
  have e2 : (stepS m d st (legT os s)).1.way = st.way + tm m st.pos (stopSite os s).pl := hww
  have e3 : (stepS m d st (legT os s)).1.pos = (stopSite os s).pl := l1
  have e4 : (stepS m d st (legT os s)).1.now = wrap ((stepB m st (legT os s)).1 + (stopSite os s).sv) := by rw [← l4]; rfl
  have e5 : (stepS m d st (legT os s)).2 = ((stepB m st (legT os s)).2 && decide ((stepS m d st (legT os s)).1.now ≤ d.hi) && decide ((stepS m d st (legT os s)).1.load ≤ d.room)) := rfl
  have hT0 : tryStop m d os ah s ⟨st.now, st.pos, st.load⟩ = if loadOf os s st.load > d.room then .error 14 else match served m st.pos st.now (stopSite os s) d.hi with
    | none => .error 15
    | some b => .ok ⟨s.order, s.drop, st.now + tm m st.pos (stopSite os s).pl, b.1, b.2, loadOf os s st.load⟩ := by
    unfold tryStop; rw [if_neg (by omega)]; rfl
  cases hb : (stepB m st (legT os s)).2 with
  | false =>
    rw [e5, hb]
    refine ⟨fun h => (by simp at h), fun _ => ?_⟩
    rw [hB] at hb
    rw [hT0, served_none (.inl hb)]
    by_cases h : loadOf os s st.load > d.room
    · rw [if_pos h]; exact ⟨14, rfl, by decide⟩
    · rw [if_neg h]; exact ⟨15, rfl, by decide⟩
  | true =>
    have hb' := hb
    rw [hB] at hb'
    obtain ⟨⟨w0, w1, w2⟩, w3, w4⟩ := begin_true hb'
    have hwn : wrap ((stepB m st (legT os s)).1 + (stopSite os s).sv) = (begin_ (stopSite os s).win (st.now + tm m st.pos (stopSite os s).pl)).1 + (stopSite os s).sv := by
      have := hS.sv
      have := ha.now
      rw [hB]; exact wrap_id (by rw [w4]; omega) (by rw [w4]; omega)
    rw [hwn] at e4
    rw [e5, hb, e1, e4, hT0, lm]
    refine ⟨fun h => ?_, fun h => ?_⟩
    · simp only [Bool.true_and, Bool.and_eq_true, decide_eq_true_eq] at h
      rw [if_neg (by omega), served_some hb' h.1]
      refine ⟨_, rfl, ?_, ⟨?_, ?_, ?_, ?_⟩, e2, rfl, e3⟩
      · unfold after; rw [e3]
      · rw [e3]; exact hS.pl
      · rw [e4, w4]; have := hS.sv; have := ha.now; have := hd.win; omega
      · rw [e1]; have := ha.load; omega
      · rw [e2]; have := ha.way; omega
    · by_cases hl : st.load + (legT os s).more > d.room
      · rw [if_pos hl]; exact ⟨14, rfl, by decide⟩
      · have hn : ¬ ((begin_ (stopSite os s).win (st.now + tm m st.pos (stopSite os s).pl)).1 + (stopSite os s).sv ≤ d.hi) := fun q => by
          have : st.load + (legT os s).more ≤ d.room := by omega
          simp [q, this] at h
        rw [if_neg hl, served_none (.inr (by omega))]; exact ⟨15, rfl, by decide⟩
theorem runS_app {m : MapD} {d : Driver} : ∀ (x y : List Leg) (r : State × Bool), runS m d r (x ++ y) = runS m d (runS m d r x) y
  | [], _, _ => rfl
  | l :: x, y, ⟨s, true⟩ => by rw [List.cons_append, runS_true, runS_true, runS_app x y]
  | l :: x, y, ⟨s, false⟩ => by rw [runS_false, runS_false, runS_false]
theorem run_drive {m : MapD} {d : Driver} {os : List Order} (hm : MapOk m) (hd : DriverOk m d) (hk : knownO (some m) os = true) : ∀ (l ah : List Stop) (st : State) (K : Nat), RightGo os ah l → K + l.length ≤ 1000 → AtS m st K →
    (good (fauR (driveGo m d os ah l ⟨st.now, st.pos, st.load⟩)) = true ↔ (runS m d (st, true) (l.map (legT os))).2 = true ∧ (runS m d (st, true) (l.map (legT os))).1.load ≤ 0) ∧
    ((runS m d (st, true) (l.map (legT os))).2 = true → (runS m d (st, true) (l.map (legT os))).1.way = st.way + wayGo m os st.pos l ∧ (runS m d (st, true) (l.map (legT os))).1.load = st.load + moreL (l.map (legT os)))
  | [], ah, st, K, _, _, _ => by
    rw [driveGo, List.map_nil, runS, wayGo, moreL]
    refine ⟨⟨fun h => ⟨rfl, ?_⟩, fun h => ?_⟩, fun _ => ⟨(by dsimp only; omega), (by dsimp only; omega)⟩⟩
    · dsimp only
      by_cases q : 0 < st.load
      · rw [if_pos q] at h; simp [fauR, good] at h
      · omega
    · rw [if_neg (by dsimp only at h ⊢; omega)]; rfl
  | s :: l, ah, st, K, hR, hK, ha => by
    rw [List.length_cons] at hK
    obtain ⟨h1, h2⟩ := step_try (d := d) (s := s) hm hd hk hR.1 (by omega : K ≤ 1000) ha
    rw [List.map_cons, runS_true, driveGo]
    cases hs : (stepS m d st (legT os s)).2 with
    | true =>
      obtain ⟨v, e1, e2, e3, e4, e5, e6⟩ := h1 hs
      have e7 : stepS m d st (legT os s) = ((stepS m d st (legT os s)).1, true) := by rw [← hs]
      obtain ⟨i1, i2⟩ := run_drive hm hd hk l (ah ++ [s]) (stepS m d st (legT os s)).1 (K + 1) hR.2 (by omega) e3
      rw [e7, e1]
      dsimp only
      rw [e2]
      refine ⟨?_, fun h => ?_⟩
      · rw [← i1]
        cases driveGo m d os (ah ++ [s]) l ⟨(stepS m d st (legT os s)).1.now, (stepS m d st (legT os s)).1.pos, (stepS m d st (legT os s)).1.load⟩ with
        | ok vs => simp [fauR, good]
        | error f => exact Iff.rfl
      · obtain ⟨j1, j2⟩ := i2 h
        rw [j1, j2, e4, e5, e6, wayGo, moreL]
        exact ⟨by omega, by omega⟩
    | false =>
      obtain ⟨e, e1, e2⟩ := h2 hs
      have e7 : stepS m d st (legT os s) = ((stepS m d st (legT os s)).1, false) := by rw [← hs]
      rw [e7, e1, runS_false]
      refine ⟨⟨fun h => ?_, fun h => (by cases h.1)⟩, fun h => (by cases h)⟩
      simp [fauR, good, e2] at h
theorem pre_run {m : MapD} {d : Driver} {os : List Order} : ∀ (l : List Stop) (st : State), (runS m d (st, true) (l.map (legT os))).2 = true → ∀ k, k ≤ l.length → runS m d (st, true) ((l.take k).map (legT os)) = ((st :: preGo m d os st l).getD k sz, true)
  | _, st, _, 0, _ => by rw [List.take_zero, List.map_nil, runS]; rfl
  | [], st, _, k + 1, hk => by simp at hk
  | s :: l, st, h, k + 1, hk => by
    rw [List.map_cons, runS_true] at h
    rw [List.take_succ_cons, List.map_cons, runS_true]
    cases hs : (stepS m d st (legT os s)).2 with
    | true =>
      have e7 : stepS m d st (legT os s) = (stepN m st (legT os s), true) := by rw [← hs]; rfl
      rw [e7] at h ⊢
      rw [pre_run l _ h k (by simpa using hk), preGo]
      rfl
    | false =>
      have e7 : stepS m d st (legT os s) = ((stepS m d st (legT os s)).1, false) := by rw [← hs]
      rw [e7, runS_false] at h
      cases h
theorem findO_add {os : List Order} {o : Order} : ∀ {id : Int}, findO (os ++ [o]) id = if (findO os id).isSome then findO os id else if o.id = id then some o else none := by
  intro id
  induction os with
  | nil => simp [findO]
  | cons a l ih =>
    rw [List.cons_append, findO, findO]
    by_cases h : a.id = id
    · rw [if_pos h, if_pos h]; rfl
    · rw [if_neg h, if_neg h, ih]
theorem findO_isSome_iff {os : List Order} {id : Int} : (findO os id).isSome = true ↔ ∃ o ∈ os, o.id = id := by
  induction os with
  | nil => simp [findO]
  | cons a l ih =>
    rw [findO]
    by_cases h : a.id = id
    · rw [if_pos h]; exact ⟨fun _ => ⟨a, by simp, h⟩, fun _ => rfl⟩
    · rw [if_neg h, ih]
      constructor
      · rintro ⟨x, hx, e⟩; exact ⟨x, by simp [hx], e⟩
      · rintro ⟨x, hx, e⟩
        rcases List.mem_cons.1 hx with rfl | hx
        · exact absurd e h
        · exact ⟨x, hx, e⟩
theorem known_add {m : Option MapD} {os : List Order} {o : Order} (hk : knownO m os = true) (ho : orderE m o = 0) (hf : (findO os o.id).isSome = false) : knownO m (os ++ [o]) = true ↔ os.length < 40 := by
  obtain ⟨a, b, c⟩ := known_iff.1 hk
  refine ⟨fun h => ?_, fun h => known_iff.2 ⟨?_, fun x hx => ?_, ?_⟩⟩
  · have := (known_iff.1 h).1
    simp at this; omega
  · simp; omega
  · rcases List.mem_append.1 hx with q | q
    · exact b x q
    · simp at q; subst q; exact ho
  · refine List.pairwise_append.2 ⟨c, by simp, fun x hx y hy => ?_⟩
    simp at hy; subst hy
    intro q
    rw [findO_isSome_iff.2 ⟨x, hx, q⟩] at hf
    cases hf
structure PutPre (m : MapD) (d : Driver) (os : List Order) (ss : List Stop) (o : Order) : Prop where
  map : MapOk m
  good : good (fauR (drive (some m) d os ss)) = true
  order : orderE (some m) o = 0
  fresh : (findO os o.id).isSome = false
  few : ss.length ≤ 78
theorem leg_add {os : List Order} {o : Order} {s : Stop} (h : (findO os s.order).isSome = true) : legT (os ++ [o]) s = legT os s := by
  unfold legT fo
  rw [findO_add, if_pos h]
theorem leg_new {os : List Order} {o : Order} (h : (findO os o.id).isSome = false) (b : Bool) : legT (os ++ [o]) ⟨o.id, b⟩ = legO o b := by
  unfold legT fo
  dsimp only
  rw [findO_add, if_neg (by rw [h]; decide), if_pos rfl]; rfl
theorem map_add {os : List Order} {o : Order} {l : List Stop} (h : ∀ s ∈ l, (findO os s.order).isSome = true) : l.map (legT (os ++ [o])) = l.map (legT os) := List.map_congr_left fun s hs => leg_add (h s hs)
theorem drop_split {α : Type} {l : List α} {i j : Nat} (hij : i ≤ j) : l = l.take i ++ (l.drop i).take (j - i) ++ l.drop j := by
  rw [List.append_assoc]
  have : (l.drop i).take (j - i) ++ l.drop j = l.drop i := by
    have h := List.take_append_drop (j - i) (l.drop i)
    rw [List.drop_drop, show i + (j - i) = j by omega] at h
    exact h
  rw [this, List.take_append_drop]
theorem price_eq {m : MapD} {d : Driver} {os : List Order} {ss : List Stop} {o : Order} {i j : Int} (h : PutPre m d os ss o) (hi : 0 ≤ i ∧ i ≤ j ∧ j ≤ ss.length) :
    (priceS (mkS m d os ss o) i j).2 = (alongPr m d os ss o i j).2 ∧ ((priceS (mkS m d os ss o) i j).2 = true → (priceS (mkS m d os ss o) i j).1 = (alongPr m d os ss o i j).1) := by
  obtain ⟨x, vs, hx, hfit, hT, hD⟩ := drive_good h.good
  injection hx with hx
  subst hx
  obtain ⟨hdE, hk, hl80⟩ := fitB_iff.1 hfit
  have hd := (fit_pre h.map hfit).driver
  have hR : RightGo os [] ss := driveGo_right _ _ _ _ hT
  have hknown := rightGo_known _ _ hR
  have hS : AtS m (start d) 0 := ⟨hd.home, ⟨hd.win.1, by have := hd.win; show d.lo ≤ 1000000; omega⟩, ⟨by simp [start], by simp [start]⟩, ⟨by simp [start], by simp [start]⟩⟩
  obtain ⟨g1, g2⟩ := run_drive h.map hd hk ss [] (start d) 0 hR (by have := h.few; omega) hS
  have hg : good (fauR (driveGo m d os [] ss ⟨d.lo, d.home, 0⟩)) = true := by
    have : driveGo m d os [] ss ⟨d.lo, d.home, 0⟩ = .ok vs := hT
    rw [this]; rfl
  obtain ⟨r1, r2⟩ := g1.1 hg
  obtain ⟨w1, w2⟩ := g2 r1
  have hpre := pre_run ss (start d) r1
  -- the stops with the order put in
  have hsplit := drop_split (l := ss) (show i.toNat ≤ j.toNat by omega)
  have hput := putS_in (id := o.id) hi
  have hmem : ∀ s ∈ ss, s.order ≠ o.id := fun s hs q => by
    have := hknown s hs
    rw [q, h.fresh] at this; cases this
  have hA : ∀ s ∈ ss.take i.toNat, s ∈ ss := fun s hs => List.mem_of_mem_take hs
  have hB : ∀ s ∈ (ss.drop i.toNat).take (j.toNat - i.toNat), s ∈ ss := fun s hs => List.mem_of_mem_drop (List.mem_of_mem_take hs)
  have hC : ∀ s ∈ ss.drop j.toNat, s ∈ ss := fun s hs => List.mem_of_mem_drop hs
  generalize hAe : ss.take i.toNat = A at *
  generalize hBe : (ss.drop i.toNat).take (j.toNat - i.toNat) = B at *
  generalize hCe : ss.drop j.toNat = C at *
  have hlegs : (putS ss o.id i j).map (legT (os ++ [o])) = A.map (legT os) ++ (legO o false :: (B.map (legT os) ++ (legO o true :: C.map (legT os)))) := by
    rw [hput]
    simp only [List.map_append, List.map_cons, List.map_nil, leg_new h.fresh]
    rw [map_add fun s hs => hknown s (hA s hs), map_add fun s hs => hknown s (hB s hs), map_add fun s hs => hknown s (hC s hs)]
    simp
  have hRi : (runS m d (start d, true) ((putS ss o.id i j).map (legT (os ++ [o])))) = priceR (mkS m d os ss o) i j := by
    rw [hlegs, runS_app]
    have := hpre i.toNat (by omega)
    rw [hAe] at this
    rw [this, runS_true]
    unfold priceR mkS
    dsimp only
    rw [← hBe, ← hCe, List.map_take, List.map_drop, List.map_drop]
  have hRight : RightGo (os ++ [o]) [] (putS ss o.id i j) := by
    rw [hsplit] at hR
    obtain ⟨hR1, hR3⟩ := (rightGo_app _ _ _).1 hR
    obtain ⟨hR1, hR2⟩ := (rightGo_app _ _ _).1 hR1
    rw [List.nil_append] at hR2 hR3
    have hkk : ∀ id, (findO os id).isSome = true → (findO (os ++ [o]) id).isSome = true := fun id q => by rw [findO_add, if_pos q]; exact q
    have ho : (findO (os ++ [o]) o.id).isSome = true := by rw [findO_add, if_neg (by rw [h.fresh]; decide), if_pos rfl]; rfl
    have nm : ∀ (b : Bool), ∀ s ∈ ss, s ≠ ⟨o.id, b⟩ := fun b s hs q => hmem s hs (by rw [q])
    rw [hput]
    refine (rightGo_app _ _ _).2 ⟨(rightGo_app _ _ _).2 ⟨(rightGo_app _ _ _).2 ⟨(rightGo_app _ _ _).2 ⟨rightGo_more hkk A [] [] hR1 (fun _ q => q) fun _ _ q => q, ⟨wrongE_zero.2 ⟨ho, fun q => nm false _ (hA _ (by simpa using q)) rfl, fun q => (by cases q)⟩, trivial⟩⟩, rightGo_more hkk B A _ hR2 (fun x q => by simp [q]) fun s hs q => ?_⟩, ⟨wrongE_zero.2 ⟨ho, fun q => ?_, fun _ => by simp⟩, trivial⟩⟩, rightGo_more hkk C (A ++ B) _ hR3 (fun x q => ?_) fun s hs q => ?_⟩
    · simp only [List.nil_append, List.mem_append, List.mem_singleton] at q
      rcases q with q | q
      · exact q
      · exact absurd q (nm false s (hB s hs))
    · simp only [List.nil_append, List.mem_append, List.mem_singleton] at q
      rcases q with (q | q) | q
      · exact nm true _ (hA _ q) rfl
      · cases q
      · exact nm true _ (hB _ q) rfl
    · simp only [List.nil_append, List.mem_append, List.mem_singleton] at q ⊢
      rcases q with q | q
      · exact .inl (.inl (.inl q))
      · exact .inl (.inr q)
    · simp only [List.nil_append, List.mem_append, List.mem_singleton] at q ⊢
      rcases q with ((q | q) | q) | q
      · exact .inl q
      · exact absurd q (nm false s (hC s hs))
      · exact .inr q
      · exact absurd q (nm true s (hC s hs))
  have hlen : (putS ss o.id i j).length = ss.length + 2 := putS_length hi
  have hwayS : ((mkS m d os ss o).pre.getD (mkS m d os ss o).legs.length sz).way = way m d os ss := by
    have e := hpre ss.length (Nat.le_refl _)
    rw [List.take_length] at e
    have : (mkS m d os ss o).legs.length = ss.length := by simp [mkS]
    rw [this]
    show ((start d :: preGo m d os (start d) ss).getD ss.length sz).way = _
    rw [e] at w1
    rw [w1]
    show 0 + wayGo m os d.home ss = _
    rw [Int.zero_add]; rfl
  have hcost := cost_good h.good
  have hfull : (mkS m d os ss o).full = decide (40 ≤ (os.length : Int)) := rfl
  by_cases hfu : os.length < 40
  · have hk' := (known_add hk h.order h.fresh).2 hfu
    have hfit' : fitB (some m) d (os ++ [o]) (putS ss o.id i j) = true := fitB_iff.2 ⟨hdE, hk', by have := h.few; omega⟩
    obtain ⟨p1, p2⟩ := run_drive h.map hd hk' (putS ss o.id i j) [] (start d) 0 hRight (by have := h.few; omega) hS
    rw [hRi] at p1 p2
    have hload : moreL ((putS ss o.id i j).map (legT (os ++ [o]))) = moreL (ss.map (legT os)) := by
      rw [hlegs]
      have e : ss.map (legT os) = A.map (legT os) ++ (B.map (legT os) ++ C.map (legT os)) := by
        conv => lhs; rw [hsplit]
        simp
      rw [e]
      have hsz := (orderE_ok h.order).size
      have hw : (legO o true).more = -o.size := wrap_id (by omega) (by omega)
      have hw' : (legO o false).more = o.size := rfl
      simp only [moreL_app, moreL, hw, hw']
      omega
    have hdr : drive (some m) d (os ++ [o]) (putS ss o.id i j) = driveGo m d (os ++ [o]) [] (putS ss o.id i j) ⟨(start d).now, (start d).pos, (start d).load⟩ := drive_fit hfit'
    have hgood : good (fauR (drive (some m) d (os ++ [o]) (putS ss o.id i j))) = (priceR (mkS m d os ss o) i j).2 := by
      rw [hdr]
      cases hp : (priceR (mkS m d os ss o) i j).2 with
      | true =>
        refine p1.2 ⟨hp, ?_⟩
        rw [(p2 hp).2, hload]
        rw [w2] at r2
        exact r2
      | false =>
        cases hq : good (fauR (driveGo m d (os ++ [o]) [] (putS ss o.id i j) ⟨(start d).now, (start d).pos, (start d).load⟩)) with
        | false => rfl
        | true => rw [(p1.1 hq).1] at hp; cases hp
    have hp2 : (priceS (mkS m d os ss o) i j).2 = (priceR (mkS m d os ss o) i j).2 := by
      unfold priceS
      have : decide (40 ≤ (os.length : Int)) = false := by simp; omega
      rw [hfull, this]; simp
    rw [hp2]
    unfold alongPr
    refine ⟨?_, fun hp => ?_⟩
    · cases hp : (priceR (mkS m d os ss o) i j).2 with
      | true => rw [hp] at hgood; rw [cost_good hgood]
      | false => rw [hp] at hgood; rw [cost_bad hgood]
    · rw [hp] at hgood
      rw [cost_good hgood, hcost]
      show wrap ((priceR (mkS m d os ss o) i j).1.way - _) = wrap (way m d (os ++ [o]) (putS ss o.id i j) - way m d os ss)
      rw [hwayS, (p2 hp).1]
      show wrap (0 + way m d (os ++ [o]) (putS ss o.id i j) - way m d os ss) = _
      rw [Int.zero_add]
  · have hk' : knownO (some m) (os ++ [o]) = false := by
      cases q : knownO (some m) (os ++ [o]) with
      | false => rfl
      | true => exact absurd ((known_add hk h.order h.fresh).1 q) hfu
    have hbad : good (fauR (drive (some m) d (os ++ [o]) (putS ss o.id i j))) = false := by
      rw [drive_unfit (by unfold fitB; rw [hk']; simp)]; rfl
    have hp2 : (priceS (mkS m d os ss o) i j).2 = false := by
      unfold priceS
      have : decide (40 ≤ (os.length : Int)) = true := by simp; omega
      rw [hfull, this]; simp
    rw [hp2]
    unfold alongPr
    rw [cost_bad hbad]
    exact ⟨rfl, fun q => (by cases q)⟩
theorem rowP_mem {i : Int} : ∀ (k : Nat) (j : Int) (p : Int × Int), p ∈ rowP i k j ↔ p.1 = i ∧ j ≤ p.2 ∧ p.2 < j + k
  | 0, j, p => by simp [rowP] <;> omega
  | k + 1, j, p => by
    rw [rowP, List.mem_cons, rowP_mem k (j + 1) p]
    constructor
    · rintro (rfl | h)
      · exact ⟨rfl, by dsimp only; omega, by dsimp only; omega⟩
      · exact ⟨h.1, by omega, by omega⟩
    · rintro ⟨a, b, c⟩
      by_cases q : p.2 = j
      · exact .inl (Prod.ext a q)
      · exact .inr ⟨a, by omega, by omega⟩
theorem pairsP_mem : ∀ (k : Nat) (i : Int) (p : Int × Int), p ∈ pairsP k i ↔ i ≤ p.1 ∧ p.1 ≤ p.2 ∧ p.2 < i + k
  | 0, i, p => by simp [pairsP] <;> omega
  | k + 1, i, p => by
    rw [pairsP, List.mem_append, rowP_mem, pairsP_mem k (i + 1) p]
    omega
theorem places_mem {s : Int} {n : Nat} {p : Int × Int} (h : p ∈ places_ s n) : s ≤ p.1 ∧ p.1 ≤ p.2 ∧ p.2 ≤ n := by
  unfold places_ at h
  have := (pairsP_mem _ _ _).1 h
  omega
theorem huntGo_congr {id : Int} {pr pr' : Int → Int → Int × Bool} {b : Int} : ∀ (l : List (Int × Int)) (h : Hunt), (∀ p ∈ l, (pr p.1 p.2).2 = (pr' p.1 p.2).2 ∧ ((pr p.1 p.2).2 = true → (pr p.1 p.2).1 = (pr' p.1 p.2).1)) → huntGo id pr b l h = huntGo id pr' b l h
  | [], _, _ => rfl
  | p :: l, h, hp => by
    have e : huntStep id pr h p = huntStep id pr' h p := by
      obtain ⟨a, c⟩ := hp p (by simp)
      unfold huntStep
      cases q : (pr p.1 p.2).2 with
      | true => rw [← a, q, ← c q]
      | false => rw [← a, q]; rfl
    rw [huntGo, huntGo, e, huntGo_congr l _ fun x hx => hp x (by simp [hx])]
theorem hunt_eq {m : MapD} {d : Driver} {os : List Order} {ss : List Stop} {o : Order} {served b : Int} {h : Hunt} (hp : PutPre m d os ss o) (hs : 0 ≤ served) :
    huntGo d.id (priceS (mkS m d os ss o)) b (places_ served ss.length) h = huntGo d.id (alongPr m d os ss o) b (places_ served ss.length) h := huntGo_congr _ _ fun p hp' => by
  have := places_mem hp'
  exact price_eq hp ⟨by omega, by omega, by omega⟩
theorem best_eq {m : MapD} {d : Driver} {os : List Order} {ss : List Stop} {o : Order} {served b : Int} (hp : PutPre m d os ss o) (hs : 0 ≤ served) :
    bestS (mkS m d os ss o) served b = huntGo d.id (alongPr m d os ss o) b (places_ served ss.length) hz := by
  rw [← hunt_eq hp hs]
  unfold bestS
  have : (mkS m d os ss o).legs.length = ss.length := by simp [mkS]
  rw [this]; rfl
theorem bar_zero {m : Option MapD} {d : Driver} {os : List Order} {r : Route} {o : Order} {b : Int} (h : barP m d os r o b = 0) :
    orderE m o = 0 ∧ (findO os o.id).isSome = false ∧ 0 ≤ b ∧ b ≤ 100000 ∧ r.driver = d.id ∧ 0 ≤ r.served ∧ r.served ≤ r.stops.length ∧ good (fauR (drive m d os r.stops)) = true ∧ d.retired = false ∧ r.stops.length ≤ 78 := by
  unfold barP at h
  split at h
  · cases h
  · rename_i h1
    simp only [Bool.or_eq_true, Bool.not_eq_true', decide_eq_true_eq, not_or, askedP, Bool.and_eq_true, Bool.not_eq_false, Bool.not_not, Decidable.not_not] at h1
    split at h
    · cases h
    · rename_i h2
      split at h
      · cases h
      · rename_i h3
        split at h
        · cases h
        · rename_i h4
          obtain ⟨⟨⟨⟨⟨⟨a, b⟩, c⟩, e⟩, f⟩, g⟩, i⟩ := h1
          exact ⟨a, b, c, e, f, by omega, by omega, by simpa using h2, by simpa using h3, by omega⟩
theorem bestP_eq {m : Option MapD} {d : Driver} {os : List Order} {r : Route} {o : Order} {b : Int} (hm : MapOkO m) : bestP m d os r o b = rBestP m d os r o b := by
  unfold bestP rBestP
  by_cases h : barP m d os r o b = 0
  · rw [if_neg (by rw [h]; decide), if_neg (by rw [h]; decide)]
    cases m with
    | none => rfl
    | some x =>
      obtain ⟨a, b', c, e, f, g, i, j, k, l⟩ := bar_zero h
      dsimp only
      rw [best_eq ⟨hm x rfl, j, a, b', l⟩ g]
      rfl
  · rw [if_pos h, if_pos h]
/-- The routes that are looked along. -/
structure LookOk (m : MapD) (ds : List Driver) (os : List Order) (o : Order) (r : Route) : Prop where
  served : 0 ≤ r.served
  good : good (fauR (drive (some m) (fdD ds r.driver) os r.stops)) = true
end Go.Eng

/- Chapter 12's runs. -/
set_option linter.unusedVariables false
set_option linter.unusedSimpArgs false
namespace Go.Eng
open Go Go.Proofs
theorem isH_of {h : Hunt × Int} {s : Spot} {n e : Int} : isH h s n e = true ↔ ((hspot h.1).driver = s.driver ∧ (hspot h.1).pick = s.pick ∧ (hspot h.1).drop = s.drop ∧ (hspot h.1).cost = s.cost) ∧ h.1.steps = n ∧ h.2 = e := by
  unfold isH hspot
  rw [decide_eq_true_eq]
  dsimp only
  constructor <;> (intro h; simp only [h, and_self, true_and])
theorem lbest_gen (h : Hunt × Int) (s : Spot) (n e : Int) (P : Prop) (hP : P) : P ∧ ((decide ((hspot h.1).driver = s.driver) && (decide ((hspot h.1).pick = s.pick) && (decide ((hspot h.1).drop = s.drop) && (decide ((hspot h.1).cost = s.cost) && true)))) = true → (decide (h.1.steps = n) = true → decide (h.2 = e) = isH h s n e) ∧ (decide (h.1.steps = n) = !true → false = isH h s n e)) ∧
    ((decide ((hspot h.1).driver = s.driver) && (decide ((hspot h.1).pick = s.pick) && (decide ((hspot h.1).drop = s.drop) && (decide ((hspot h.1).cost = s.cost) && true)))) = !true → false = isH h s n e) := by
  have k := @isH_of h s n e
  refine ⟨hP, fun a => ⟨fun b => ?_, fun b => ?_⟩, fun a => ?_⟩ <;> cases q : isH h s n e <;> rw [q] at k <;> simp_all
theorem lbest_ok : lbest_vc := ⟨fun d os _ r _ o b s n e hm => lbest_gen _ _ _ _ _ hm, fun m _ d os _ r _ o b s n e hm => lbest_gen _ _ _ _ _ hm⟩
theorem lbest_t : Told Try.prog 22 lbest_con := lbest_told (csOk_cons ibest_t csOk_nil) lbest_ok
theorem insertRuns_ok : insertRuns_vc := by
  have hm : ∀ (x : MapD), some ⟨2, [0, 5, 7, 0]⟩ = some x → MapOk x := mapOkO_some (by decide)
  have b0 : isH (bestP (some ⟨2, [0, 5, 7, 0]⟩) ⟨4, 4, 1, 1, 30, false⟩ [] ⟨4, 0, []⟩ ⟨1, 3, 0, 2, 9, 1, 1, 0, 20, 2⟩ 9) ⟨4, 0, 0, 12⟩ 1 0 = true := by kernel_rfl
  have b1 : isH (bestP (some ⟨2, [0, 5, 7, 0]⟩) ⟨4, 4, 1, 1, 30, false⟩ [⟨1, 3, 0, 2, 9, 1, 1, 0, 20, 2⟩] ⟨4, 0, [⟨1, false⟩, ⟨1, true⟩]⟩ ⟨2, 1, 0, 0, 100, 1, 1, 0, 100, 2⟩ 9) ⟨4, 0, 1, 0⟩ 6 0 = true := by kernel_rfl
  have b2 : isH (bestP (some ⟨2, [0, 5, 7, 0]⟩) ⟨4, 4, 1, 1, 30, false⟩ [⟨1, 3, 0, 2, 9, 1, 1, 0, 20, 2⟩] ⟨4, 0, [⟨1, false⟩, ⟨1, true⟩]⟩ ⟨2, 1, 0, 0, 100, 1, 1, 0, 100, 2⟩ 2) ⟨4, 0, 1, 0⟩ 2 0 = true := by kernel_rfl
  have b3 : isH (bestP (some ⟨2, [0, 5, 7, 0]⟩) ⟨4, 4, 1, 1, 30, false⟩ [⟨1, 3, 0, 2, 9, 1, 1, 0, 20, 2⟩] ⟨4, 0, [⟨1, false⟩, ⟨1, true⟩]⟩ ⟨2, 1, 0, 0, 100, 1, 1, 0, 100, 2⟩ 1) ⟨0, 0, 0, 0⟩ 1 20 = true := by kernel_rfl
  have b4 : isH (bestP (some ⟨2, [0, 5, 7, 0]⟩) ⟨4, 4, 1, 1, 30, false⟩ [⟨1, 3, 0, 2, 9, 1, 1, 0, 20, 2⟩] ⟨4, 0, [⟨1, false⟩, ⟨1, true⟩]⟩ ⟨2, 1, 0, 0, 100, 1, 1, 0, 100, 2⟩ 0) ⟨0, 0, 0, 0⟩ 0 20 = true := by kernel_rfl
  have b5 : isH (bestP (some ⟨2, [0, 5, 7, 0]⟩) ⟨4, 4, 1, 1, 30, false⟩ [⟨1, 3, 0, 2, 9, 1, 1, 0, 20, 2⟩] ⟨4, 3, [⟨1, false⟩, ⟨1, true⟩]⟩ ⟨2, 1, 0, 0, 100, 1, 1, 0, 100, 2⟩ 9) ⟨0, 0, 0, 0⟩ 0 1 = true := by kernel_rfl
  have b6 : isH (bestP (some ⟨2, [0, 5, 7, 0]⟩) ⟨4, 4, 1, 1, 30, true⟩ [⟨1, 3, 0, 2, 9, 1, 1, 0, 20, 2⟩] ⟨4, 0, [⟨1, false⟩, ⟨1, true⟩]⟩ ⟨2, 1, 0, 0, 100, 1, 1, 0, 100, 2⟩ 9) ⟨0, 0, 0, 0⟩ 0 23 = true := by kernel_rfl
  have rA : rightP [⟨4, 0, [⟨1, false⟩, ⟨1, true⟩]⟩, ⟨5, 0, []⟩] = true := rightP_iff.2 ⟨by simp, by simp [okR, okR1, okS]⟩
  have kO : knownO (some ⟨2, [0, 5, 7, 0]⟩) [⟨1, 3, 0, 2, 9, 1, 1, 0, 20, 2⟩] = true := by kernel_rfl
  have d0 : okD (some ⟨2, [0, 5, 7, 0]⟩) [⟨4, 4, 1, 1, 30, false⟩, ⟨5, 4, 0, 1, 30, false⟩] 0 = true := by kernel_rfl
  have d1 : okD (some ⟨2, [0, 5, 7, 0]⟩) [⟨4, 4, 1, 1, 30, false⟩, ⟨5, 4, 0, 1, 30, false⟩] 1 = true := by kernel_rfl
  have dl : ∀ k, k < ([⟨4, 4, 1, 1, 30, false⟩, ⟨5, 4, 0, 1, 30, false⟩] : List Driver).length → okD (some ⟨2, [0, 5, 7, 0]⟩) [⟨4, 4, 1, 1, 30, false⟩, ⟨5, 4, 0, 1, 30, false⟩] k = true := fun k hk => by
    have : k = 0 ∨ k = 1 := by simp at hk; omega
    rcases this with rfl | rfl
    · exact d0
    · exact d1
  have w1 : wellP (some ⟨2, [0, 5, 7, 0]⟩) [⟨4, 4, 1, 1, 30, false⟩, ⟨5, 4, 0, 1, 30, false⟩] [⟨1, 3, 0, 2, 9, 1, 1, 0, 20, 2⟩] [⟨4, 0, [⟨1, false⟩, ⟨1, true⟩]⟩, ⟨5, 0, []⟩] = true := wellP_iff.2 ⟨rfl, by decide, kO, rA, dl⟩
  have g1 : good (cfauR (makeP (some ⟨2, [0, 5, 7, 0]⟩) [⟨4, 4, 1, 1, 30, false⟩, ⟨5, 4, 0, 1, 30, false⟩] [⟨1, 3, 0, 2, 9, 1, 1, 0, 20, 2⟩] [⟨4, 0, [⟨1, false⟩, ⟨1, true⟩]⟩, ⟨5, 0, []⟩])) = true := by
    simp only [makeP, w1, if_true]; kernel_rfl
  have a1 : askedP (some ⟨2, [0, 5, 7, 0]⟩) [⟨1, 3, 0, 2, 9, 1, 1, 0, 20, 2⟩] ⟨2, 1, 0, 0, 100, 1, 1, 0, 100, 2⟩ 100 = true := by kernel_rfl
  have c1 : cheapP (some ⟨2, [0, 5, 7, 0]⟩) [⟨4, 4, 1, 1, 30, false⟩, ⟨5, 4, 0, 1, 30, false⟩] [⟨1, 3, 0, 2, 9, 1, 1, 0, 20, 2⟩] [⟨4, 0, [⟨1, false⟩, ⟨1, true⟩]⟩, ⟨5, 0, []⟩] ⟨2, 1, 0, 0, 100, 1, 1, 0, 100, 2⟩ 100 = tellH (lookP (some ⟨2, [0, 5, 7, 0]⟩) [⟨4, 4, 1, 1, 30, false⟩, ⟨5, 4, 0, 1, 30, false⟩] [⟨1, 3, 0, 2, 9, 1, 1, 0, 20, 2⟩] [⟨4, 0, [⟨1, false⟩, ⟨1, true⟩]⟩, ⟨5, 0, []⟩] ⟨2, 1, 0, 0, 100, 1, 1, 0, 100, 2⟩ 100) := by
    unfold cheapP; rw [if_pos (by rw [g1, a1]; rfl)]
  have c2 : tellH (lookP (some ⟨2, [0, 5, 7, 0]⟩) [⟨4, 4, 1, 1, 30, false⟩, ⟨5, 4, 0, 1, 30, false⟩] [⟨1, 3, 0, 2, 9, 1, 1, 0, 20, 2⟩] [⟨4, 0, [⟨1, false⟩, ⟨1, true⟩]⟩, ⟨5, 0, []⟩] ⟨2, 1, 0, 0, 100, 1, 1, 0, 100, 2⟩ 100) = (⟨4, 0, 1, 0, true, 7⟩, 0) := by kernel_rfl
  rw [c2] at c1
  unfold insertRuns_vc
  simp only [bad_false, int0, nilOf, decide_eq_true_eq, decide_eq_false_iff_not, Bool.not_eq_true', Bool.not_eq_false', Bool.not_true, Bool.not_false, Bool.false_eq_true, Bool.true_eq_false, eq_self, true_and, and_true, false_or, or_false, false_implies, true_implies, implies_true, Int.not_lt, Int.not_le, gt_iff_lt, ge_iff_le, ne_eq, eq_true hm, b0, b1, b2, b3, b4, b5, b6, c1, hspot]
  simp
theorem insertRuns_t : Told Try.prog 5 yes_con := insertRuns_told (csOk_cons newC_t (csOk_cons lbest_t (csOk_cons cheap_t csOk_nil))) insertRuns_ok
end Go.Eng

/- The best place on a route: the document's own answer. -/
set_option linter.unusedVariables false
set_option linter.unusedSimpArgs false
namespace Go.Eng
open Go Go.Proofs
theorem oneR_ok : oneR_vc := by
  unfold oneR_vc
  intro p hp at'
  have hpl := hp.1.le
  refine ⟨fun h => ?_, fun h => ?_⟩
  · have h0 : p.length = 0 := by have := of_decide_eq_true h; omega
    have e : oneP p at' = ⟨0, 0, []⟩ := by unfold oneP; rw [if_pos h0]
    rw [e]
    exact ⟨⟨rfl, rfl⟩, rfl⟩
  · have h0 : ¬ p.length = 0 := by have := of_decide_eq_false h; omega
    have w1 : wrap ((p.length : Int) - 1) = (p.length : Int) - 1 := wrap_id (by omega) (by omega)
    have e : oneP p at' = p.getD (bwithin at' 0 ((p.length : Int) - 1)).toNat ⟨0, 0, []⟩ := by unfold oneP; rw [if_neg h0]
    have hb := @bwithin_bound at' 0 ((p.length : Int) - 1) (by omega)
    rw [w1, e]
    exact ⟨⟨by omega, Int.le_refl _, by omega⟩, ⟨hb.1, by omega⟩, by omega, ⟨rfl, rfl⟩, rfl⟩
theorem oneR_t : Told Try.prog 11 oneR_con := oneR_told (csOk_cons bWithin_t csOk_nil) oneR_ok
end Go.Eng

/- What a search over all places finds: the first of the cheapest. -/
set_option linter.unusedVariables false
set_option linter.unusedSimpArgs false
namespace Go.Eng
open Go Go.Proofs
/-- What stands of the places that were tried. -/
structure Tried (pr : Int → Int → Int × Bool) (A : List (Int × Int)) (h : Hunt) : Prop where
  steps : h.steps = A.length
  none : h.found = false → ∀ p ∈ A, (pr p.1 p.2).2 = false
  some : h.found = true → ∃ A1 p A2, A = A1 ++ p :: A2 ∧ h.pick = p.1 ∧ h.drop = p.2 ∧ pr p.1 p.2 = (h.cost, true) ∧ (∀ q ∈ A1, (pr q.1 q.2).2 = true → h.cost < (pr q.1 q.2).1) ∧ (∀ q ∈ A2, (pr q.1 q.2).2 = true → h.cost ≤ (pr q.1 q.2).1)
theorem tried_step {id : Int} {pr : Int → Int → Int × Bool} {A : List (Int × Int)} {h : Hunt} {p : Int × Int} (t : Tried pr A h) : Tried pr (A ++ [p]) (huntStep id pr h p) := by
  obtain ⟨t1, t2, t3⟩ := t
  unfold huntStep
  split
  · rename_i hc
    simp only [Bool.and_eq_true, Bool.or_eq_true, Bool.not_eq_true', decide_eq_true_eq] at hc
    obtain ⟨hok, hc⟩ := hc
    refine ⟨by simp [t1], fun q => (by cases q), fun _ => ⟨A, p, [], rfl, rfl, rfl, Prod.ext rfl hok, fun q hq hqk => ?_, fun q hq => (by cases hq)⟩⟩
    dsimp only
    cases hf : h.found with
    | false => rw [t2 hf q hq] at hqk; cases hqk
    | true =>
      have hlt := hc.resolve_left (by rw [hf]; decide)
      obtain ⟨A1, p0, A2, e, _, _, e3, e4, e5⟩ := t3 hf
      rw [e] at hq
      rcases List.mem_append.1 hq with hq | hq
      · have := e4 q hq hqk; omega
      · rcases List.mem_cons.1 hq with rfl | hq
        · rw [e3]; exact hlt
        · have := e5 q hq hqk; omega
  · rename_i hc
    simp only [Bool.and_eq_true, Bool.or_eq_true, Bool.not_eq_true', decide_eq_true_eq, not_and, not_or] at hc
    refine ⟨by simp [t1], fun q x hx => ?_, fun q => ?_⟩
    · rcases List.mem_append.1 hx with hx | hx
      · exact t2 q x hx
      · simp only [List.mem_singleton] at hx
        subst hx
        cases hk : (pr x.1 x.2).2 with
        | false => rfl
        | true => exact absurd q (hc hk).1
    · obtain ⟨A1, p0, A2, e, e1, e2, e3, e4, e5⟩ := t3 q
      refine ⟨A1, p0, A2 ++ [p], by rw [e]; simp, e1, e2, e3, e4, fun x hx hk => ?_⟩
      rcases List.mem_append.1 hx with hx | hx
      · exact e5 x hx hk
      · simp only [List.mem_singleton] at hx
        subst hx
        have := (hc hk).2
        dsimp only
        omega
theorem tried_go {id : Int} {pr : Int → Int → Int × Bool} {b : Int} : ∀ (L A : List (Int × Int)) (h : Hunt), Tried pr A h → (A.length : Int) + L.length ≤ b → Tried pr (A ++ L) (huntGo id pr b L h)
  | [], A, h, t, _ => by rw [List.append_nil]; exact t
  | p :: L, A, h, t, hb => by
    rw [List.length_cons] at hb
    rw [huntGo, if_neg (by rw [t.steps]; omega)]
    have := tried_go (id := id) (b := b) L (A ++ [p]) _ (tried_step (id := id) (p := p) t) (by simp; omega)
    rw [List.append_assoc] at this
    exact this
theorem tried_hz {pr : Int → Int → Int × Bool} : Tried pr [] hz := ⟨rfl, fun _ p hp => (by cases hp), fun q => (by cases q)⟩
/-- A place ahead of another in one row of places. -/
theorem ahead_of {α : Type} {A B A0 R : List α} {p q : α} (h : A ++ p :: B = A0 ++ q :: R) (hp : p ∉ A0) (hne : p ≠ q) : q ∈ A := by
  rcases List.append_eq_append_iff.1 h with ⟨C, h1, h2⟩ | ⟨C, h1, h2⟩
  · cases C with
    | nil => simp at h2; exact absurd h2.1 hne
    | cons c C =>
      simp only [List.cons_append, List.cons.injEq] at h2
      exact absurd (by rw [h1, h2.1]; simp) hp
  · cases C with
    | nil => simp at h2; exact absurd h2.1.symm hne
    | cons c C =>
      simp only [List.cons_append, List.cons.injEq] at h2
      rw [h1, h2.1]; simp
end Go.Eng

/- No open place is cheaper. -/
set_option linter.unusedVariables false
set_option linter.unusedSimpArgs false
namespace Go.Eng
open Go Go.Proofs
theorem bar_vals {m : Option MapD} {d : Driver} {os : List Order} {r : Route} {o : Order} {b : Int} : barP m d os r o b = 0 ∨ barP m d os r o b = 1 ∨ barP m d os r o b = 23 ∨ barP m d os r o b = 10 := by
  unfold barP
  repeat' split
  all_goals simp
theorem best_cases {m : Option MapD} {d : Driver} {os : List Order} {r : Route} {o : Order} {b : Int} (hm : MapOkO m) :
    (barP m d os r o b ≠ 0 ∧ bestP m d os r o b = (hz, barP m d os r o b)) ∨ (barP m d os r o b = 0 ∧ ∃ x, m = some x ∧ bestP m d os r o b = tellH (alongP x d os r o b hz)) := by
  rw [bestP_eq hm]
  unfold rBestP
  by_cases h : barP m d os r o b = 0
  · refine .inr ⟨h, ?_⟩
    rw [if_neg (by rw [h]; decide)]
    cases m with
    | none =>
      have := (bar_zero h).2.2.2.2.2.2.2.1
      cases this
    | some x => exact ⟨x, rfl, rfl⟩
  · exact .inl ⟨h, by rw [if_pos h]⟩
theorem best_zero {m : Option MapD} {d : Driver} {os : List Order} {r : Route} {o : Order} {b : Int} (hm : MapOkO m) (h : (bestP m d os r o b).2 ≠ 0) :
    (bestP m d os r o b).1.driver = 0 ∧ (bestP m d os r o b).1.pick = 0 ∧ (bestP m d os r o b).1.drop = 0 ∧ (bestP m d os r o b).1.cost = 0 := by
  rcases best_cases (d := d) (os := os) (r := r) (o := o) (b := b) hm with ⟨_, e⟩ | ⟨_, x, _, e⟩
  · rw [e]; exact ⟨rfl, rfl, rfl, rfl⟩
  · rw [e] at h ⊢
    cases hf : (alongP x d os r o b hz).found with
    | true => rw [tell_yes hf] at h; exact absurd rfl h
    | false => rw [tell_no hf]; exact ⟨rfl, rfl, rfl, rfl⟩
theorem oneP_fits {p : List Route} {a : Int} (h : ∀ (r : Route), List.Mem r p → r.stops.length * 16 ≤ 140737488351232) : (oneP p a).stops.length * 16 ≤ 140737488351232 := by
  unfold oneP
  split
  · simp
  · rename_i h0
    have hb := @bwithin_bound a 0 ((p.length : Int) - 1) (by omega)
    exact h _ (getD_mem (⟨0, 0, []⟩ : Route) (by omega))
theorem least_place {pr : Int → Int → Int × Bool} {L A0 Rr : List (Int × Int)} {H : Hunt} {i j : Int} (T : Tried pr L H) (hL : L = A0 ++ (i, j) :: Rr) (hok : (pr i j).2 = true) :
    H.found = true ∧ H.cost ≤ (pr i j).1 ∧ (H.pick = i → H.drop = j → (pr i j).1 = H.cost) ∧ ((H.pick, H.drop) ∉ A0 → ¬ (H.pick = i ∧ H.drop = j) → (pr i j).1 ≠ H.cost) := by
  have hmem : (i, j) ∈ L := by rw [hL]; simp
  have hf : H.found = true := by
    cases q : H.found with
    | true => rfl
    | false => have := T.none q (i, j) hmem; rw [hok] at this; cases this
  obtain ⟨A1, p, A2, e, e1, e2, e3, e4, e5⟩ := T.some hf
  have hp : p = (H.pick, H.drop) := Prod.ext e1.symm e2.symm
  refine ⟨hf, ?_, fun q1 q2 => ?_, fun q1 q2 => ?_⟩
  · rw [e] at hmem
    rcases List.mem_append.1 hmem with q | q
    · exact Int.le_of_lt (e4 _ q hok)
    · rcases List.mem_cons.1 q with q | q
      · rw [← q] at e3; rw [show pr i j = (H.cost, true) from e3]; exact Int.le_refl _
      · exact e5 _ q hok
  · rw [← e1, ← e2] at e3
    rw [← q1, ← q2, e3]
  · have hne : p ≠ (i, j) := fun q => q2 (by rw [hp] at q; exact ⟨congrArg Prod.fst q, congrArg Prod.snd q⟩)
    have := e4 _ (ahead_of (e.symm.trans hL) (by rw [hp]; exact q1) hne) hok
    dsimp only at this
    omega
theorem least_not {pr : Int → Int → Int × Bool} {L : List (Int × Int)} {H : Hunt} {i j : Int} (T : Tried pr L H) (hok : (pr i j).2 = false) (hf : H.found = true) : (H.pick, H.drop) ≠ (i, j) := fun q => by
  obtain ⟨A1, p, A2, e, e1, e2, e3, e4, e5⟩ := T.some hf
  rw [← e1, ← e2] at e3
  have h1 : H.pick = i := congrArg Prod.fst q
  have h2 : H.drop = j := congrArg Prod.snd q
  rw [h1, h2] at e3
  rw [e3] at hok
  cases hok
theorem tell_is {H : Hunt} : ((tellH H).2 = 0 ↔ H.found = true) ∧ (tellH H).1.steps = H.steps ∧ (H.found = true → (tellH H).1 = H) := by
  cases hf : H.found with
  | true => rw [tell_yes hf]; exact ⟨⟨fun _ => rfl, fun _ => rfl⟩, rfl, fun _ => rfl⟩
  | false => rw [tell_no hf]; exact ⟨⟨fun q => (by cases q), fun q => (by cases q)⟩, rfl, fun q => (by cases q)⟩
theorem insertLeast_ok : insertLeast_vc := by
  unfold insertLeast_vc
  simp only [bad_false, int0, nilOf, decide_eq_true_eq, decide_eq_false_iff_not, Bool.not_eq_true', Bool.not_eq_false', Bool.not_true, Bool.not_false, Bool.false_eq_true, Bool.true_eq_false, eq_self, true_and, and_true, false_or, or_false, false_implies, true_implies, implies_true, Int.not_lt, Int.not_le, gt_iff_lt, ge_iff_le, ne_eq, decide_eq_true_eq, decide_eq_false_iff_not]
  simp only [hspot]
  intro w hwl o a who hg
  have hsz : (oneP w.plan a).stops.length * 16 ≤ 140737488351232 := by
    have := hg.is.1.2
    simp only [AV.szd, SK.enc, List.forall_mem_cons] at this
    exact oneP_fits this.2.2.2.2.1.2
  generalize oneP w.plan a = R at *
  generalize wdriver w who = D at *
  refine ⟨fun h => ?_, fun h => ?_⟩
  · have hb := @best_zero none D w.orders R o 100000 mapOkO_none
    have hI : (bestP none D w.orders R o 100000).2 = 0 ∨ (bestP none D w.orders R o 100000).2 = 20 → False := by
      rcases best_cases (d := D) (os := w.orders) (r := R) (o := o) (b := 100000) mapOkO_none with ⟨q, e⟩ | ⟨_, x, hx, _⟩
      · rw [e]
        have := @bar_vals none D w.orders R o 100000
        dsimp only
        omega
      · cases hx
    generalize bestP none D w.orders R o 100000 = E at *
    refine ⟨mapOkO_none, False, ?_, fun q => q.elim⟩
    have z : ¬ E.2 = 0 → ((decide (E.1.driver = 0) && (decide (E.1.pick = 0) && (decide (E.1.drop = 0) && (decide (E.1.cost = 0) && true)))) = false) → False := fun h q => by
      obtain ⟨a, b, c, d⟩ := hb h
      simp [a, b, c, d] at q
    exact ⟨fun h0 => ⟨fun h2 => ⟨fun _ => z, fun _ => hI (.inr h2)⟩, fun _ => z⟩, fun h0 => ⟨fun _ => z, fun _ => hI (.inl h0)⟩⟩
  · have hm := mapOkO_some h
    generalize MapD.mk w.n w.times = m at *
    have hb := @best_zero (some m) D w.orders R o 100000 hm
    have hcs := best_cases (d := D) (os := w.orders) (r := R) (o := o) (b := 100000) hm
    refine ⟨hm, (barP (some m) D w.orders R o 100000 = 0 ∧ R.stops.length ≤ 10), ?_, fun hI => ?_⟩
    · have hI : (bestP (some m) D w.orders R o 100000).2 = 0 ∨ (bestP (some m) D w.orders R o 100000).2 = 20 → (R.stops.length : Int) ≤ 10 → (barP (some m) D w.orders R o 100000 = 0 ∧ R.stops.length ≤ 10) := fun q1 q2 => by
        refine ⟨?_, by omega⟩
        rcases hcs with ⟨q, e⟩ | ⟨q, _⟩
        · rw [e] at q1
          have := @bar_vals (some m) D w.orders R o 100000
          dsimp only at q1
          omega
        · exact q
      generalize bestP (some m) D w.orders R o 100000 = E at *
      have z : ¬ E.2 = 0 → ((decide (E.1.driver = 0) && (decide (E.1.pick = 0) && (decide (E.1.drop = 0) && (decide (E.1.cost = 0) && true)))) = false) → False := fun h q => by
        obtain ⟨a, b, c, d⟩ := hb h
        simp [a, b, c, d] at q
      exact ⟨fun h0 => ⟨fun h2 => ⟨fun _ => z, hI (.inr h2)⟩, fun _ => z⟩, fun h0 => ⟨fun _ => z, hI (.inl h0)⟩⟩
    · obtain ⟨hI0, hI1⟩ := hI
      obtain ⟨b1, b2, b3, b4, b5, b6, b7, b8, b9, b10⟩ := bar_zero hI0
      obtain ⟨x, hx, e⟩ := (hcs.resolve_left fun q => q.1 hI0).2
      injection hx with hx
      subst hx
      have hos : w.orders.length ≤ 40 := by
        obtain ⟨x, vs, hx, hfit, _⟩ := drive_good b8
        exact (known_iff.1 (fitB_iff.1 hfit).2.1).1
      rw [e]
      have hpl : (places_ R.served R.stops.length).length ≤ 121 := by
        refine Nat.le_trans (pairsP_length _ _) ?_
        have : ((R.stops.length : Int) + 1 - R.served).toNat ≤ 11 := by omega
        exact Nat.le_trans (Nat.mul_le_mul this this) (by decide)
      have T : Tried (alongPr m D w.orders R.stops o) (places_ R.served R.stops.length) (alongP m D w.orders R o 100000 hz) := by
        have := tried_go (id := D.id) (b := 100000) (places_ R.served R.stops.length) [] hz (tried_hz (pr := alongPr m D w.orders R.stops o)) (by simp; omega)
        exact this
      have hfits : ∀ i j : Int, (0 ≤ i ∧ i ≤ j ∧ j ≤ R.stops.length) → fits (some m) D w.orders R.stops o i j = (alongPr m D w.orders R.stops o i j).2 := fun i j hij => by
        rw [fits_in hij, b8, b2]
        unfold alongPr
        cases hgp : good (fauR (drive (some m) D (w.orders ++ [o]) (putS R.stops o.id i j))) with
        | true => rw [cost_good hgp]; rfl
        | false => rw [cost_bad hgp]; rfl
      have hpr : ∀ i j : Int, (cost (some m) D (w.orders ++ [o]) (putS R.stops o.id i j)).2 = (alongPr m D w.orders R.stops o i j).2 ∧ wrap ((cost (some m) D (w.orders ++ [o]) (putS R.stops o.id i j)).1 - (cost (some m) D w.orders R.stops).1) = (alongPr m D w.orders R.stops o i j).1 := fun i j => ⟨rfl, rfl⟩
      generalize alongPr m D w.orders R.stops o = pr at *
      generalize alongP m D w.orders R o 100000 hz = H at *
      generalize hLL : places_ R.served R.stops.length = L at *
      obtain ⟨E1, E2, E3⟩ := @tell_is H
      generalize tellH H = E at *
      refine ⟨hm, by simp; omega, by simp; omega, ?_⟩
      refine ⟨fun t f i => R.served ≤ i ∧ i ≤ R.stops.length + 1 ∧ ∃ A0, L = A0 ++ pairsP ((R.stops.length : Int) + 1 - i).toNat i ∧ t = (A0.length : Int) ∧ (f = true ↔ (H.found = true ∧ (H.pick, H.drop) ∈ A0)), fun _ _ i => ((R.stops.length : Int) + 1 - i).toNat, ⟨Int.le_refl _, by omega, [], hLL.symm, rfl, by simp⟩, fun t f i hi => ⟨fun hin => ?_, fun hin => ?_⟩⟩
      · obtain ⟨i0, i1, A0, hA, ht, hf⟩ := hi
        rw [pairsP_next hin] at hA
        have w1 : wrap (i + 1) = i + 1 := wrap_id (by omega) (by omega)
        obtain ⟨INV, hINV⟩ : ∃ I : Int → Bool → Int → Prop, I = fun t f j => i ≤ j ∧ j ≤ R.stops.length + 1 ∧ ∃ A0, L = A0 ++ (rowP i ((R.stops.length : Int) + 1 - j).toNat j ++ pairsP ((R.stops.length : Int) + 1 - (i + 1)).toNat (i + 1)) ∧ t = (A0.length : Int) ∧ (f = true ↔ (H.found = true ∧ (H.pick, H.drop) ∈ A0)) := ⟨_, rfl⟩
        obtain ⟨MU, hMU⟩ : ∃ M : Int → Bool → Int → Nat, M = fun _ _ j => ((R.stops.length : Int) + 1 - j).toNat := ⟨_, rfl⟩
        refine ⟨INV, MU, by rw [hINV]; exact ⟨Int.le_refl _, by omega, A0, hA, ht, hf⟩, fun t f j hj => ⟨fun hjn => ?_, fun hjn => ?_⟩⟩
        · rw [hINV] at hj
          obtain ⟨j0, j1, A0, hA, ht, hf⟩ := hj
          rw [rowP_next hjn, List.cons_append] at hA
          have hlen : A0.length ≤ 121 := by
            have := congrArg List.length hA
            simp only [List.length_append] at this
            omega
          have w2 : wrap (j + 1) = j + 1 := wrap_id (by omega) (by omega)
          have w3 : wrap (t + 1) = t + 1 := wrap_id (by omega) (by omega)
          rw [List.nil_append, hfits i j ⟨by omega, j0, by omega⟩, (hpr i j).1, (hpr i j).2, w2, w3]
          have nx : ∀ g : Bool, (g = true ↔ (f = true ∨ (H.found = true ∧ (H.pick, H.drop) = (i, j)))) → INV (t + 1) g (j + 1) ∧ MU (t + 1) g (j + 1) < MU t f j := fun g hg => by
            rw [hINV, hMU]
            refine ⟨⟨by omega, by omega, A0 ++ [(i, j)], by rw [hA]; simp, by simp [ht], ?_⟩, by dsimp only; omega⟩
            rw [hg, hf, List.mem_append, List.mem_singleton]
            constructor
            · rintro (⟨q1, q2⟩ | ⟨q1, q2⟩)
              · exact ⟨q1, .inl q2⟩
              · exact ⟨q1, .inr q2⟩
            · rintro ⟨q1, q2 | q2⟩
              · exact .inl ⟨q1, q2⟩
              · exact .inr ⟨q1, q2⟩
          refine ⟨⟨hm, by omega, hsz⟩, fun hok => nx f ?_, fun hok => ⟨hsz, hm, ?_⟩⟩
          · constructor
            · exact fun q => .inl q
            · rintro (q | ⟨q1, q2⟩)
              · exact q
              · exact absurd q2 (least_not T hok q1)
          · obtain ⟨k1, k2, k3, k4⟩ := least_place T hA hok
            have he := E1.2 k1
            have hE := E3 k1
            rw [hE]
            have nx' : ∀ g : Bool, (g = true ↔ (f = true ∨ (H.pick = i ∧ H.drop = j))) → INV (t + 1) g (j + 1) ∧ MU (t + 1) g (j + 1) < MU t f j := fun g hg => nx g (by rw [hg]; simp [k1])
            have k4' : f = false → ¬ (H.pick = i ∧ H.drop = j) → (pr i j).1 ≠ H.cost := fun q => k4 fun q2 => by
              have := hf.2 ⟨k1, q2⟩
              rw [q] at this; cases this
            clear nx k4 hA hf hINV hMU T hg hwl
            generalize (pr i j).1 = c at *
            generalize (pr i j).2 = ok at *
            clear k1 hE hb hcs e E1 E2 E3 b8 b1 b2 hfits hpr hm hpl hLL
            by_cases qp : H.pick = i <;> by_cases qd : H.drop = j <;> cases f
            all_goals
              simp only [qp, qd, he, hok, decide_true, decide_false, Bool.false_eq_true, Bool.true_eq_false, not_true, not_false_eq_true, true_imp_iff, false_imp_iff, implies_true, and_true, true_and, and_self, imp_false] at nx' k2 k3 k4' ⊢
              have nlt : ¬ c < H.cost := by omega
              have nt := nx' true
              have nf := nx' false
              simp at nt nf
              (repeat' first | apply And.intro | intro _) <;> first | omega | exact nt.1 | exact nt.2 | exact nf.1 | exact nf.2
        · rw [hINV] at hj
          obtain ⟨j0, j1, A0, hA, ht, hf⟩ := hj
          have hz0 : ((R.stops.length : Int) + 1 - j).toNat = 0 := by omega
          rw [hz0, rowP, List.nil_append] at hA
          rw [w1]
          exact ⟨⟨by omega, by omega, A0, hA, ht, hf⟩, by dsimp only; omega⟩
      · obtain ⟨i0, i1, A0, hA, ht, hf⟩ := hi
        have hz0 : ((R.stops.length : Int) + 1 - i).toNat = 0 := by omega
        rw [hz0, pairsP, List.append_nil] at hA
        have hst : t = E.1.steps := by rw [E2, T.steps, hA]; exact ht
        have hfe : f = decide (E.2 = 0) := by
          cases hF : H.found with
          | true =>
            obtain ⟨A1, p, A2, e0, e1, e2, _⟩ := T.some hF
            have hmem : (H.pick, H.drop) ∈ A0 := by
              rw [← hA, e0, e1, e2]
              exact List.mem_append_right _ (List.mem_cons_self ..)
            rw [hf.2 ⟨hF, hmem⟩, E1.2 hF]; rfl
          | false =>
            have h1 : ¬ E.2 = 0 := fun q => by rw [E1.1 q] at hF; cases hF
            cases hf' : f with
            | true => rw [(hf.1 hf').1] at hF; cases hF
            | false => simp [h1]
        exact ⟨fun _ q => by rw [hfe] at q; simp at q, fun q => absurd hst q⟩
theorem insertLeast_t : Told Try.prog 3 insertLeast_con := insertLeast_told (csOk_cons maps_t (csOk_cons oneR_t (csOk_cons wDriver_t (csOk_cons ibest_t (csOk_cons insertRuns_t (csOk_cons cost_t (csOk_cons sfits_t (csOk_cons sput_t csOk_nil)))))))) insertLeast_ok
end Go.Eng
