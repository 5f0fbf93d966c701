/- The conditions of functions, as print.. of the engine told them. -/
import Derived.Test.YtindbdefjandkaaDeal
import Derived.KernelRfl
set_option linter.unusedVariables false
namespace Go.Eng
open Go Go.Proofs
def within_vc : Prop :=
  ∀ (x x_1 x_2 : Int), (decide (x ≥ x_1) = true → decide (x ≤ x_2) = within x x_1 x_2) ∧ (decide (x ≥ x_1) = !true → false = within x x_1 x_2)
theorem within_told (hc : CsOk Try.prog within_cs) (h : within_vc) : Told Try.prog 50 within_con := told (A := within_la) tabOk mixed hc Try.func50 (by kernel_rfl) (by kernel_rfl) h
def place_vc : Prop :=
  (∀ (x : Int), (∀ (x : MapD), none = some x → MapOk x) → within x (0 : Int) (wrap (places none - (1 : Int))) = place none x) ∧ ∀ (x : MapD), LenOk x.l.length → ∀ (x_2 : Int), (∀ (x_3 : MapD), some x = some x_3 → MapOk x_3) → within x_2 (0 :
  Int) (wrap (places (some x) - (1 : Int))) = place (some x) x_2
theorem place_told (hc : CsOk Try.prog place_cs) (h : place_vc) : Told Try.prog 51 place_con := told (A := place_la) tabOk mixed hc Try.func51 (by kernel_rfl) (by kernel_rfl) h
def order_vc : Prop :=
  (∀ (x : Order), (∀ (x : MapD), none = some x → MapOk x) → (1 : Int) = orderE none x) ∧ ∀ (x : MapD), LenOk x.l.length → ∀ (x_2 : Order), (∀ (x_3 : MapD), some x = some x_3 → MapOk x_3) → ((!within x_2.id (1 : Int) (1000000 : Int)) = true →
  (1 : Int) = orderE (some x) x_2) ∧ ((!within x_2.id (1 : Int) (1000000 : Int)) = false → ((!within x_2.size (1 : Int) (1000 : Int)) = true → (14 : Int) = orderE (some x) x_2) ∧ ((!within x_2.size (1 : Int) (1000 : Int)) = false → (∀ (x_6 :
  MapD), some x = some x_6 → MapOk x_6) ∧ ((!place (some x) x_2.pp) = false → (∀ (x_7 : MapD), some x = some x_7 → MapOk x_7) ∧ ((!place (some x) x_2.dp) = true → (12 : Int) = orderE (some x) x_2) ∧ ((!place (some x) x_2.dp) = false →
  ((!right (Win.mk x_2.pf x_2.pt)) = false → ((!right (Win.mk x_2.df x_2.dt)) = true → (13 : Int) = orderE (some x) x_2) ∧ ((!right (Win.mk x_2.df x_2.dt)) = false → ((!within x_2.ps (0 : Int) (1000000 : Int)) = false → ((!within x_2.ds (0 :
  Int) (1000000 : Int)) = true → (7 : Int) = orderE (some x) x_2) ∧ ((!within x_2.ds (0 : Int) (1000000 : Int)) = false → (0 : Int) = orderE (some x) x_2)) ∧ ((!within x_2.ps (0 : Int) (1000000 : Int)) = !false → (7 : Int) = orderE (some x)
  x_2))) ∧ ((!right (Win.mk x_2.pf x_2.pt)) = !false → (13 : Int) = orderE (some x) x_2))) ∧ ((!place (some x) x_2.pp) = !false → (12 : Int) = orderE (some x) x_2)))
theorem order_told (hc : CsOk Try.prog order_cs) (h : order_vc) : Told Try.prog 52 order_con := told (A := order_la) tabOk mixed hc Try.func52 (by kernel_rfl) (by kernel_rfl) h
def driver_vc : Prop :=
  (∀ (x : Driver), (∀ (x : MapD), none = some x → MapOk x) → (1 : Int) = driverE none x) ∧ ∀ (x : MapD), LenOk x.l.length → ∀ (x_2 : Driver), (∀ (x_3 : MapD), some x = some x_3 → MapOk x_3) → ((!within x_2.id (1 : Int) (1000000 : Int)) = true
  → (1 : Int) = driverE (some x) x_2) ∧ ((!within x_2.id (1 : Int) (1000000 : Int)) = false → ((!within x_2.room (1 : Int) (1000 : Int)) = true → (14 : Int) = driverE (some x) x_2) ∧ ((!within x_2.room (1 : Int) (1000 : Int)) = false → (∀
  (x_6 : MapD), some x = some x_6 → MapOk x_6) ∧ ((!place (some x) x_2.home) = true → (12 : Int) = driverE (some x) x_2) ∧ ((!place (some x) x_2.home) = false → ((!right (Win.mk x_2.lo x_2.hi)) = true → (13 : Int) = driverE (some x) x_2) ∧
  ((!right (Win.mk x_2.lo x_2.hi)) = false → (0 : Int) = driverE (some x) x_2))))
theorem driver_told (hc : CsOk Try.prog driver_cs) (h : driver_vc) : Told Try.prog 43 driver_con := told (A := driver_la) tabOk mixed hc Try.func43 (by kernel_rfl) (by kernel_rfl) h
def known_vc : Prop :=
  (∀ (x : List Order), LenOk x.length → (∀ (x : MapD), none = some x → MapOk x) → (decide ((↑x.length : Int) > (40 : Int)) = true → false = knownO none x) ∧ (decide ((↑x.length : Int) > (40 : Int)) = false → ∃ (inv : Int → Prop), ∃ (μ : Int →
  Nat), ((((↑x.length : Int) = (↑x.length : Int) ∧ (0 : Int) = (0 : Int)) ∧ x = x) ∧ inv (0 : Int)) ∧ ∀ (x_4 : Int), inv x_4 → (decide (x_4 < (↑x.length : Int)) = true → ((0 : Int) ≤ x_4 ∧ x_4 < (↑x.length : Int)) ∧ x_4.toNat < x.length ∧ (∀
  (x : MapD), none = some x → MapOk x) ∧ ((!decide (orderE none (x.getD x_4.toNat FK.order.zero) = (0 : Int))) = true → false = knownO none x) ∧ ((!decide (orderE none (x.getD x_4.toNat FK.order.zero) = (0 : Int))) = false → ((0 : Int) ≤ (0 :
  Int) ∧ (0 : Int) ≤ x_4 ∧ x_4 ≤ (↑x.length : Int)) ∧ ∃ (inv_1 : Int → Prop), ∃ (μ_1 : Int → Nat), ((((↑x.length : Int) = (↑x.length : Int) ∧ x_4 = x_4 ∧ (Int.toNat (0 : Int) = Int.toNat (0 : Int) ∧ x_4.toNat - Int.toNat (0 : Int) = x_4.toNat
  - Int.toNat (0 : Int)) ∧ (↑(x_4.toNat - Int.toNat (0 : Int)) : Int) = (↑(x_4.toNat - Int.toNat (0 : Int)) : Int) ∧ (0 : Int) = (0 : Int)) ∧ ((x.getD x_4.toNat FK.order.zero).id = (x.getD x_4.toNat FK.order.zero).id ∧ (x.getD x_4.toNat
  FK.order.zero).size = (x.getD x_4.toNat FK.order.zero).size ∧ (x.getD x_4.toNat FK.order.zero).pp = (x.getD x_4.toNat FK.order.zero).pp ∧ (x.getD x_4.toNat FK.order.zero).pf = (x.getD x_4.toNat FK.order.zero).pf ∧ (x.getD x_4.toNat
  FK.order.zero).pt = (x.getD x_4.toNat FK.order.zero).pt ∧ (x.getD x_4.toNat FK.order.zero).ps = (x.getD x_4.toNat FK.order.zero).ps ∧ (x.getD x_4.toNat FK.order.zero).dp = (x.getD x_4.toNat FK.order.zero).dp ∧ (x.getD x_4.toNat
  FK.order.zero).df = (x.getD x_4.toNat FK.order.zero).df ∧ (x.getD x_4.toNat FK.order.zero).dt = (x.getD x_4.toNat FK.order.zero).dt ∧ (x.getD x_4.toNat FK.order.zero).ds = (x.getD x_4.toNat FK.order.zero).ds) ∧ x = x) ∧ inv_1 (0 : Int)) ∧ ∀
  (x_8 : Int), inv_1 x_8 → (decide (x_8 < (↑(x_4.toNat - Int.toNat (0 : Int)) : Int)) = true → ((0 : Int) ≤ x_8 ∧ x_8 < (↑(x_4.toNat - Int.toNat (0 : Int)) : Int)) ∧ Int.toNat (0 : Int) + x_8.toNat < x.length ∧ (decide ((x.getD (Int.toNat (0
  : Int) + x_8.toNat) FK.order.zero).id = (x.getD x_4.toNat FK.order.zero).id) = true → false = knownO none x) ∧ (decide ((x.getD (Int.toNat (0 : Int) + x_8.toNat) FK.order.zero).id = (x.getD x_4.toNat FK.order.zero).id) = false →
  (((↑x.length : Int) = (↑x.length : Int) ∧ x_4 = x_4 ∧ (Int.toNat (0 : Int) = Int.toNat (0 : Int) ∧ x_4.toNat - Int.toNat (0 : Int) = x_4.toNat - Int.toNat (0 : Int)) ∧ (↑(x_4.toNat - Int.toNat (0 : Int)) : Int) = (↑(x_4.toNat - Int.toNat (0
  : Int)) : Int) ∧ wrap (x_8 + (1 : Int)) = wrap (x_8 + (1 : Int))) ∧ ((x.getD x_4.toNat FK.order.zero).id = (x.getD x_4.toNat FK.order.zero).id ∧ (x.getD x_4.toNat FK.order.zero).size = (x.getD x_4.toNat FK.order.zero).size ∧ (x.getD
  x_4.toNat FK.order.zero).pp = (x.getD x_4.toNat FK.order.zero).pp ∧ (x.getD x_4.toNat FK.order.zero).pf = (x.getD x_4.toNat FK.order.zero).pf ∧ (x.getD x_4.toNat FK.order.zero).pt = (x.getD x_4.toNat FK.order.zero).pt ∧ (x.getD x_4.toNat
  FK.order.zero).ps = (x.getD x_4.toNat FK.order.zero).ps ∧ (x.getD x_4.toNat FK.order.zero).dp = (x.getD x_4.toNat FK.order.zero).dp ∧ (x.getD x_4.toNat FK.order.zero).df = (x.getD x_4.toNat FK.order.zero).df ∧ (x.getD x_4.toNat
  FK.order.zero).dt = (x.getD x_4.toNat FK.order.zero).dt ∧ (x.getD x_4.toNat FK.order.zero).ds = (x.getD x_4.toNat FK.order.zero).ds) ∧ x = x) ∧ inv_1 (wrap (x_8 + (1 : Int))) ∧ μ_1 (wrap (x_8 + (1 : Int))) < μ_1 x_8)) ∧ (decide (x_8 <
  (↑(x_4.toNat - Int.toNat (0 : Int)) : Int)) = false → (((↑x.length : Int) = (↑x.length : Int) ∧ wrap (x_4 + (1 : Int)) = wrap (x_4 + (1 : Int))) ∧ x = x) ∧ inv (wrap (x_4 + (1 : Int))) ∧ μ (wrap (x_4 + (1 : Int))) < μ x_4))) ∧ (decide (x_4
  < (↑x.length : Int)) = false → true = knownO none x))) ∧ ∀ (x : MapD), LenOk x.l.length → ∀ (x_2 : List Order), LenOk x_2.length → (∀ (x_4 : MapD), some x = some x_4 → MapOk x_4) → (decide ((↑x_2.length : Int) > (40 : Int)) = true → false =
  knownO (some x) x_2) ∧ (decide ((↑x_2.length : Int) > (40 : Int)) = false → ∃ (inv : Int → Prop), ∃ (μ : Int → Nat), ((((↑x_2.length : Int) = (↑x_2.length : Int) ∧ (0 : Int) = (0 : Int)) ∧ x.n = x.n ∧ x.l = x.l ∧ x_2 = x_2) ∧ inv (0 : Int))
  ∧ ∀ (x_6 : Int), inv x_6 → (decide (x_6 < (↑x_2.length : Int)) = true → ((0 : Int) ≤ x_6 ∧ x_6 < (↑x_2.length : Int)) ∧ x_6.toNat < x_2.length ∧ (∀ (x_9 : MapD), some x = some x_9 → MapOk x_9) ∧ ((!decide (orderE (some x) (x_2.getD
  x_6.toNat FK.order.zero) = (0 : Int))) = true → false = knownO (some x) x_2) ∧ ((!decide (orderE (some x) (x_2.getD x_6.toNat FK.order.zero) = (0 : Int))) = false → ((0 : Int) ≤ (0 : Int) ∧ (0 : Int) ≤ x_6 ∧ x_6 ≤ (↑x_2.length : Int)) ∧ ∃
  (inv_1 : Int → Prop), ∃ (μ_1 : Int → Nat), ((((↑x_2.length : Int) = (↑x_2.length : Int) ∧ x_6 = x_6 ∧ (Int.toNat (0 : Int) = Int.toNat (0 : Int) ∧ x_6.toNat - Int.toNat (0 : Int) = x_6.toNat - Int.toNat (0 : Int)) ∧ (↑(x_6.toNat - Int.toNat
  (0 : Int)) : Int) = (↑(x_6.toNat - Int.toNat (0 : Int)) : Int) ∧ (0 : Int) = (0 : Int)) ∧ (x.n = x.n ∧ (x_2.getD x_6.toNat FK.order.zero).id = (x_2.getD x_6.toNat FK.order.zero).id ∧ (x_2.getD x_6.toNat FK.order.zero).size = (x_2.getD
  x_6.toNat FK.order.zero).size ∧ (x_2.getD x_6.toNat FK.order.zero).pp = (x_2.getD x_6.toNat FK.order.zero).pp ∧ (x_2.getD x_6.toNat FK.order.zero).pf = (x_2.getD x_6.toNat FK.order.zero).pf ∧ (x_2.getD x_6.toNat FK.order.zero).pt =
  (x_2.getD x_6.toNat FK.order.zero).pt ∧ (x_2.getD x_6.toNat FK.order.zero).ps = (x_2.getD x_6.toNat FK.order.zero).ps ∧ (x_2.getD x_6.toNat FK.order.zero).dp = (x_2.getD x_6.toNat FK.order.zero).dp ∧ (x_2.getD x_6.toNat FK.order.zero).df =
  (x_2.getD x_6.toNat FK.order.zero).df ∧ (x_2.getD x_6.toNat FK.order.zero).dt = (x_2.getD x_6.toNat FK.order.zero).dt ∧ (x_2.getD x_6.toNat FK.order.zero).ds = (x_2.getD x_6.toNat FK.order.zero).ds) ∧ x.l = x.l ∧ x_2 = x_2) ∧ inv_1 (0 :
  Int)) ∧ ∀ (x_10 : Int), inv_1 x_10 → (decide (x_10 < (↑(x_6.toNat - Int.toNat (0 : Int)) : Int)) = true → ((0 : Int) ≤ x_10 ∧ x_10 < (↑(x_6.toNat - Int.toNat (0 : Int)) : Int)) ∧ Int.toNat (0 : Int) + x_10.toNat < x_2.length ∧ (decide
  ((x_2.getD (Int.toNat (0 : Int) + x_10.toNat) FK.order.zero).id = (x_2.getD x_6.toNat FK.order.zero).id) = true → false = knownO (some x) x_2) ∧ (decide ((x_2.getD (Int.toNat (0 : Int) + x_10.toNat) FK.order.zero).id = (x_2.getD x_6.toNat
  FK.order.zero).id) = false → (((↑x_2.length : Int) = (↑x_2.length : Int) ∧ x_6 = x_6 ∧ (Int.toNat (0 : Int) = Int.toNat (0 : Int) ∧ x_6.toNat - Int.toNat (0 : Int) = x_6.toNat - Int.toNat (0 : Int)) ∧ (↑(x_6.toNat - Int.toNat (0 : Int)) :
  Int) = (↑(x_6.toNat - Int.toNat (0 : Int)) : Int) ∧ wrap (x_10 + (1 : Int)) = wrap (x_10 + (1 : Int))) ∧ (x.n = x.n ∧ (x_2.getD x_6.toNat FK.order.zero).id = (x_2.getD x_6.toNat FK.order.zero).id ∧ (x_2.getD x_6.toNat FK.order.zero).size =
  (x_2.getD x_6.toNat FK.order.zero).size ∧ (x_2.getD x_6.toNat FK.order.zero).pp = (x_2.getD x_6.toNat FK.order.zero).pp ∧ (x_2.getD x_6.toNat FK.order.zero).pf = (x_2.getD x_6.toNat FK.order.zero).pf ∧ (x_2.getD x_6.toNat FK.order.zero).pt
  = (x_2.getD x_6.toNat FK.order.zero).pt ∧ (x_2.getD x_6.toNat FK.order.zero).ps = (x_2.getD x_6.toNat FK.order.zero).ps ∧ (x_2.getD x_6.toNat FK.order.zero).dp = (x_2.getD x_6.toNat FK.order.zero).dp ∧ (x_2.getD x_6.toNat FK.order.zero).df
  = (x_2.getD x_6.toNat FK.order.zero).df ∧ (x_2.getD x_6.toNat FK.order.zero).dt = (x_2.getD x_6.toNat FK.order.zero).dt ∧ (x_2.getD x_6.toNat FK.order.zero).ds = (x_2.getD x_6.toNat FK.order.zero).ds) ∧ x.l = x.l ∧ x_2 = x_2) ∧ inv_1 (wrap
  (x_10 + (1 : Int))) ∧ μ_1 (wrap (x_10 + (1 : Int))) < μ_1 x_10)) ∧ (decide (x_10 < (↑(x_6.toNat - Int.toNat (0 : Int)) : Int)) = false → (((↑x_2.length : Int) = (↑x_2.length : Int) ∧ wrap (x_6 + (1 : Int)) = wrap (x_6 + (1 : Int))) ∧ x.n =
  x.n ∧ x.l = x.l ∧ x_2 = x_2) ∧ inv (wrap (x_6 + (1 : Int))) ∧ μ (wrap (x_6 + (1 : Int))) < μ x_6))) ∧ (decide (x_6 < (↑x_2.length : Int)) = false → true = knownO (some x) x_2))
theorem known_told (hc : CsOk Try.prog known_cs) (h : known_vc) : Told Try.prog 44 known_con := told (A := known_la) tabOk mixed hc Try.func44 (by kernel_rfl) (by kernel_rfl) h
def rPlace_vc : Prop :=
  ∀ (x : MapD), LenOk x.l.length → ∀ (x_2 : Int), (decide (x_2 ≥ (0 : Int)) = true → decide (x_2 < x.n) = place (some x) x_2) ∧ (decide (x_2 ≥ (0 : Int)) = !true → false = place (some x) x_2)
theorem rPlace_told (hc : CsOk Try.prog rPlace_cs) (h : rPlace_vc) : Told Try.prog 47 rPlace_con := told (A := rPlace_la) tabOk mixed hc Try.func47 (by kernel_rfl) (by kernel_rfl) h
def rOrder_vc : Prop :=
  (∀ (x : Order), (1 : Int) = orderE none x) ∧ ∀ (x : MapD), LenOk x.l.length → ∀ (x_2 : Order), (decide (x_2.id < (1 : Int)) = false → (decide (x_2.id > (1000000 : Int)) = true → (1 : Int) = orderE (some x) x_2) ∧ (decide (x_2.id > (1000000
  : Int)) = false → (decide (x_2.size < (1 : Int)) = false → (decide (x_2.size > (1000 : Int)) = true → (14 : Int) = orderE (some x) x_2) ∧ (decide (x_2.size > (1000 : Int)) = false → ((!place (some x) x_2.pp) = false → ((!place (some x)
  x_2.dp) = true → (12 : Int) = orderE (some x) x_2) ∧ ((!place (some x) x_2.dp) = false → ((!right (Win.mk x_2.pf x_2.pt)) = false → ((!right (Win.mk x_2.df x_2.dt)) = true → (13 : Int) = orderE (some x) x_2) ∧ ((!right (Win.mk x_2.df
  x_2.dt)) = false → (decide (x_2.ps < (0 : Int)) = false → (decide (x_2.ps > (1000000 : Int)) = false → (decide (x_2.ds < (0 : Int)) = false → (decide (x_2.ds > (1000000 : Int)) = true → (7 : Int) = orderE (some x) x_2) ∧ (decide (x_2.ds >
  (1000000 : Int)) = false → (0 : Int) = orderE (some x) x_2)) ∧ (decide (x_2.ds < (0 : Int)) = !false → (7 : Int) = orderE (some x) x_2)) ∧ (decide (x_2.ps > (1000000 : Int)) = !false → (7 : Int) = orderE (some x) x_2)) ∧ (decide (x_2.ps <
  (0 : Int)) = !false → (7 : Int) = orderE (some x) x_2))) ∧ ((!right (Win.mk x_2.pf x_2.pt)) = !false → (13 : Int) = orderE (some x) x_2))) ∧ ((!place (some x) x_2.pp) = !false → (12 : Int) = orderE (some x) x_2))) ∧ (decide (x_2.size < (1 :
  Int)) = !false → (14 : Int) = orderE (some x) x_2))) ∧ (decide (x_2.id < (1 : Int)) = !false → (1 : Int) = orderE (some x) x_2)
theorem rOrder_told (hc : CsOk Try.prog rOrder_cs) (h : rOrder_vc) : Told Try.prog 48 rOrder_con := told (A := rOrder_la) tabOk mixed hc Try.func48 (by kernel_rfl) (by kernel_rfl) h
def rDriver_vc : Prop :=
  (∀ (x : Driver), (1 : Int) = driverE none x) ∧ ∀ (x : MapD), LenOk x.l.length → ∀ (x_2 : Driver), (decide (x_2.id < (1 : Int)) = false → (decide (x_2.id > (1000000 : Int)) = true → (1 : Int) = driverE (some x) x_2) ∧ (decide (x_2.id >
  (1000000 : Int)) = false → (decide (x_2.room < (1 : Int)) = false → (decide (x_2.room > (1000 : Int)) = true → (14 : Int) = driverE (some x) x_2) ∧ (decide (x_2.room > (1000 : Int)) = false → ((!place (some x) x_2.home) = true → (12 : Int)
  = driverE (some x) x_2) ∧ ((!place (some x) x_2.home) = false → ((!right (Win.mk x_2.lo x_2.hi)) = true → (13 : Int) = driverE (some x) x_2) ∧ ((!right (Win.mk x_2.lo x_2.hi)) = false → (0 : Int) = driverE (some x) x_2)))) ∧ (decide
  (x_2.room < (1 : Int)) = !false → (14 : Int) = driverE (some x) x_2))) ∧ (decide (x_2.id < (1 : Int)) = !false → (1 : Int) = driverE (some x) x_2)
theorem rDriver_told (hc : CsOk Try.prog rDriver_cs) (h : rDriver_vc) : Told Try.prog 38 rDriver_con := told (A := rDriver_la) tabOk mixed hc Try.func38 (by kernel_rfl) (by kernel_rfl) h
def rKnown_vc : Prop :=
  (∀ (x : List Order), LenOk x.length → (decide ((↑x.length : Int) > (40 : Int)) = true → false = knownO none x) ∧ (decide ((↑x.length : Int) > (40 : Int)) = false → ∃ (inv : Int → Prop), ∃ (μ : Int → Nat), (((0 : Int) = (0 : Int) ∧ x = x) ∧
  inv (0 : Int)) ∧ ∀ (x_3 : Int), inv x_3 → (decide (x_3 < (↑x.length : Int)) = true → ((0 : Int) ≤ x_3 ∧ x_3 < (↑x.length : Int)) ∧ x_3.toNat < x.length ∧ ((!decide (orderE none (x.getD x_3.toNat FK.order.zero) = (0 : Int))) = true → false =
  knownO none x) ∧ ((!decide (orderE none (x.getD x_3.toNat FK.order.zero) = (0 : Int))) = false → ∃ (inv_1 : Int → Prop), ∃ (μ_1 : Int → Nat), (((x_3 = x_3 ∧ (0 : Int) = (0 : Int)) ∧ x = x) ∧ inv_1 (0 : Int)) ∧ ∀ (x_7 : Int), inv_1 x_7 →
  (decide (x_7 < x_3) = true → ((0 : Int) ≤ x_7 ∧ x_7 < (↑x.length : Int)) ∧ x_7.toNat < x.length ∧ ((0 : Int) ≤ x_3 ∧ x_3 < (↑x.length : Int)) ∧ x_3.toNat < x.length ∧ (decide ((x.getD x_7.toNat FK.order.zero).id = (x.getD x_3.toNat
  FK.order.zero).id) = true → false = knownO none x) ∧ (decide ((x.getD x_7.toNat FK.order.zero).id = (x.getD x_3.toNat FK.order.zero).id) = false → ((x_3 = x_3 ∧ wrap (x_7 + (1 : Int)) = wrap (x_7 + (1 : Int))) ∧ x = x) ∧ inv_1 (wrap (x_7 +
  (1 : Int))) ∧ μ_1 (wrap (x_7 + (1 : Int))) < μ_1 x_7)) ∧ (decide (x_7 < x_3) = false → (wrap (x_3 + (1 : Int)) = wrap (x_3 + (1 : Int)) ∧ x = x) ∧ inv (wrap (x_3 + (1 : Int))) ∧ μ (wrap (x_3 + (1 : Int))) < μ x_3))) ∧ (decide (x_3 <
  (↑x.length : Int)) = false → true = knownO none x))) ∧ ∀ (x : MapD), LenOk x.l.length → ∀ (x_2 : List Order), LenOk x_2.length → (decide ((↑x_2.length : Int) > (40 : Int)) = true → false = knownO (some x) x_2) ∧ (decide ((↑x_2.length : Int)
  > (40 : Int)) = false → ∃ (inv : Int → Prop), ∃ (μ : Int → Nat), (((0 : Int) = (0 : Int) ∧ x.n = x.n ∧ x.l = x.l ∧ x_2 = x_2) ∧ inv (0 : Int)) ∧ ∀ (x_5 : Int), inv x_5 → (decide (x_5 < (↑x_2.length : Int)) = true → ((0 : Int) ≤ x_5 ∧ x_5 <
  (↑x_2.length : Int)) ∧ x_5.toNat < x_2.length ∧ ((!decide (orderE (some x) (x_2.getD x_5.toNat FK.order.zero) = (0 : Int))) = true → false = knownO (some x) x_2) ∧ ((!decide (orderE (some x) (x_2.getD x_5.toNat FK.order.zero) = (0 : Int)))
  = false → ∃ (inv_1 : Int → Prop), ∃ (μ_1 : Int → Nat), (((x_5 = x_5 ∧ (0 : Int) = (0 : Int)) ∧ x.n = x.n ∧ x.l = x.l ∧ x_2 = x_2) ∧ inv_1 (0 : Int)) ∧ ∀ (x_9 : Int), inv_1 x_9 → (decide (x_9 < x_5) = true → ((0 : Int) ≤ x_9 ∧ x_9 <
  (↑x_2.length : Int)) ∧ x_9.toNat < x_2.length ∧ ((0 : Int) ≤ x_5 ∧ x_5 < (↑x_2.length : Int)) ∧ x_5.toNat < x_2.length ∧ (decide ((x_2.getD x_9.toNat FK.order.zero).id = (x_2.getD x_5.toNat FK.order.zero).id) = true → false = knownO (some
  x) x_2) ∧ (decide ((x_2.getD x_9.toNat FK.order.zero).id = (x_2.getD x_5.toNat FK.order.zero).id) = false → ((x_5 = x_5 ∧ wrap (x_9 + (1 : Int)) = wrap (x_9 + (1 : Int))) ∧ x.n = x.n ∧ x.l = x.l ∧ x_2 = x_2) ∧ inv_1 (wrap (x_9 + (1 : Int)))
  ∧ μ_1 (wrap (x_9 + (1 : Int))) < μ_1 x_9)) ∧ (decide (x_9 < x_5) = false → (wrap (x_5 + (1 : Int)) = wrap (x_5 + (1 : Int)) ∧ x.n = x.n ∧ x.l = x.l ∧ x_2 = x_2) ∧ inv (wrap (x_5 + (1 : Int))) ∧ μ (wrap (x_5 + (1 : Int))) < μ x_5))) ∧
  (decide (x_5 < (↑x_2.length : Int)) = false → true = knownO (some x) x_2))
theorem rKnown_told (hc : CsOk Try.prog rKnown_cs) (h : rKnown_vc) : Told Try.prog 39 rKnown_con := told (A := rKnown_la) tabOk mixed hc Try.func39 (by kernel_rfl) (by kernel_rfl) h
def served_vc : Prop :=
  ∀ (x : MapD), LenOk x.l.length → ∀ (x_2 x_3 : Int) (x_4 : Site) (x_5 : Int), MapOk x ∧ AtOk x x_2 x_3 ∧ SiteOk x x_4 → MapOk x ∧ ((!(begin_ (Win.mk x_4.lo x_4.hi) (wrap (x_3 + (mtime (some x) x_2 x_4.pl).fst))).snd) = false → (decide (wrap
  ((begin_ (Win.mk x_4.lo x_4.hi) (wrap (x_3 + (mtime (some x) x_2 x_4.pl).fst))).fst + x_4.sv) > x_5) = true → (0 : Int) = ((served x x_2 x_3 x_4 x_5).getD ((0 : Int), (0 : Int))).fst ∧ (0 : Int) = ((served x x_2 x_3 x_4 x_5).getD ((0 :
  Int), (0 : Int))).snd ∧ false = (served x x_2 x_3 x_4 x_5).isSome) ∧ (decide (wrap ((begin_ (Win.mk x_4.lo x_4.hi) (wrap (x_3 + (mtime (some x) x_2 x_4.pl).fst))).fst + x_4.sv) > x_5) = false → (begin_ (Win.mk x_4.lo x_4.hi) (wrap (x_3 +
  (mtime (some x) x_2 x_4.pl).fst))).fst = ((served x x_2 x_3 x_4 x_5).getD ((0 : Int), (0 : Int))).fst ∧ wrap ((begin_ (Win.mk x_4.lo x_4.hi) (wrap (x_3 + (mtime (some x) x_2 x_4.pl).fst))).fst + x_4.sv) = ((served x x_2 x_3 x_4 x_5).getD
  ((0 : Int), (0 : Int))).snd ∧ true = (served x x_2 x_3 x_4 x_5).isSome)) ∧ ((!(begin_ (Win.mk x_4.lo x_4.hi) (wrap (x_3 + (mtime (some x) x_2 x_4.pl).fst))).snd) = !false → (0 : Int) = ((served x x_2 x_3 x_4 x_5).getD ((0 : Int), (0 :
  Int))).fst ∧ (0 : Int) = ((served x x_2 x_3 x_4 x_5).getD ((0 : Int), (0 : Int))).snd ∧ false = (served x x_2 x_3 x_4 x_5).isSome)
theorem served_told (hc : CsOk Try.prog served_cs) (h : served_vc) : Told Try.prog 41 served_con := told (A := served_la) tabOk mixed hc Try.func41 (by kernel_rfl) (by kernel_rfl) h
def maps_vc : Prop :=
  ∀ (x : WorldD), (LenOk x.times.length ∧ LenOk x.drivers.length ∧ LenOk x.orders.length ∧ LenOk x.plan.length ∧ ∀ (r : Route), List.Mem r x.plan → LenOk r.stops.length) → (newE x.n x.times ≠ (0 : Int) → (newE x.n x.times ≠ (0 : Int) →
  (decide (newE x.n x.times = newE x.n x.times) = true → newE x.n x.times ≠ (0 : Int) ∧ (true == true) = true ∨ Bad (nat_lit 18) (List SW) [SW.c SC.nlp, SW.c SC.nlp, SW.c (SC.b true)]) ∧ (decide (newE x.n x.times = newE x.n x.times) = !true →
  newE x.n x.times ≠ (0 : Int) ∧ false = true ∨ Bad (nat_lit 18) (List SW) [SW.c SC.nlp, SW.c SC.nlp, SW.c (SC.l false)])) ∧ (newE x.n x.times = (0 : Int) → (decide (newE x.n x.times = (0 : Int)) = true → Bad (nat_lit 18) (List SW) [SW.c
  SC.nlp, SW.c (SC.p (nat_lit 5) (nat_lit 0)), SW.c (SC.b false)] ∨ Bad (nat_lit 18) (List SW) [SW.c SC.nlp, SW.c (SC.p (nat_lit 5) (nat_lit 0)), SW.c (SC.b false)]) ∧ (decide (newE x.n x.times = (0 : Int)) = !true → Bad (nat_lit 18) (List
  SW) [SW.c SC.nlp, SW.c (SC.p (nat_lit 5) (nat_lit 0)), SW.c (SC.l false)] ∨ Bad (nat_lit 18) (List SW) [SW.c SC.nlp, SW.c (SC.p (nat_lit 5) (nat_lit 0)), SW.c (SC.l false)]))) ∧ (newE x.n x.times = (0 : Int) → (newE x.n x.times ≠ (0 : Int)
  → (decide ((0 : Int) = newE x.n x.times) = true → Bad (nat_lit 18) (List SW) [SW.c (SC.p (nat_lit 5) (nat_lit 0)), SW.c SC.nlp, SW.c (SC.b false)] ∨ Bad (nat_lit 18) (List SW) [SW.c (SC.p (nat_lit 5) (nat_lit 0)), SW.c SC.nlp, SW.c (SC.b
  false)]) ∧ (decide ((0 : Int) = newE x.n x.times) = !true → Bad (nat_lit 18) (List SW) [SW.c (SC.p (nat_lit 5) (nat_lit 0)), SW.c SC.nlp, SW.c (SC.l false)] ∨ Bad (nat_lit 18) (List SW) [SW.c (SC.p (nat_lit 5) (nat_lit 0)), SW.c SC.nlp,
  SW.c (SC.l false)])) ∧ (newE x.n x.times = (0 : Int) → (decide ((0 : Int) = (0 : Int)) = true → Bad (nat_lit 18) (List SW) [SW.c (SC.p (nat_lit 5) (nat_lit 0)), SW.c (SC.p (nat_lit 7) (nat_lit 0)), SW.c (SC.b true)] ∨ newE x.n x.times = (0
  : Int) ∧ (false == false) = true ∧ (x.n = x.n ∧ x.n = x.n) ∧ x.times = x.times ∧ x.times = x.times) ∧ (decide ((0 : Int) = (0 : Int)) = !true → Bad (nat_lit 18) (List SW) [SW.c (SC.p (nat_lit 5) (nat_lit 0)), SW.c (SC.p (nat_lit 7) (nat_lit
  0)), SW.c (SC.l false)] ∨ newE x.n x.times = (0 : Int) ∧ false = true ∧ (x.n = x.n ∧ x.n = x.n) ∧ x.times = x.times ∧ x.times = x.times)))
theorem maps_told (hc : CsOk Try.prog maps_cs) (h : maps_vc) : Told Try.prog 15 maps_con := told (A := maps_la) tabOk mixed hc Try.func15 (by kernel_rfl) (by kernel_rfl) h
end Go.Eng
