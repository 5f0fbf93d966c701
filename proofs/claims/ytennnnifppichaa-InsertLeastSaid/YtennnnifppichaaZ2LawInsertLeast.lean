/- The conditions of functions, as print.. of the engine told them. -/
import Derived.Test.YtennnnifppichaaZ1LawInsertLeast
import Derived.KernelRfl
set_option linter.unusedVariables false
namespace Go.Eng
open Go Go.Proofs
def legOf_vc : Prop :=
  ∀ (x : Order) (x_1 : Bool), (x_1 = true → x.dp = (legO x x_1).pl ∧ x.df = (legO x x_1).lo ∧ x.dt = (legO x x_1).hi ∧ x.ds = (legO x x_1).sv ∧ wrap (-x.size) = (legO x x_1).more) ∧ (x_1 = false → x.pp = (legO x x_1).pl ∧ x.pf = (legO x
  x_1).lo ∧ x.pt = (legO x x_1).hi ∧ x.ps = (legO x x_1).sv ∧ x.size = (legO x x_1).more)
theorem legOf_told (hc : CsOk Try.prog legOf_cs) (h : legOf_vc) : Told Try.prog 54 legOf_con := told (A := legOf_la) tabOk mixed hc Try.func54 (by kernel_rfl) (by kernel_rfl) h
def step_vc : Prop :=
  ∀ (x : SearchD), LenOk x.m.l.length ∧ LenOk x.legs.length ∧ LenOk x.pre.length → ∀ (x_2 : State) (x_3 : Leg), MapOk x.m → (∀ (x_5 : MapD), some x.m = some x_5 → MapOk x_5) ∧ ((begin_ (Win.mk x_3.lo x_3.hi) (wrap (x_2.now + (mtime (some x.m)
  x_2.pos x_3.pl).fst))).snd = true → (decide (wrap ((begin_ (Win.mk x_3.lo x_3.hi) (wrap (x_2.now + (mtime (some x.m) x_2.pos x_3.pl).fst))).fst + x_3.sv) ≤ x.d.hi) = true → (wrap ((begin_ (Win.mk x_3.lo x_3.hi) (wrap (x_2.now + (mtime (some
  x.m) x_2.pos x_3.pl).fst))).fst + x_3.sv) = (stepS x.m x.d x_2 x_3).fst.now ∧ x_3.pl = (stepS x.m x.d x_2 x_3).fst.pos ∧ wrap (x_2.load + x_3.more) = (stepS x.m x.d x_2 x_3).fst.load ∧ wrap (x_2.way + (mtime (some x.m) x_2.pos x_3.pl).fst)
  = (stepS x.m x.d x_2 x_3).fst.way) ∧ decide (wrap (x_2.load + x_3.more) ≤ x.d.room) = (stepS x.m x.d x_2 x_3).snd) ∧ (decide (wrap ((begin_ (Win.mk x_3.lo x_3.hi) (wrap (x_2.now + (mtime (some x.m) x_2.pos x_3.pl).fst))).fst + x_3.sv) ≤
  x.d.hi) = !true → (wrap ((begin_ (Win.mk x_3.lo x_3.hi) (wrap (x_2.now + (mtime (some x.m) x_2.pos x_3.pl).fst))).fst + x_3.sv) = (stepS x.m x.d x_2 x_3).fst.now ∧ x_3.pl = (stepS x.m x.d x_2 x_3).fst.pos ∧ wrap (x_2.load + x_3.more) =
  (stepS x.m x.d x_2 x_3).fst.load ∧ wrap (x_2.way + (mtime (some x.m) x_2.pos x_3.pl).fst) = (stepS x.m x.d x_2 x_3).fst.way) ∧ false = (stepS x.m x.d x_2 x_3).snd)) ∧ ((begin_ (Win.mk x_3.lo x_3.hi) (wrap (x_2.now + (mtime (some x.m)
  x_2.pos x_3.pl).fst))).snd = !true → (wrap ((begin_ (Win.mk x_3.lo x_3.hi) (wrap (x_2.now + (mtime (some x.m) x_2.pos x_3.pl).fst))).fst + x_3.sv) = (stepS x.m x.d x_2 x_3).fst.now ∧ x_3.pl = (stepS x.m x.d x_2 x_3).fst.pos ∧ wrap (x_2.load
  + x_3.more) = (stepS x.m x.d x_2 x_3).fst.load ∧ wrap (x_2.way + (mtime (some x.m) x_2.pos x_3.pl).fst) = (stepS x.m x.d x_2 x_3).fst.way) ∧ false = (stepS x.m x.d x_2 x_3).snd)
theorem step_told (hc : CsOk Try.prog step_cs) (h : step_vc) : Told Try.prog 55 step_con := told (A := step_la) tabOk mixed hc Try.func55 (by kernel_rfl) (by kernel_rfl) h
def price_vc : Prop :=
  ∀ (x : SearchD), LenOk x.m.l.length ∧ LenOk x.legs.length ∧ LenOk x.pre.length → ∀ (x_2 x_3 : Int), PricePre x x_2 x_3 → ((0 : Int) ≤ x_2 ∧ x_2 < (↑x.pre.length : Int)) ∧ x_2.toNat < x.pre.length ∧ MapOk x.m ∧ ∃ (inv : Bool → Int → Int →
  Int → Int → Prop), (∃ (inv_1 : Bool → Int → Int → Int → Int → Int → Prop), ∃ (μ : Bool → Int → Int → Int → Int → Int → Nat), (((x_3 = x_3 ∧ (stepS x.m x.d (x.pre.getD x_2.toNat FK.state.zero) x.pick).snd = (stepS x.m x.d (x.pre.getD
  x_2.toNat FK.state.zero) x.pick).snd ∧ x_2 = x_2) ∧ ((x.d.id = x.d.id ∧ x.d.room = x.d.room ∧ x.d.home = x.d.home ∧ x.d.lo = x.d.lo ∧ x.d.hi = x.d.hi ∧ x.d.retired = x.d.retired ∧ x.pick.pl = x.pick.pl ∧ x.pick.lo = x.pick.lo ∧ x.pick.hi =
  x.pick.hi ∧ x.pick.sv = x.pick.sv ∧ x.pick.more = x.pick.more ∧ x.drop.pl = x.drop.pl ∧ x.drop.lo = x.drop.lo ∧ x.drop.hi = x.drop.hi ∧ x.drop.sv = x.drop.sv ∧ x.drop.more = x.drop.more ∧ x.full = x.full) ∧ x.m.n = x.m.n ∧ (stepS x.m x.d
  (x.pre.getD x_2.toNat FK.state.zero) x.pick).fst.now = (stepS x.m x.d (x.pre.getD x_2.toNat FK.state.zero) x.pick).fst.now ∧ (stepS x.m x.d (x.pre.getD x_2.toNat FK.state.zero) x.pick).fst.pos = (stepS x.m x.d (x.pre.getD x_2.toNat
  FK.state.zero) x.pick).fst.pos ∧ (stepS x.m x.d (x.pre.getD x_2.toNat FK.state.zero) x.pick).fst.load = (stepS x.m x.d (x.pre.getD x_2.toNat FK.state.zero) x.pick).fst.load ∧ (stepS x.m x.d (x.pre.getD x_2.toNat FK.state.zero)
  x.pick).fst.way = (stepS x.m x.d (x.pre.getD x_2.toNat FK.state.zero) x.pick).fst.way) ∧ x.m.l = x.m.l ∧ x.pre = x.pre ∧ x.legs = x.legs) ∧ inv_1 (stepS x.m x.d (x.pre.getD x_2.toNat FK.state.zero) x.pick).snd x_2 (stepS x.m x.d (x.pre.getD
  x_2.toNat FK.state.zero) x.pick).fst.now (stepS x.m x.d (x.pre.getD x_2.toNat FK.state.zero) x.pick).fst.pos (stepS x.m x.d (x.pre.getD x_2.toNat FK.state.zero) x.pick).fst.load (stepS x.m x.d (x.pre.getD x_2.toNat FK.state.zero)
  x.pick).fst.way) ∧ ∀ (x_5 : Bool) (x_6 x_7 x_8 x_9 x_10 : Int), inv_1 x_5 x_6 x_7 x_8 x_9 x_10 → (decide (x_6 < x_3) = true → (x_5 = true → ((0 : Int) ≤ x_6 ∧ x_6 < (↑x.legs.length : Int)) ∧ x_6.toNat < x.legs.length ∧ MapOk x.m ∧ ((x_3 =
  x_3 ∧ (stepS x.m x.d (State.mk x_7 x_8 x_9 x_10) (x.legs.getD x_6.toNat FK.leg.zero)).snd = (stepS x.m x.d (State.mk x_7 x_8 x_9 x_10) (x.legs.getD x_6.toNat FK.leg.zero)).snd ∧ wrap (x_6 + (1 : Int)) = wrap (x_6 + (1 : Int))) ∧ ((x.d.id =
  x.d.id ∧ x.d.room = x.d.room ∧ x.d.home = x.d.home ∧ x.d.lo = x.d.lo ∧ x.d.hi = x.d.hi ∧ x.d.retired = x.d.retired ∧ x.pick.pl = x.pick.pl ∧ x.pick.lo = x.pick.lo ∧ x.pick.hi = x.pick.hi ∧ x.pick.sv = x.pick.sv ∧ x.pick.more = x.pick.more ∧
  x.drop.pl = x.drop.pl ∧ x.drop.lo = x.drop.lo ∧ x.drop.hi = x.drop.hi ∧ x.drop.sv = x.drop.sv ∧ x.drop.more = x.drop.more ∧ x.full = x.full) ∧ x.m.n = x.m.n ∧ (stepS x.m x.d (State.mk x_7 x_8 x_9 x_10) (x.legs.getD x_6.toNat
  FK.leg.zero)).fst.now = (stepS x.m x.d (State.mk x_7 x_8 x_9 x_10) (x.legs.getD x_6.toNat FK.leg.zero)).fst.now ∧ (stepS x.m x.d (State.mk x_7 x_8 x_9 x_10) (x.legs.getD x_6.toNat FK.leg.zero)).fst.pos = (stepS x.m x.d (State.mk x_7 x_8 x_9
  x_10) (x.legs.getD x_6.toNat FK.leg.zero)).fst.pos ∧ (stepS x.m x.d (State.mk x_7 x_8 x_9 x_10) (x.legs.getD x_6.toNat FK.leg.zero)).fst.load = (stepS x.m x.d (State.mk x_7 x_8 x_9 x_10) (x.legs.getD x_6.toNat FK.leg.zero)).fst.load ∧
  (stepS x.m x.d (State.mk x_7 x_8 x_9 x_10) (x.legs.getD x_6.toNat FK.leg.zero)).fst.way = (stepS x.m x.d (State.mk x_7 x_8 x_9 x_10) (x.legs.getD x_6.toNat FK.leg.zero)).fst.way) ∧ x.m.l = x.m.l ∧ x.pre = x.pre ∧ x.legs = x.legs) ∧ inv_1
  (stepS x.m x.d (State.mk x_7 x_8 x_9 x_10) (x.legs.getD x_6.toNat FK.leg.zero)).snd (wrap (x_6 + (1 : Int))) (stepS x.m x.d (State.mk x_7 x_8 x_9 x_10) (x.legs.getD x_6.toNat FK.leg.zero)).fst.now (stepS x.m x.d (State.mk x_7 x_8 x_9 x_10)
  (x.legs.getD x_6.toNat FK.leg.zero)).fst.pos (stepS x.m x.d (State.mk x_7 x_8 x_9 x_10) (x.legs.getD x_6.toNat FK.leg.zero)).fst.load (stepS x.m x.d (State.mk x_7 x_8 x_9 x_10) (x.legs.getD x_6.toNat FK.leg.zero)).fst.way ∧ μ (stepS x.m x.d
  (State.mk x_7 x_8 x_9 x_10) (x.legs.getD x_6.toNat FK.leg.zero)).snd (wrap (x_6 + (1 : Int))) (stepS x.m x.d (State.mk x_7 x_8 x_9 x_10) (x.legs.getD x_6.toNat FK.leg.zero)).fst.now (stepS x.m x.d (State.mk x_7 x_8 x_9 x_10) (x.legs.getD
  x_6.toNat FK.leg.zero)).fst.pos (stepS x.m x.d (State.mk x_7 x_8 x_9 x_10) (x.legs.getD x_6.toNat FK.leg.zero)).fst.load (stepS x.m x.d (State.mk x_7 x_8 x_9 x_10) (x.legs.getD x_6.toNat FK.leg.zero)).fst.way < μ x_5 x_6 x_7 x_8 x_9 x_10) ∧
  (x_5 = false → ((x_3 = x_3 ∧ x_5 = x_5) ∧ ((x.d.id = x.d.id ∧ x.d.room = x.d.room ∧ x.d.home = x.d.home ∧ x.d.lo = x.d.lo ∧ x.d.hi = x.d.hi ∧ x.d.retired = x.d.retired ∧ x.pick.pl = x.pick.pl ∧ x.pick.lo = x.pick.lo ∧ x.pick.hi = x.pick.hi
  ∧ x.pick.sv = x.pick.sv ∧ x.pick.more = x.pick.more ∧ x.drop.pl = x.drop.pl ∧ x.drop.lo = x.drop.lo ∧ x.drop.hi = x.drop.hi ∧ x.drop.sv = x.drop.sv ∧ x.drop.more = x.drop.more ∧ x.full = x.full) ∧ x.m.n = x.m.n ∧ x_7 = x_7 ∧ x_8 = x_8 ∧ x_9
  = x_9 ∧ x_10 = x_10) ∧ x.m.l = x.m.l ∧ x.pre = x.pre ∧ x.legs = x.legs) ∧ inv x_5 x_7 x_8 x_9 x_10)) ∧ (decide (x_6 < x_3) = !true → ((x_3 = x_3 ∧ x_5 = x_5) ∧ ((x.d.id = x.d.id ∧ x.d.room = x.d.room ∧ x.d.home = x.d.home ∧ x.d.lo = x.d.lo
  ∧ x.d.hi = x.d.hi ∧ x.d.retired = x.d.retired ∧ x.pick.pl = x.pick.pl ∧ x.pick.lo = x.pick.lo ∧ x.pick.hi = x.pick.hi ∧ x.pick.sv = x.pick.sv ∧ x.pick.more = x.pick.more ∧ x.drop.pl = x.drop.pl ∧ x.drop.lo = x.drop.lo ∧ x.drop.hi =
  x.drop.hi ∧ x.drop.sv = x.drop.sv ∧ x.drop.more = x.drop.more ∧ x.full = x.full) ∧ x.m.n = x.m.n ∧ x_7 = x_7 ∧ x_8 = x_8 ∧ x_9 = x_9 ∧ x_10 = x_10) ∧ x.m.l = x.m.l ∧ x.pre = x.pre ∧ x.legs = x.legs) ∧ inv x_5 x_7 x_8 x_9 x_10)) ∧ ∀ (x_5 :
  Bool) (x_6 x_7 x_8 x_9 : Int), inv x_5 x_6 x_7 x_8 x_9 → ∃ (inv : Bool → Int → Int → Int → Int → Prop), ((x_5 = true → MapOk x.m ∧ ((x_3 = x_3 ∧ (stepS x.m x.d (State.mk x_6 x_7 x_8 x_9) x.drop).snd = (stepS x.m x.d (State.mk x_6 x_7 x_8
  x_9) x.drop).snd) ∧ ((x.d.id = x.d.id ∧ x.d.room = x.d.room ∧ x.d.home = x.d.home ∧ x.d.lo = x.d.lo ∧ x.d.hi = x.d.hi ∧ x.d.retired = x.d.retired ∧ x.pick.pl = x.pick.pl ∧ x.pick.lo = x.pick.lo ∧ x.pick.hi = x.pick.hi ∧ x.pick.sv =
  x.pick.sv ∧ x.pick.more = x.pick.more ∧ x.drop.pl = x.drop.pl ∧ x.drop.lo = x.drop.lo ∧ x.drop.hi = x.drop.hi ∧ x.drop.sv = x.drop.sv ∧ x.drop.more = x.drop.more ∧ x.full = x.full) ∧ x.m.n = x.m.n ∧ (stepS x.m x.d (State.mk x_6 x_7 x_8 x_9)
  x.drop).fst.now = (stepS x.m x.d (State.mk x_6 x_7 x_8 x_9) x.drop).fst.now ∧ (stepS x.m x.d (State.mk x_6 x_7 x_8 x_9) x.drop).fst.pos = (stepS x.m x.d (State.mk x_6 x_7 x_8 x_9) x.drop).fst.pos ∧ (stepS x.m x.d (State.mk x_6 x_7 x_8 x_9)
  x.drop).fst.load = (stepS x.m x.d (State.mk x_6 x_7 x_8 x_9) x.drop).fst.load ∧ (stepS x.m x.d (State.mk x_6 x_7 x_8 x_9) x.drop).fst.way = (stepS x.m x.d (State.mk x_6 x_7 x_8 x_9) x.drop).fst.way) ∧ x.m.l = x.m.l ∧ x.pre = x.pre ∧ x.legs
  = x.legs) ∧ inv (stepS x.m x.d (State.mk x_6 x_7 x_8 x_9) x.drop).snd (stepS x.m x.d (State.mk x_6 x_7 x_8 x_9) x.drop).fst.now (stepS x.m x.d (State.mk x_6 x_7 x_8 x_9) x.drop).fst.pos (stepS x.m x.d (State.mk x_6 x_7 x_8 x_9)
  x.drop).fst.load (stepS x.m x.d (State.mk x_6 x_7 x_8 x_9) x.drop).fst.way) ∧ (x_5 = false → ((x_3 = x_3 ∧ x_5 = x_5) ∧ ((x.d.id = x.d.id ∧ x.d.room = x.d.room ∧ x.d.home = x.d.home ∧ x.d.lo = x.d.lo ∧ x.d.hi = x.d.hi ∧ x.d.retired =
  x.d.retired ∧ x.pick.pl = x.pick.pl ∧ x.pick.lo = x.pick.lo ∧ x.pick.hi = x.pick.hi ∧ x.pick.sv = x.pick.sv ∧ x.pick.more = x.pick.more ∧ x.drop.pl = x.drop.pl ∧ x.drop.lo = x.drop.lo ∧ x.drop.hi = x.drop.hi ∧ x.drop.sv = x.drop.sv ∧
  x.drop.more = x.drop.more ∧ x.full = x.full) ∧ x.m.n = x.m.n ∧ x_6 = x_6 ∧ x_7 = x_7 ∧ x_8 = x_8 ∧ x_9 = x_9) ∧ x.m.l = x.m.l ∧ x.pre = x.pre ∧ x.legs = x.legs) ∧ inv x_5 x_6 x_7 x_8 x_9)) ∧ ∀ (x_11 : Bool) (x_12 x_13 x_14 x_15 : Int), inv
  x_11 x_12 x_13 x_14 x_15 → ∃ (inv : Bool → Int → Int → Int → Int → Int → Prop), ∃ (μ : Bool → Int → Int → Int → Int → Int → Nat), (((x_11 = x_11 ∧ x_3 = x_3) ∧ ((x.d.id = x.d.id ∧ x.d.room = x.d.room ∧ x.d.home = x.d.home ∧ x.d.lo = x.d.lo
  ∧ x.d.hi = x.d.hi ∧ x.d.retired = x.d.retired ∧ x.pick.pl = x.pick.pl ∧ x.pick.lo = x.pick.lo ∧ x.pick.hi = x.pick.hi ∧ x.pick.sv = x.pick.sv ∧ x.pick.more = x.pick.more ∧ x.drop.pl = x.drop.pl ∧ x.drop.lo = x.drop.lo ∧ x.drop.hi =
  x.drop.hi ∧ x.drop.sv = x.drop.sv ∧ x.drop.more = x.drop.more ∧ x.full = x.full) ∧ x.m.n = x.m.n ∧ x_12 = x_12 ∧ x_13 = x_13 ∧ x_14 = x_14 ∧ x_15 = x_15) ∧ x.m.l = x.m.l ∧ x.pre = x.pre ∧ x.legs = x.legs) ∧ inv x_11 x_3 x_12 x_13 x_14 x_15)
  ∧ ∀ (x_17 : Bool) (x_18 x_19 x_20 x_21 x_22 : Int), inv x_17 x_18 x_19 x_20 x_21 x_22 → (decide (x_18 < (↑x.legs.length : Int)) = true → (x_17 = true → ((0 : Int) ≤ x_18 ∧ x_18 < (↑x.legs.length : Int)) ∧ x_18.toNat < x.legs.length ∧ MapOk
  x.m ∧ (((stepS x.m x.d (State.mk x_19 x_20 x_21 x_22) (x.legs.getD x_18.toNat FK.leg.zero)).snd = (stepS x.m x.d (State.mk x_19 x_20 x_21 x_22) (x.legs.getD x_18.toNat FK.leg.zero)).snd ∧ wrap (x_18 + (1 : Int)) = wrap (x_18 + (1 : Int))) ∧
  ((x.d.id = x.d.id ∧ x.d.room = x.d.room ∧ x.d.home = x.d.home ∧ x.d.lo = x.d.lo ∧ x.d.hi = x.d.hi ∧ x.d.retired = x.d.retired ∧ x.pick.pl = x.pick.pl ∧ x.pick.lo = x.pick.lo ∧ x.pick.hi = x.pick.hi ∧ x.pick.sv = x.pick.sv ∧ x.pick.more =
  x.pick.more ∧ x.drop.pl = x.drop.pl ∧ x.drop.lo = x.drop.lo ∧ x.drop.hi = x.drop.hi ∧ x.drop.sv = x.drop.sv ∧ x.drop.more = x.drop.more ∧ x.full = x.full) ∧ x.m.n = x.m.n ∧ (stepS x.m x.d (State.mk x_19 x_20 x_21 x_22) (x.legs.getD
  x_18.toNat FK.leg.zero)).fst.now = (stepS x.m x.d (State.mk x_19 x_20 x_21 x_22) (x.legs.getD x_18.toNat FK.leg.zero)).fst.now ∧ (stepS x.m x.d (State.mk x_19 x_20 x_21 x_22) (x.legs.getD x_18.toNat FK.leg.zero)).fst.pos = (stepS x.m x.d
  (State.mk x_19 x_20 x_21 x_22) (x.legs.getD x_18.toNat FK.leg.zero)).fst.pos ∧ (stepS x.m x.d (State.mk x_19 x_20 x_21 x_22) (x.legs.getD x_18.toNat FK.leg.zero)).fst.load = (stepS x.m x.d (State.mk x_19 x_20 x_21 x_22) (x.legs.getD
  x_18.toNat FK.leg.zero)).fst.load ∧ (stepS x.m x.d (State.mk x_19 x_20 x_21 x_22) (x.legs.getD x_18.toNat FK.leg.zero)).fst.way = (stepS x.m x.d (State.mk x_19 x_20 x_21 x_22) (x.legs.getD x_18.toNat FK.leg.zero)).fst.way) ∧ x.m.l = x.m.l ∧
  x.pre = x.pre ∧ x.legs = x.legs) ∧ inv (stepS x.m x.d (State.mk x_19 x_20 x_21 x_22) (x.legs.getD x_18.toNat FK.leg.zero)).snd (wrap (x_18 + (1 : Int))) (stepS x.m x.d (State.mk x_19 x_20 x_21 x_22) (x.legs.getD x_18.toNat
  FK.leg.zero)).fst.now (stepS x.m x.d (State.mk x_19 x_20 x_21 x_22) (x.legs.getD x_18.toNat FK.leg.zero)).fst.pos (stepS x.m x.d (State.mk x_19 x_20 x_21 x_22) (x.legs.getD x_18.toNat FK.leg.zero)).fst.load (stepS x.m x.d (State.mk x_19
  x_20 x_21 x_22) (x.legs.getD x_18.toNat FK.leg.zero)).fst.way ∧ μ (stepS x.m x.d (State.mk x_19 x_20 x_21 x_22) (x.legs.getD x_18.toNat FK.leg.zero)).snd (wrap (x_18 + (1 : Int))) (stepS x.m x.d (State.mk x_19 x_20 x_21 x_22) (x.legs.getD
  x_18.toNat FK.leg.zero)).fst.now (stepS x.m x.d (State.mk x_19 x_20 x_21 x_22) (x.legs.getD x_18.toNat FK.leg.zero)).fst.pos (stepS x.m x.d (State.mk x_19 x_20 x_21 x_22) (x.legs.getD x_18.toNat FK.leg.zero)).fst.load (stepS x.m x.d
  (State.mk x_19 x_20 x_21 x_22) (x.legs.getD x_18.toNat FK.leg.zero)).fst.way < μ x_17 x_18 x_19 x_20 x_21 x_22) ∧ (x_17 = false → ((0 : Int) ≤ (↑x.legs.length : Int) ∧ (↑x.legs.length : Int) < (↑x.pre.length : Int)) ∧ (↑x.legs.length :
  Int).toNat < x.pre.length ∧ (x_17 = true → wrap (x_22 - (x.pre.getD (↑x.legs.length : Int).toNat FK.state.zero).way) = (priceS x x_2 x_3).fst ∧ (!x.full) = (priceS x x_2 x_3).snd) ∧ (x_17 = !true → wrap (x_22 - (x.pre.getD (↑x.legs.length :
  Int).toNat FK.state.zero).way) = (priceS x x_2 x_3).fst ∧ false = (priceS x x_2 x_3).snd))) ∧ (decide (x_18 < (↑x.legs.length : Int)) = !true → ((0 : Int) ≤ (↑x.legs.length : Int) ∧ (↑x.legs.length : Int) < (↑x.pre.length : Int)) ∧
  (↑x.legs.length : Int).toNat < x.pre.length ∧ (x_17 = true → wrap (x_22 - (x.pre.getD (↑x.legs.length : Int).toNat FK.state.zero).way) = (priceS x x_2 x_3).fst ∧ (!x.full) = (priceS x x_2 x_3).snd) ∧ (x_17 = !true → wrap (x_22 - (x.pre.getD
  (↑x.legs.length : Int).toNat FK.state.zero).way) = (priceS x x_2 x_3).fst ∧ false = (priceS x x_2 x_3).snd))
theorem price_told (hc : CsOk Try.prog price_cs) (h : price_vc) : Told Try.prog 56 price_con := told (A := price_la) tabOk mixed hc Try.func56 (by kernel_rfl) (by kernel_rfl) h
def sbest_vc : Prop :=
  ∀ (x : SearchD), LenOk x.m.l.length ∧ LenOk x.legs.length ∧ LenOk x.pre.length → ∀ (x_2 x_3 : Int), BestPre x x_2 → ∃ (inv : Int → Bool → Int → Int → Int → Int → Int → Prop), ∃ (μ : Int → Bool → Int → Int → Int → Int → Int → Nat), (((x_3 =
  x_3 ∧ (0 : Int) = (0 : Int) ∧ false = false ∧ (↑x.legs.length : Int) = (↑x.legs.length : Int) ∧ x_2 = x_2) ∧ ((x.d.id = x.d.id ∧ x.d.room = x.d.room ∧ x.d.home = x.d.home ∧ x.d.lo = x.d.lo ∧ x.d.hi = x.d.hi ∧ x.d.retired = x.d.retired ∧
  x.pick.pl = x.pick.pl ∧ x.pick.lo = x.pick.lo ∧ x.pick.hi = x.pick.hi ∧ x.pick.sv = x.pick.sv ∧ x.pick.more = x.pick.more ∧ x.drop.pl = x.drop.pl ∧ x.drop.lo = x.drop.lo ∧ x.drop.hi = x.drop.hi ∧ x.drop.sv = x.drop.sv ∧ x.drop.more =
  x.drop.more ∧ x.full = x.full) ∧ x.m.n = x.m.n ∧ ((0 : Int) = (0 : Int) ∧ (0 : Int) = (0 : Int) ∧ (0 : Int) = (0 : Int) ∧ (0 : Int) = (0 : Int)) ∧ (0 : Int) = (0 : Int) ∧ (0 : Int) = (0 : Int) ∧ (0 : Int) = (0 : Int) ∧ (0 : Int) = (0 :
  Int)) ∧ x.m.l = x.m.l ∧ x.pre = x.pre ∧ x.legs = x.legs) ∧ inv (0 : Int) false x_2 (0 : Int) (0 : Int) (0 : Int) (0 : Int)) ∧ ∀ (x_5 : Int) (x_6 : Bool) (x_7 x_8 x_9 x_10 x_11 : Int), inv x_5 x_6 x_7 x_8 x_9 x_10 x_11 → (decide (x_7 ≤
  (↑x.legs.length : Int)) = true → ∃ (inv_1 : Int → Bool → Int → Int → Int → Int → Int → Prop), ∃ (μ_1 : Int → Bool → Int → Int → Int → Int → Int → Nat), (((x_3 = x_3 ∧ x_5 = x_5 ∧ x_6 = x_6 ∧ (↑x.legs.length : Int) = (↑x.legs.length : Int) ∧
  x_7 = x_7 ∧ x_7 = x_7) ∧ ((x.d.id = x.d.id ∧ x.d.room = x.d.room ∧ x.d.home = x.d.home ∧ x.d.lo = x.d.lo ∧ x.d.hi = x.d.hi ∧ x.d.retired = x.d.retired ∧ x.pick.pl = x.pick.pl ∧ x.pick.lo = x.pick.lo ∧ x.pick.hi = x.pick.hi ∧ x.pick.sv =
  x.pick.sv ∧ x.pick.more = x.pick.more ∧ x.drop.pl = x.drop.pl ∧ x.drop.lo = x.drop.lo ∧ x.drop.hi = x.drop.hi ∧ x.drop.sv = x.drop.sv ∧ x.drop.more = x.drop.more ∧ x.full = x.full) ∧ x.m.n = x.m.n ∧ ((0 : Int) = (0 : Int) ∧ (0 : Int) = (0 :
  Int) ∧ (0 : Int) = (0 : Int) ∧ (0 : Int) = (0 : Int)) ∧ x_8 = x_8 ∧ x_9 = x_9 ∧ x_10 = x_10 ∧ x_11 = x_11) ∧ x.m.l = x.m.l ∧ x.pre = x.pre ∧ x.legs = x.legs) ∧ inv_1 x_5 x_6 x_7 x_8 x_9 x_10 x_11) ∧ ∀ (x_14 : Int) (x_15 : Bool) (x_16 x_17
  x_18 x_19 x_20 : Int), inv_1 x_14 x_15 x_16 x_17 x_18 x_19 x_20 → (decide (x_16 ≤ (↑x.legs.length : Int)) = true → (decide (x_14 ≥ x_3) = true → (x_17 = (hspot (bestS x x_2 x_3)).driver ∧ x_18 = (hspot (bestS x x_2 x_3)).pick ∧ x_19 =
  (hspot (bestS x x_2 x_3)).drop ∧ x_20 = (hspot (bestS x x_2 x_3)).cost) ∧ x_14 = (bestS x x_2 x_3).steps ∧ x_15 = (bestS x x_2 x_3).found) ∧ (decide (x_14 ≥ x_3) = false → PricePre x x_7 x_16 ∧ ((priceS x x_7 x_16).snd = true → ((!x_15) =
  false → (decide ((priceS x x_7 x_16).fst < x_20) = true → ((x_3 = x_3 ∧ wrap (x_14 + (1 : Int)) = wrap (x_14 + (1 : Int)) ∧ true = true ∧ (↑x.legs.length : Int) = (↑x.legs.length : Int) ∧ x_7 = x_7 ∧ wrap (x_16 + (1 : Int)) = wrap (x_16 +
  (1 : Int))) ∧ ((x.d.id = x.d.id ∧ x.d.room = x.d.room ∧ x.d.home = x.d.home ∧ x.d.lo = x.d.lo ∧ x.d.hi = x.d.hi ∧ x.d.retired = x.d.retired ∧ x.pick.pl = x.pick.pl ∧ x.pick.lo = x.pick.lo ∧ x.pick.hi = x.pick.hi ∧ x.pick.sv = x.pick.sv ∧
  x.pick.more = x.pick.more ∧ x.drop.pl = x.drop.pl ∧ x.drop.lo = x.drop.lo ∧ x.drop.hi = x.drop.hi ∧ x.drop.sv = x.drop.sv ∧ x.drop.more = x.drop.more ∧ x.full = x.full) ∧ x.m.n = x.m.n ∧ ((0 : Int) = (0 : Int) ∧ (0 : Int) = (0 : Int) ∧ (0 :
  Int) = (0 : Int) ∧ (0 : Int) = (0 : Int)) ∧ x.d.id = x.d.id ∧ x_7 = x_7 ∧ x_16 = x_16 ∧ (priceS x x_7 x_16).fst = (priceS x x_7 x_16).fst) ∧ x.m.l = x.m.l ∧ x.pre = x.pre ∧ x.legs = x.legs) ∧ inv_1 (wrap (x_14 + (1 : Int))) true (wrap (x_16
  + (1 : Int))) x.d.id x_7 x_16 (priceS x x_7 x_16).fst ∧ μ_1 (wrap (x_14 + (1 : Int))) true (wrap (x_16 + (1 : Int))) x.d.id x_7 x_16 (priceS x x_7 x_16).fst < μ_1 x_14 x_15 x_16 x_17 x_18 x_19 x_20) ∧ (decide ((priceS x x_7 x_16).fst <
  x_20) = false → ((x_3 = x_3 ∧ wrap (x_14 + (1 : Int)) = wrap (x_14 + (1 : Int)) ∧ x_15 = x_15 ∧ (↑x.legs.length : Int) = (↑x.legs.length : Int) ∧ x_7 = x_7 ∧ wrap (x_16 + (1 : Int)) = wrap (x_16 + (1 : Int))) ∧ ((x.d.id = x.d.id ∧ x.d.room
  = x.d.room ∧ x.d.home = x.d.home ∧ x.d.lo = x.d.lo ∧ x.d.hi = x.d.hi ∧ x.d.retired = x.d.retired ∧ x.pick.pl = x.pick.pl ∧ x.pick.lo = x.pick.lo ∧ x.pick.hi = x.pick.hi ∧ x.pick.sv = x.pick.sv ∧ x.pick.more = x.pick.more ∧ x.drop.pl =
  x.drop.pl ∧ x.drop.lo = x.drop.lo ∧ x.drop.hi = x.drop.hi ∧ x.drop.sv = x.drop.sv ∧ x.drop.more = x.drop.more ∧ x.full = x.full) ∧ x.m.n = x.m.n ∧ ((0 : Int) = (0 : Int) ∧ (0 : Int) = (0 : Int) ∧ (0 : Int) = (0 : Int) ∧ (0 : Int) = (0 :
  Int)) ∧ x_17 = x_17 ∧ x_18 = x_18 ∧ x_19 = x_19 ∧ x_20 = x_20) ∧ x.m.l = x.m.l ∧ x.pre = x.pre ∧ x.legs = x.legs) ∧ inv_1 (wrap (x_14 + (1 : Int))) x_15 (wrap (x_16 + (1 : Int))) x_17 x_18 x_19 x_20 ∧ μ_1 (wrap (x_14 + (1 : Int))) x_15
  (wrap (x_16 + (1 : Int))) x_17 x_18 x_19 x_20 < μ_1 x_14 x_15 x_16 x_17 x_18 x_19 x_20)) ∧ ((!x_15) = !false → ((x_3 = x_3 ∧ wrap (x_14 + (1 : Int)) = wrap (x_14 + (1 : Int)) ∧ true = true ∧ (↑x.legs.length : Int) = (↑x.legs.length : Int) ∧
  x_7 = x_7 ∧ wrap (x_16 + (1 : Int)) = wrap (x_16 + (1 : Int))) ∧ ((x.d.id = x.d.id ∧ x.d.room = x.d.room ∧ x.d.home = x.d.home ∧ x.d.lo = x.d.lo ∧ x.d.hi = x.d.hi ∧ x.d.retired = x.d.retired ∧ x.pick.pl = x.pick.pl ∧ x.pick.lo = x.pick.lo ∧
  x.pick.hi = x.pick.hi ∧ x.pick.sv = x.pick.sv ∧ x.pick.more = x.pick.more ∧ x.drop.pl = x.drop.pl ∧ x.drop.lo = x.drop.lo ∧ x.drop.hi = x.drop.hi ∧ x.drop.sv = x.drop.sv ∧ x.drop.more = x.drop.more ∧ x.full = x.full) ∧ x.m.n = x.m.n ∧ ((0 :
  Int) = (0 : Int) ∧ (0 : Int) = (0 : Int) ∧ (0 : Int) = (0 : Int) ∧ (0 : Int) = (0 : Int)) ∧ x.d.id = x.d.id ∧ x_7 = x_7 ∧ x_16 = x_16 ∧ (priceS x x_7 x_16).fst = (priceS x x_7 x_16).fst) ∧ x.m.l = x.m.l ∧ x.pre = x.pre ∧ x.legs = x.legs) ∧
  inv_1 (wrap (x_14 + (1 : Int))) true (wrap (x_16 + (1 : Int))) x.d.id x_7 x_16 (priceS x x_7 x_16).fst ∧ μ_1 (wrap (x_14 + (1 : Int))) true (wrap (x_16 + (1 : Int))) x.d.id x_7 x_16 (priceS x x_7 x_16).fst < μ_1 x_14 x_15 x_16 x_17 x_18
  x_19 x_20)) ∧ ((priceS x x_7 x_16).snd = !true → ((x_3 = x_3 ∧ wrap (x_14 + (1 : Int)) = wrap (x_14 + (1 : Int)) ∧ x_15 = x_15 ∧ (↑x.legs.length : Int) = (↑x.legs.length : Int) ∧ x_7 = x_7 ∧ wrap (x_16 + (1 : Int)) = wrap (x_16 + (1 :
  Int))) ∧ ((x.d.id = x.d.id ∧ x.d.room = x.d.room ∧ x.d.home = x.d.home ∧ x.d.lo = x.d.lo ∧ x.d.hi = x.d.hi ∧ x.d.retired = x.d.retired ∧ x.pick.pl = x.pick.pl ∧ x.pick.lo = x.pick.lo ∧ x.pick.hi = x.pick.hi ∧ x.pick.sv = x.pick.sv ∧
  x.pick.more = x.pick.more ∧ x.drop.pl = x.drop.pl ∧ x.drop.lo = x.drop.lo ∧ x.drop.hi = x.drop.hi ∧ x.drop.sv = x.drop.sv ∧ x.drop.more = x.drop.more ∧ x.full = x.full) ∧ x.m.n = x.m.n ∧ ((0 : Int) = (0 : Int) ∧ (0 : Int) = (0 : Int) ∧ (0 :
  Int) = (0 : Int) ∧ (0 : Int) = (0 : Int)) ∧ x_17 = x_17 ∧ x_18 = x_18 ∧ x_19 = x_19 ∧ x_20 = x_20) ∧ x.m.l = x.m.l ∧ x.pre = x.pre ∧ x.legs = x.legs) ∧ inv_1 (wrap (x_14 + (1 : Int))) x_15 (wrap (x_16 + (1 : Int))) x_17 x_18 x_19 x_20 ∧ μ_1
  (wrap (x_14 + (1 : Int))) x_15 (wrap (x_16 + (1 : Int))) x_17 x_18 x_19 x_20 < μ_1 x_14 x_15 x_16 x_17 x_18 x_19 x_20))) ∧ (decide (x_16 ≤ (↑x.legs.length : Int)) = false → ((x_3 = x_3 ∧ x_14 = x_14 ∧ x_15 = x_15 ∧ (↑x.legs.length : Int) =
  (↑x.legs.length : Int) ∧ wrap (x_7 + (1 : Int)) = wrap (x_7 + (1 : Int))) ∧ ((x.d.id = x.d.id ∧ x.d.room = x.d.room ∧ x.d.home = x.d.home ∧ x.d.lo = x.d.lo ∧ x.d.hi = x.d.hi ∧ x.d.retired = x.d.retired ∧ x.pick.pl = x.pick.pl ∧ x.pick.lo =
  x.pick.lo ∧ x.pick.hi = x.pick.hi ∧ x.pick.sv = x.pick.sv ∧ x.pick.more = x.pick.more ∧ x.drop.pl = x.drop.pl ∧ x.drop.lo = x.drop.lo ∧ x.drop.hi = x.drop.hi ∧ x.drop.sv = x.drop.sv ∧ x.drop.more = x.drop.more ∧ x.full = x.full) ∧ x.m.n =
  x.m.n ∧ ((0 : Int) = (0 : Int) ∧ (0 : Int) = (0 : Int) ∧ (0 : Int) = (0 : Int) ∧ (0 : Int) = (0 : Int)) ∧ x_17 = x_17 ∧ x_18 = x_18 ∧ x_19 = x_19 ∧ x_20 = x_20) ∧ x.m.l = x.m.l ∧ x.pre = x.pre ∧ x.legs = x.legs) ∧ inv x_14 x_15 (wrap (x_7 +
  (1 : Int))) x_17 x_18 x_19 x_20 ∧ μ x_14 x_15 (wrap (x_7 + (1 : Int))) x_17 x_18 x_19 x_20 < μ x_5 x_6 x_7 x_8 x_9 x_10 x_11)) ∧ (decide (x_7 ≤ (↑x.legs.length : Int)) = false → (x_8 = (hspot (bestS x x_2 x_3)).driver ∧ x_9 = (hspot (bestS
  x x_2 x_3)).pick ∧ x_10 = (hspot (bestS x x_2 x_3)).drop ∧ x_11 = (hspot (bestS x x_2 x_3)).cost) ∧ x_5 = (bestS x x_2 x_3).steps ∧ x_6 = (bestS x x_2 x_3).found)
theorem sbest_told (hc : CsOk Try.prog sbest_cs) (h : sbest_vc) : Told Try.prog 32 sbest_con := told (A := sbest_la) tabOk mixed hc Try.func32 (by kernel_rfl) (by kernel_rfl) h
def made_vc : Prop :=
  ∀ (x : MapD), LenOk x.l.length → ∀ (x_2 : Driver) (x_3 : List Order), LenOk x_3.length → ∀ (x_5 : List Stop), LenOk x_5.length → ∀ (x_7 : Order), MapOk x ∧ x_5.length ≤ (1000 : Nat) → (True ∧ [State.mk x_2.lo x_2.home (0 : Int) (0 :
  Int)].length * ((8 : Nat) * (4 : Nat)) ≤ (140737488355328 : Nat)) ∧ ∃ (inv : Int → List Leg → List State → Int → Int → Int → Int → Prop), ∃ (μ : Int → List Leg → List State → Int → Int → Int → Int → Nat), ((((↑x_5.length : Int) =
  (↑x_5.length : Int) ∧ (0 : Int) = (0 : Int)) ∧ (x.n = x.n ∧ (x_2.id = x_2.id ∧ x_2.room = x_2.room ∧ x_2.home = x_2.home ∧ x_2.lo = x_2.lo ∧ x_2.hi = x_2.hi ∧ x_2.retired = x_2.retired ∧ (legO x_7 false).pl = (legO x_7 false).pl ∧ (legO x_7
  false).lo = (legO x_7 false).lo ∧ (legO x_7 false).hi = (legO x_7 false).hi ∧ (legO x_7 false).sv = (legO x_7 false).sv ∧ (legO x_7 false).more = (legO x_7 false).more ∧ (legO x_7 true).pl = (legO x_7 true).pl ∧ (legO x_7 true).lo = (legO
  x_7 true).lo ∧ (legO x_7 true).hi = (legO x_7 true).hi ∧ (legO x_7 true).sv = (legO x_7 true).sv ∧ (legO x_7 true).more = (legO x_7 true).more ∧ decide ((↑x_3.length : Int) ≥ (40 : Int)) = decide ((↑x_3.length : Int) ≥ (40 : Int))) ∧ x_2.lo
  = x_2.lo ∧ x_2.home = x_2.home ∧ (0 : Int) = (0 : Int) ∧ (0 : Int) = (0 : Int)) ∧ [State.mk x_2.lo x_2.home (0 : Int) (0 : Int)] = [State.mk x_2.lo x_2.home (0 : Int) (0 : Int)] ∧ nilOf Leg = nilOf Leg ∧ x.l = x.l ∧ x_5 = x_5 ∧ x_3 = x_3) ∧
  inv (0 : Int) [] [State.mk x_2.lo x_2.home (0 : Int) (0 : Int)] x_2.lo x_2.home (0 : Int) (0 : Int)) ∧ ∀ (x_9 : Int) (x_10 : List Leg) (x_11 : List State) (x_12 x_13 x_14 x_15 : Int), inv x_9 x_10 x_11 x_12 x_13 x_14 x_15 → (decide (x_9 <
  (↑x_5.length : Int)) = true → ((0 : Int) ≤ x_9 ∧ x_9 < (↑x_5.length : Int)) ∧ x_9.toNat < x_5.length ∧ MapOk x ∧ (True ∧ (x_10.length + [legO (fo x_3 (x_5.getD x_9.toNat FK.stop.zero).order) (x_5.getD x_9.toNat FK.stop.zero).drop].length) *
  ((8 : Nat) * (5 : Nat)) ≤ (140737488355328 : Nat)) ∧ (True ∧ (x_11.length + [(stepS x x_2 (State.mk x_12 x_13 x_14 x_15) (legO (fo x_3 (x_5.getD x_9.toNat FK.stop.zero).order) (x_5.getD x_9.toNat FK.stop.zero).drop)).fst].length) * ((8 :
  Nat) * (4 : Nat)) ≤ (140737488355328 : Nat)) ∧ (((↑x_5.length : Int) = (↑x_5.length : Int) ∧ wrap (x_9 + (1 : Int)) = wrap (x_9 + (1 : Int))) ∧ (x.n = x.n ∧ (x_2.id = x_2.id ∧ x_2.room = x_2.room ∧ x_2.home = x_2.home ∧ x_2.lo = x_2.lo ∧
  x_2.hi = x_2.hi ∧ x_2.retired = x_2.retired ∧ (legO x_7 false).pl = (legO x_7 false).pl ∧ (legO x_7 false).lo = (legO x_7 false).lo ∧ (legO x_7 false).hi = (legO x_7 false).hi ∧ (legO x_7 false).sv = (legO x_7 false).sv ∧ (legO x_7
  false).more = (legO x_7 false).more ∧ (legO x_7 true).pl = (legO x_7 true).pl ∧ (legO x_7 true).lo = (legO x_7 true).lo ∧ (legO x_7 true).hi = (legO x_7 true).hi ∧ (legO x_7 true).sv = (legO x_7 true).sv ∧ (legO x_7 true).more = (legO x_7
  true).more ∧ decide ((↑x_3.length : Int) ≥ (40 : Int)) = decide ((↑x_3.length : Int) ≥ (40 : Int))) ∧ (stepS x x_2 (State.mk x_12 x_13 x_14 x_15) (legO (fo x_3 (x_5.getD x_9.toNat FK.stop.zero).order) (x_5.getD x_9.toNat
  FK.stop.zero).drop)).fst.now = (stepS x x_2 (State.mk x_12 x_13 x_14 x_15) (legO (fo x_3 (x_5.getD x_9.toNat FK.stop.zero).order) (x_5.getD x_9.toNat FK.stop.zero).drop)).fst.now ∧ (stepS x x_2 (State.mk x_12 x_13 x_14 x_15) (legO (fo x_3
  (x_5.getD x_9.toNat FK.stop.zero).order) (x_5.getD x_9.toNat FK.stop.zero).drop)).fst.pos = (stepS x x_2 (State.mk x_12 x_13 x_14 x_15) (legO (fo x_3 (x_5.getD x_9.toNat FK.stop.zero).order) (x_5.getD x_9.toNat FK.stop.zero).drop)).fst.pos
  ∧ (stepS x x_2 (State.mk x_12 x_13 x_14 x_15) (legO (fo x_3 (x_5.getD x_9.toNat FK.stop.zero).order) (x_5.getD x_9.toNat FK.stop.zero).drop)).fst.load = (stepS x x_2 (State.mk x_12 x_13 x_14 x_15) (legO (fo x_3 (x_5.getD x_9.toNat
  FK.stop.zero).order) (x_5.getD x_9.toNat FK.stop.zero).drop)).fst.load ∧ (stepS x x_2 (State.mk x_12 x_13 x_14 x_15) (legO (fo x_3 (x_5.getD x_9.toNat FK.stop.zero).order) (x_5.getD x_9.toNat FK.stop.zero).drop)).fst.way = (stepS x x_2
  (State.mk x_12 x_13 x_14 x_15) (legO (fo x_3 (x_5.getD x_9.toNat FK.stop.zero).order) (x_5.getD x_9.toNat FK.stop.zero).drop)).fst.way) ∧ x_11 ++ [(stepS x x_2 (State.mk x_12 x_13 x_14 x_15) (legO (fo x_3 (x_5.getD x_9.toNat
  FK.stop.zero).order) (x_5.getD x_9.toNat FK.stop.zero).drop)).fst] = x_11 ++ [(stepS x x_2 (State.mk x_12 x_13 x_14 x_15) (legO (fo x_3 (x_5.getD x_9.toNat FK.stop.zero).order) (x_5.getD x_9.toNat FK.stop.zero).drop)).fst] ∧ x_10 ++ [legO
  (fo x_3 (x_5.getD x_9.toNat FK.stop.zero).order) (x_5.getD x_9.toNat FK.stop.zero).drop] = x_10 ++ [legO (fo x_3 (x_5.getD x_9.toNat FK.stop.zero).order) (x_5.getD x_9.toNat FK.stop.zero).drop] ∧ x.l = x.l ∧ x_5 = x_5 ∧ x_3 = x_3) ∧ inv
  (wrap (x_9 + (1 : Int))) (x_10 ++ [legO (fo x_3 (x_5.getD x_9.toNat FK.stop.zero).order) (x_5.getD x_9.toNat FK.stop.zero).drop]) (x_11 ++ [(stepS x x_2 (State.mk x_12 x_13 x_14 x_15) (legO (fo x_3 (x_5.getD x_9.toNat FK.stop.zero).order)
  (x_5.getD x_9.toNat FK.stop.zero).drop)).fst]) (stepS x x_2 (State.mk x_12 x_13 x_14 x_15) (legO (fo x_3 (x_5.getD x_9.toNat FK.stop.zero).order) (x_5.getD x_9.toNat FK.stop.zero).drop)).fst.now (stepS x x_2 (State.mk x_12 x_13 x_14 x_15)
  (legO (fo x_3 (x_5.getD x_9.toNat FK.stop.zero).order) (x_5.getD x_9.toNat FK.stop.zero).drop)).fst.pos (stepS x x_2 (State.mk x_12 x_13 x_14 x_15) (legO (fo x_3 (x_5.getD x_9.toNat FK.stop.zero).order) (x_5.getD x_9.toNat
  FK.stop.zero).drop)).fst.load (stepS x x_2 (State.mk x_12 x_13 x_14 x_15) (legO (fo x_3 (x_5.getD x_9.toNat FK.stop.zero).order) (x_5.getD x_9.toNat FK.stop.zero).drop)).fst.way ∧ μ (wrap (x_9 + (1 : Int))) (x_10 ++ [legO (fo x_3 (x_5.getD
  x_9.toNat FK.stop.zero).order) (x_5.getD x_9.toNat FK.stop.zero).drop]) (x_11 ++ [(stepS x x_2 (State.mk x_12 x_13 x_14 x_15) (legO (fo x_3 (x_5.getD x_9.toNat FK.stop.zero).order) (x_5.getD x_9.toNat FK.stop.zero).drop)).fst]) (stepS x x_2
  (State.mk x_12 x_13 x_14 x_15) (legO (fo x_3 (x_5.getD x_9.toNat FK.stop.zero).order) (x_5.getD x_9.toNat FK.stop.zero).drop)).fst.now (stepS x x_2 (State.mk x_12 x_13 x_14 x_15) (legO (fo x_3 (x_5.getD x_9.toNat FK.stop.zero).order)
  (x_5.getD x_9.toNat FK.stop.zero).drop)).fst.pos (stepS x x_2 (State.mk x_12 x_13 x_14 x_15) (legO (fo x_3 (x_5.getD x_9.toNat FK.stop.zero).order) (x_5.getD x_9.toNat FK.stop.zero).drop)).fst.load (stepS x x_2 (State.mk x_12 x_13 x_14
  x_15) (legO (fo x_3 (x_5.getD x_9.toNat FK.stop.zero).order) (x_5.getD x_9.toNat FK.stop.zero).drop)).fst.way < μ x_9 x_10 x_11 x_12 x_13 x_14 x_15) ∧ (decide (x_9 < (↑x_5.length : Int)) = false → (x_2.id = x_2.id ∧ x_2.room = x_2.room ∧
  x_2.home = x_2.home ∧ x_2.lo = x_2.lo ∧ x_2.hi = x_2.hi ∧ x_2.retired = x_2.retired ∧ (legO x_7 false).pl = (legO x_7 false).pl ∧ (legO x_7 false).lo = (legO x_7 false).lo ∧ (legO x_7 false).hi = (legO x_7 false).hi ∧ (legO x_7 false).sv =
  (legO x_7 false).sv ∧ (legO x_7 false).more = (legO x_7 false).more ∧ (legO x_7 true).pl = (legO x_7 true).pl ∧ (legO x_7 true).lo = (legO x_7 true).lo ∧ (legO x_7 true).hi = (legO x_7 true).hi ∧ (legO x_7 true).sv = (legO x_7 true).sv ∧
  (legO x_7 true).more = (legO x_7 true).more ∧ decide ((↑x_3.length : Int) ≥ (40 : Int)) = (mkS x x_2 x_3 x_5 x_7).full) ∧ x_11 = (mkS x x_2 x_3 x_5 x_7).pre ∧ x_10 = (mkS x x_2 x_3 x_5 x_7).legs)
theorem made_told (hc : CsOk Try.prog made_cs) (h : made_vc) : Told Try.prog 31 made_con := told (A := made_la) tabOk mixed hc Try.func31 (by kernel_rfl) (by kernel_rfl) h
def asked_vc : Prop :=
  (∀ (x : List Order), LenOk x.length → ∀ (x_2 : Order) (x_3 : Int), (∀ (x : MapD), none = some x → MapOk x) → (∀ (x : MapD), none = some x → MapOk x) ∧ (decide (orderE none x_2 = (0 : Int)) = true → ((!(findO x x_2.id).isSome) = true →
  (decide (x_3 ≥ (0 : Int)) = true → decide (x_3 ≤ (100000 : Int)) = askedP none x x_2 x_3) ∧ (decide (x_3 ≥ (0 : Int)) = !true → false = askedP none x x_2 x_3)) ∧ ((!(findO x x_2.id).isSome) = !true → false = askedP none x x_2 x_3)) ∧
  (decide (orderE none x_2 = (0 : Int)) = !true → false = askedP none x x_2 x_3)) ∧ ∀ (x : MapD), LenOk x.l.length → ∀ (x_2 : List Order), LenOk x_2.length → ∀ (x_4 : Order) (x_5 : Int), (∀ (x_6 : MapD), some x = some x_6 → MapOk x_6) → (∀
  (x_7 : MapD), some x = some x_7 → MapOk x_7) ∧ (decide (orderE (some x) x_4 = (0 : Int)) = true → ((!(findO x_2 x_4.id).isSome) = true → (decide (x_5 ≥ (0 : Int)) = true → decide (x_5 ≤ (100000 : Int)) = askedP (some x) x_2 x_4 x_5) ∧
  (decide (x_5 ≥ (0 : Int)) = !true → false = askedP (some x) x_2 x_4 x_5)) ∧ ((!(findO x_2 x_4.id).isSome) = !true → false = askedP (some x) x_2 x_4 x_5)) ∧ (decide (orderE (some x) x_4 = (0 : Int)) = !true → false = askedP (some x) x_2 x_4
  x_5)
theorem asked_told (hc : CsOk Try.prog asked_cs) (h : asked_vc) : Told Try.prog 29 asked_con := told (A := asked_la) tabOk mixed hc Try.func29 (by kernel_rfl) (by kernel_rfl) h
def ibest_vc : Prop :=
  (∀ (x : Driver) (x_1 : List Order), LenOk x_1.length → ∀ (x_3 : Route), LenOk x_3.stops.length → ∀ (x_5 : Order) (x_6 : Int), (∀ (x : MapD), none = some x → MapOk x) → (∀ (x : MapD), none = some x → MapOk x) ∧ ((!askedP none x_1 x_5 x_6) =
  false → ((!decide (x_3.driver = x.id)) = false → (decide (x_3.served < (0 : Int)) = false → (decide (x_3.served > (↑x_3.stops.length : Int)) = true → ((0 : Int) = (hspot (bestP none x x_1 x_3 x_5 x_6).fst).driver ∧ (0 : Int) = (hspot (bestP
  none x x_1 x_3 x_5 x_6).fst).pick ∧ (0 : Int) = (hspot (bestP none x x_1 x_3 x_5 x_6).fst).drop ∧ (0 : Int) = (hspot (bestP none x x_1 x_3 x_5 x_6).fst).cost) ∧ (0 : Int) = (bestP none x x_1 x_3 x_5 x_6).fst.steps ∧ (1 : Int) = (bestP none
  x x_1 x_3 x_5 x_6).snd) ∧ (decide (x_3.served > (↑x_3.stops.length : Int)) = false → (∀ (x : MapD), none = some x → MapOk x) ∧ ((!good (fauR (drive none x x_1 x_3.stops))) = true → ((0 : Int) = (hspot (bestP none x x_1 x_3 x_5
  x_6).fst).driver ∧ (0 : Int) = (hspot (bestP none x x_1 x_3 x_5 x_6).fst).pick ∧ (0 : Int) = (hspot (bestP none x x_1 x_3 x_5 x_6).fst).drop ∧ (0 : Int) = (hspot (bestP none x x_1 x_3 x_5 x_6).fst).cost) ∧ (0 : Int) = (bestP none x x_1 x_3
  x_5 x_6).fst.steps ∧ (1 : Int) = (bestP none x x_1 x_3 x_5 x_6).snd) ∧ ((!good (fauR (drive none x x_1 x_3.stops))) = false → (x.retired = true → ((0 : Int) = (hspot (bestP none x x_1 x_3 x_5 x_6).fst).driver ∧ (0 : Int) = (hspot (bestP
  none x x_1 x_3 x_5 x_6).fst).pick ∧ (0 : Int) = (hspot (bestP none x x_1 x_3 x_5 x_6).fst).drop ∧ (0 : Int) = (hspot (bestP none x x_1 x_3 x_5 x_6).fst).cost) ∧ (0 : Int) = (bestP none x x_1 x_3 x_5 x_6).fst.steps ∧ (23 : Int) = (bestP none
  x x_1 x_3 x_5 x_6).snd) ∧ (x.retired = false → (decide ((↑x_3.stops.length : Int) > (78 : Int)) = true → ((0 : Int) = (hspot (bestP none x x_1 x_3 x_5 x_6).fst).driver ∧ (0 : Int) = (hspot (bestP none x x_1 x_3 x_5 x_6).fst).pick ∧ (0 :
  Int) = (hspot (bestP none x x_1 x_3 x_5 x_6).fst).drop ∧ (0 : Int) = (hspot (bestP none x x_1 x_3 x_5 x_6).fst).cost) ∧ (0 : Int) = (bestP none x x_1 x_3 x_5 x_6).fst.steps ∧ (10 : Int) = (bestP none x x_1 x_3 x_5 x_6).snd) ∧ (decide
  ((↑x_3.stops.length : Int) > (78 : Int)) = false → Bad (nat_lit 9) Oper (Oper.mk (some (nat_lit 75)) (Op.call (Call.mk (Callee.value (Operand.func (nat_lit 31))) (Array.mk [Operand.tmp (nat_lit 69), Operand.tmp (nat_lit 70), Operand.tmp
  (nat_lit 71), Operand.tmp (nat_lit 73), Operand.tmp (nat_lit 74)]) (Array.mk [nat_lit 35, nat_lit 44, nat_lit 24, nat_lit 39, nat_lit 34]))) (nat_lit 87) "insert.go:120" (Array.mk [Edge.mk (nat_lit 0) Ground.data, Edge.mk (nat_lit 1)
  Ground.data, Edge.mk (nat_lit 2) Ground.data, Edge.mk (nat_lit 4) Ground.data, Edge.mk (nat_lit 5) Ground.data]) none)))))) ∧ (decide (x_3.served < (0 : Int)) = !false → ((0 : Int) = (hspot (bestP none x x_1 x_3 x_5 x_6).fst).driver ∧ (0 :
  Int) = (hspot (bestP none x x_1 x_3 x_5 x_6).fst).pick ∧ (0 : Int) = (hspot (bestP none x x_1 x_3 x_5 x_6).fst).drop ∧ (0 : Int) = (hspot (bestP none x x_1 x_3 x_5 x_6).fst).cost) ∧ (0 : Int) = (bestP none x x_1 x_3 x_5 x_6).fst.steps ∧ (1
  : Int) = (bestP none x x_1 x_3 x_5 x_6).snd)) ∧ ((!decide (x_3.driver = x.id)) = !false → ((0 : Int) = (hspot (bestP none x x_1 x_3 x_5 x_6).fst).driver ∧ (0 : Int) = (hspot (bestP none x x_1 x_3 x_5 x_6).fst).pick ∧ (0 : Int) = (hspot
  (bestP none x x_1 x_3 x_5 x_6).fst).drop ∧ (0 : Int) = (hspot (bestP none x x_1 x_3 x_5 x_6).fst).cost) ∧ (0 : Int) = (bestP none x x_1 x_3 x_5 x_6).fst.steps ∧ (1 : Int) = (bestP none x x_1 x_3 x_5 x_6).snd)) ∧ ((!askedP none x_1 x_5 x_6)
  = !false → ((0 : Int) = (hspot (bestP none x x_1 x_3 x_5 x_6).fst).driver ∧ (0 : Int) = (hspot (bestP none x x_1 x_3 x_5 x_6).fst).pick ∧ (0 : Int) = (hspot (bestP none x x_1 x_3 x_5 x_6).fst).drop ∧ (0 : Int) = (hspot (bestP none x x_1 x_3
  x_5 x_6).fst).cost) ∧ (0 : Int) = (bestP none x x_1 x_3 x_5 x_6).fst.steps ∧ (1 : Int) = (bestP none x x_1 x_3 x_5 x_6).snd)) ∧ ∀ (x : MapD), LenOk x.l.length → ∀ (x_2 : Driver) (x_3 : List Order), LenOk x_3.length → ∀ (x_5 : Route), LenOk
  x_5.stops.length → ∀ (x_7 : Order) (x_8 : Int), (∀ (x_9 : MapD), some x = some x_9 → MapOk x_9) → (∀ (x_10 : MapD), some x = some x_10 → MapOk x_10) ∧ ((!askedP (some x) x_3 x_7 x_8) = false → ((!decide (x_5.driver = x_2.id)) = false →
  (decide (x_5.served < (0 : Int)) = false → (decide (x_5.served > (↑x_5.stops.length : Int)) = true → ((0 : Int) = (hspot (bestP (some x) x_2 x_3 x_5 x_7 x_8).fst).driver ∧ (0 : Int) = (hspot (bestP (some x) x_2 x_3 x_5 x_7 x_8).fst).pick ∧
  (0 : Int) = (hspot (bestP (some x) x_2 x_3 x_5 x_7 x_8).fst).drop ∧ (0 : Int) = (hspot (bestP (some x) x_2 x_3 x_5 x_7 x_8).fst).cost) ∧ (0 : Int) = (bestP (some x) x_2 x_3 x_5 x_7 x_8).fst.steps ∧ (1 : Int) = (bestP (some x) x_2 x_3 x_5
  x_7 x_8).snd) ∧ (decide (x_5.served > (↑x_5.stops.length : Int)) = false → (∀ (x_14 : MapD), some x = some x_14 → MapOk x_14) ∧ ((!good (fauR (drive (some x) x_2 x_3 x_5.stops))) = true → ((0 : Int) = (hspot (bestP (some x) x_2 x_3 x_5 x_7
  x_8).fst).driver ∧ (0 : Int) = (hspot (bestP (some x) x_2 x_3 x_5 x_7 x_8).fst).pick ∧ (0 : Int) = (hspot (bestP (some x) x_2 x_3 x_5 x_7 x_8).fst).drop ∧ (0 : Int) = (hspot (bestP (some x) x_2 x_3 x_5 x_7 x_8).fst).cost) ∧ (0 : Int) =
  (bestP (some x) x_2 x_3 x_5 x_7 x_8).fst.steps ∧ (1 : Int) = (bestP (some x) x_2 x_3 x_5 x_7 x_8).snd) ∧ ((!good (fauR (drive (some x) x_2 x_3 x_5.stops))) = false → (x_2.retired = true → ((0 : Int) = (hspot (bestP (some x) x_2 x_3 x_5 x_7
  x_8).fst).driver ∧ (0 : Int) = (hspot (bestP (some x) x_2 x_3 x_5 x_7 x_8).fst).pick ∧ (0 : Int) = (hspot (bestP (some x) x_2 x_3 x_5 x_7 x_8).fst).drop ∧ (0 : Int) = (hspot (bestP (some x) x_2 x_3 x_5 x_7 x_8).fst).cost) ∧ (0 : Int) =
  (bestP (some x) x_2 x_3 x_5 x_7 x_8).fst.steps ∧ (23 : Int) = (bestP (some x) x_2 x_3 x_5 x_7 x_8).snd) ∧ (x_2.retired = false → (decide ((↑x_5.stops.length : Int) > (78 : Int)) = true → ((0 : Int) = (hspot (bestP (some x) x_2 x_3 x_5 x_7
  x_8).fst).driver ∧ (0 : Int) = (hspot (bestP (some x) x_2 x_3 x_5 x_7 x_8).fst).pick ∧ (0 : Int) = (hspot (bestP (some x) x_2 x_3 x_5 x_7 x_8).fst).drop ∧ (0 : Int) = (hspot (bestP (some x) x_2 x_3 x_5 x_7 x_8).fst).cost) ∧ (0 : Int) =
  (bestP (some x) x_2 x_3 x_5 x_7 x_8).fst.steps ∧ (10 : Int) = (bestP (some x) x_2 x_3 x_5 x_7 x_8).snd) ∧ (decide ((↑x_5.stops.length : Int) > (78 : Int)) = false → (MapOk x ∧ x_5.stops.length ≤ (1000 : Nat)) ∧ BestPre (SearchD.mk x x_2
  (mkS x x_2 x_3 x_5.stops x_7).legs (mkS x x_2 x_3 x_5.stops x_7).pre (legO x_7 false) (legO x_7 true) (mkS x x_2 x_3 x_5.stops x_7).full) x_5.served ∧ ((!(bestS (SearchD.mk x x_2 (mkS x x_2 x_3 x_5.stops x_7).legs (mkS x x_2 x_3 x_5.stops
  x_7).pre (legO x_7 false) (legO x_7 true) (mkS x x_2 x_3 x_5.stops x_7).full) x_5.served x_8).found) = true → ((0 : Int) = (hspot (bestP (some x) x_2 x_3 x_5 x_7 x_8).fst).driver ∧ (0 : Int) = (hspot (bestP (some x) x_2 x_3 x_5 x_7
  x_8).fst).pick ∧ (0 : Int) = (hspot (bestP (some x) x_2 x_3 x_5 x_7 x_8).fst).drop ∧ (0 : Int) = (hspot (bestP (some x) x_2 x_3 x_5 x_7 x_8).fst).cost) ∧ (bestS (SearchD.mk x x_2 (mkS x x_2 x_3 x_5.stops x_7).legs (mkS x x_2 x_3 x_5.stops
  x_7).pre (legO x_7 false) (legO x_7 true) (mkS x x_2 x_3 x_5.stops x_7).full) x_5.served x_8).steps = (bestP (some x) x_2 x_3 x_5 x_7 x_8).fst.steps ∧ (20 : Int) = (bestP (some x) x_2 x_3 x_5 x_7 x_8).snd) ∧ ((!(bestS (SearchD.mk x x_2 (mkS
  x x_2 x_3 x_5.stops x_7).legs (mkS x x_2 x_3 x_5.stops x_7).pre (legO x_7 false) (legO x_7 true) (mkS x x_2 x_3 x_5.stops x_7).full) x_5.served x_8).found) = false → ((hspot (bestS (SearchD.mk x x_2 (mkS x x_2 x_3 x_5.stops x_7).legs (mkS x
  x_2 x_3 x_5.stops x_7).pre (legO x_7 false) (legO x_7 true) (mkS x x_2 x_3 x_5.stops x_7).full) x_5.served x_8)).driver = (hspot (bestP (some x) x_2 x_3 x_5 x_7 x_8).fst).driver ∧ (hspot (bestS (SearchD.mk x x_2 (mkS x x_2 x_3 x_5.stops
  x_7).legs (mkS x x_2 x_3 x_5.stops x_7).pre (legO x_7 false) (legO x_7 true) (mkS x x_2 x_3 x_5.stops x_7).full) x_5.served x_8)).pick = (hspot (bestP (some x) x_2 x_3 x_5 x_7 x_8).fst).pick ∧ (hspot (bestS (SearchD.mk x x_2 (mkS x x_2 x_3
  x_5.stops x_7).legs (mkS x x_2 x_3 x_5.stops x_7).pre (legO x_7 false) (legO x_7 true) (mkS x x_2 x_3 x_5.stops x_7).full) x_5.served x_8)).drop = (hspot (bestP (some x) x_2 x_3 x_5 x_7 x_8).fst).drop ∧ (hspot (bestS (SearchD.mk x x_2 (mkS
  x x_2 x_3 x_5.stops x_7).legs (mkS x x_2 x_3 x_5.stops x_7).pre (legO x_7 false) (legO x_7 true) (mkS x x_2 x_3 x_5.stops x_7).full) x_5.served x_8)).cost = (hspot (bestP (some x) x_2 x_3 x_5 x_7 x_8).fst).cost) ∧ (bestS (SearchD.mk x x_2
  (mkS x x_2 x_3 x_5.stops x_7).legs (mkS x x_2 x_3 x_5.stops x_7).pre (legO x_7 false) (legO x_7 true) (mkS x x_2 x_3 x_5.stops x_7).full) x_5.served x_8).steps = (bestP (some x) x_2 x_3 x_5 x_7 x_8).fst.steps ∧ (0 : Int) = (bestP (some x)
  x_2 x_3 x_5 x_7 x_8).snd)))))) ∧ (decide (x_5.served < (0 : Int)) = !false → ((0 : Int) = (hspot (bestP (some x) x_2 x_3 x_5 x_7 x_8).fst).driver ∧ (0 : Int) = (hspot (bestP (some x) x_2 x_3 x_5 x_7 x_8).fst).pick ∧ (0 : Int) = (hspot
  (bestP (some x) x_2 x_3 x_5 x_7 x_8).fst).drop ∧ (0 : Int) = (hspot (bestP (some x) x_2 x_3 x_5 x_7 x_8).fst).cost) ∧ (0 : Int) = (bestP (some x) x_2 x_3 x_5 x_7 x_8).fst.steps ∧ (1 : Int) = (bestP (some x) x_2 x_3 x_5 x_7 x_8).snd)) ∧
  ((!decide (x_5.driver = x_2.id)) = !false → ((0 : Int) = (hspot (bestP (some x) x_2 x_3 x_5 x_7 x_8).fst).driver ∧ (0 : Int) = (hspot (bestP (some x) x_2 x_3 x_5 x_7 x_8).fst).pick ∧ (0 : Int) = (hspot (bestP (some x) x_2 x_3 x_5 x_7
  x_8).fst).drop ∧ (0 : Int) = (hspot (bestP (some x) x_2 x_3 x_5 x_7 x_8).fst).cost) ∧ (0 : Int) = (bestP (some x) x_2 x_3 x_5 x_7 x_8).fst.steps ∧ (1 : Int) = (bestP (some x) x_2 x_3 x_5 x_7 x_8).snd)) ∧ ((!askedP (some x) x_3 x_7 x_8) =
  !false → ((0 : Int) = (hspot (bestP (some x) x_2 x_3 x_5 x_7 x_8).fst).driver ∧ (0 : Int) = (hspot (bestP (some x) x_2 x_3 x_5 x_7 x_8).fst).pick ∧ (0 : Int) = (hspot (bestP (some x) x_2 x_3 x_5 x_7 x_8).fst).drop ∧ (0 : Int) = (hspot
  (bestP (some x) x_2 x_3 x_5 x_7 x_8).fst).cost) ∧ (0 : Int) = (bestP (some x) x_2 x_3 x_5 x_7 x_8).fst.steps ∧ (1 : Int) = (bestP (some x) x_2 x_3 x_5 x_7 x_8).snd)
theorem ibest_told (hc : CsOk Try.prog ibest_cs) (h : ibest_vc) : Told Try.prog 13 ibest_con := told (A := ibest_la) tabOk mixed hc Try.func13 (by kernel_rfl) (by kernel_rfl) h
def look_vc : Prop :=
  (∀ (x : List Driver), LenOk x.length → ∀ (x_2 : List Order), LenOk x_2.length → ∀ (x_4 : List Route), (LenOk x_4.length ∧ ∀ (r : Route), List.Mem r x_4 → LenOk r.stops.length) → ∀ (x_6 : Order) (x_7 : Int), LookPre none x_4 x_7 → ∃ (inv :
  Int → Bool → Int → Int → Int → Int → Int → Prop), ∃ (μ : Int → Bool → Int → Int → Int → Int → Int → Nat), (((x_7 = x_7 ∧ (0 : Int) = (0 : Int) ∧ false = false ∧ (↑x_4.length : Int) = (↑x_4.length : Int) ∧ (0 : Int) = (0 : Int)) ∧ ((x_6.id =
  x_6.id ∧ x_6.size = x_6.size ∧ x_6.pp = x_6.pp ∧ x_6.pf = x_6.pf ∧ x_6.pt = x_6.pt ∧ x_6.ps = x_6.ps ∧ x_6.dp = x_6.dp ∧ x_6.df = x_6.df ∧ x_6.dt = x_6.dt ∧ x_6.ds = x_6.ds) ∧ ((0 : Int) = (0 : Int) ∧ (0 : Int) = (0 : Int) ∧ (0 : Int) = (0
  : Int) ∧ (0 : Int) = (0 : Int)) ∧ (0 : Int) = (0 : Int) ∧ (0 : Int) = (0 : Int) ∧ (0 : Int) = (0 : Int) ∧ (0 : Int) = (0 : Int)) ∧ x_4 = x_4 ∧ x_2 = x_2 ∧ x = x) ∧ inv (0 : Int) false (0 : Int) (0 : Int) (0 : Int) (0 : Int) (0 : Int)) ∧ ∀
  (x_9 : Int) (x_10 : Bool) (x_11 x_12 x_13 x_14 x_15 : Int), inv x_9 x_10 x_11 x_12 x_13 x_14 x_15 → (decide (x_11 < (↑x_4.length : Int)) = true → ((0 : Int) ≤ x_11 ∧ x_11 < (↑x_4.length : Int)) ∧ x_11.toNat < x_4.length ∧ (((findD (x_4.getD
  x_11.toNat (Route.mk (0 : Int) (0 : Int) [])).driver x).getD FK.driver.zero).retired = false → (decide ((↑(x_4.getD x_11.toNat (Route.mk (0 : Int) (0 : Int) [])).stops.length : Int) > (78 : Int)) = true → ((x_7 = x_7 ∧ x_9 = x_9 ∧ x_10 =
  x_10 ∧ (↑x_4.length : Int) = (↑x_4.length : Int) ∧ wrap (x_11 + (1 : Int)) = wrap (x_11 + (1 : Int))) ∧ ((x_6.id = x_6.id ∧ x_6.size = x_6.size ∧ x_6.pp = x_6.pp ∧ x_6.pf = x_6.pf ∧ x_6.pt = x_6.pt ∧ x_6.ps = x_6.ps ∧ x_6.dp = x_6.dp ∧
  x_6.df = x_6.df ∧ x_6.dt = x_6.dt ∧ x_6.ds = x_6.ds) ∧ ((0 : Int) = (0 : Int) ∧ (0 : Int) = (0 : Int) ∧ (0 : Int) = (0 : Int) ∧ (0 : Int) = (0 : Int)) ∧ x_12 = x_12 ∧ x_13 = x_13 ∧ x_14 = x_14 ∧ x_15 = x_15) ∧ x_4 = x_4 ∧ x_2 = x_2 ∧ x = x)
  ∧ inv x_9 x_10 (wrap (x_11 + (1 : Int))) x_12 x_13 x_14 x_15 ∧ μ x_9 x_10 (wrap (x_11 + (1 : Int))) x_12 x_13 x_14 x_15 < μ x_9 x_10 x_11 x_12 x_13 x_14 x_15) ∧ (decide ((↑(x_4.getD x_11.toNat (Route.mk (0 : Int) (0 : Int) [])).stops.length
  : Int) > (78 : Int)) = false → Bad (nat_lit 9) Oper (Oper.mk (some (nat_lit 53)) (Op.call (Call.mk (Callee.value (Operand.func (nat_lit 31))) (Array.mk [Operand.tmp (nat_lit 47), Operand.tmp (nat_lit 48), Operand.tmp (nat_lit 49),
  Operand.tmp (nat_lit 51), Operand.tmp (nat_lit 52)]) (Array.mk [nat_lit 35, nat_lit 44, nat_lit 24, nat_lit 39, nat_lit 34]))) (nat_lit 87) "insert.go:145" (Array.mk [Edge.mk (nat_lit 0) Ground.data, Edge.mk (nat_lit 1) Ground.data, Edge.mk
  (nat_lit 2) Ground.data, Edge.mk (nat_lit 4) Ground.data, Edge.mk (nat_lit 5) Ground.data]) none))) ∧ (((findD (x_4.getD x_11.toNat (Route.mk (0 : Int) (0 : Int) [])).driver x).getD FK.driver.zero).retired = !false → ((x_7 = x_7 ∧ x_9 = x_9
  ∧ x_10 = x_10 ∧ (↑x_4.length : Int) = (↑x_4.length : Int) ∧ wrap (x_11 + (1 : Int)) = wrap (x_11 + (1 : Int))) ∧ ((x_6.id = x_6.id ∧ x_6.size = x_6.size ∧ x_6.pp = x_6.pp ∧ x_6.pf = x_6.pf ∧ x_6.pt = x_6.pt ∧ x_6.ps = x_6.ps ∧ x_6.dp =
  x_6.dp ∧ x_6.df = x_6.df ∧ x_6.dt = x_6.dt ∧ x_6.ds = x_6.ds) ∧ ((0 : Int) = (0 : Int) ∧ (0 : Int) = (0 : Int) ∧ (0 : Int) = (0 : Int) ∧ (0 : Int) = (0 : Int)) ∧ x_12 = x_12 ∧ x_13 = x_13 ∧ x_14 = x_14 ∧ x_15 = x_15) ∧ x_4 = x_4 ∧ x_2 = x_2
  ∧ x = x) ∧ inv x_9 x_10 (wrap (x_11 + (1 : Int))) x_12 x_13 x_14 x_15 ∧ μ x_9 x_10 (wrap (x_11 + (1 : Int))) x_12 x_13 x_14 x_15 < μ x_9 x_10 x_11 x_12 x_13 x_14 x_15)) ∧ (decide (x_11 < (↑x_4.length : Int)) = false → ((!x_10) = true → ((0
  : Int) = (hspot (tellH (lookP none x x_2 x_4 x_6 x_7)).fst).driver ∧ (0 : Int) = (hspot (tellH (lookP none x x_2 x_4 x_6 x_7)).fst).pick ∧ (0 : Int) = (hspot (tellH (lookP none x x_2 x_4 x_6 x_7)).fst).drop ∧ (0 : Int) = (hspot (tellH
  (lookP none x x_2 x_4 x_6 x_7)).fst).cost) ∧ x_9 = (tellH (lookP none x x_2 x_4 x_6 x_7)).fst.steps ∧ (20 : Int) = (tellH (lookP none x x_2 x_4 x_6 x_7)).snd) ∧ ((!x_10) = false → (x_12 = (hspot (tellH (lookP none x x_2 x_4 x_6
  x_7)).fst).driver ∧ x_13 = (hspot (tellH (lookP none x x_2 x_4 x_6 x_7)).fst).pick ∧ x_14 = (hspot (tellH (lookP none x x_2 x_4 x_6 x_7)).fst).drop ∧ x_15 = (hspot (tellH (lookP none x x_2 x_4 x_6 x_7)).fst).cost) ∧ x_9 = (tellH (lookP none
  x x_2 x_4 x_6 x_7)).fst.steps ∧ (0 : Int) = (tellH (lookP none x x_2 x_4 x_6 x_7)).snd))) ∧ ∀ (x : MapD), LenOk x.l.length → ∀ (x_2 : List Driver), LenOk x_2.length → ∀ (x_4 : List Order), LenOk x_4.length → ∀ (x_6 : List Route), (LenOk
  x_6.length ∧ ∀ (r : Route), List.Mem r x_6 → LenOk r.stops.length) → ∀ (x_8 : Order) (x_9 : Int), LookPre (some x) x_6 x_9 → ∃ (inv : Int → Bool → Int → Int → Int → Int → Int → Prop), ∃ (μ : Int → Bool → Int → Int → Int → Int → Int → Nat),
  (((x_9 = x_9 ∧ (0 : Int) = (0 : Int) ∧ false = false ∧ (↑x_6.length : Int) = (↑x_6.length : Int) ∧ (0 : Int) = (0 : Int)) ∧ (x.n = x.n ∧ (x_8.id = x_8.id ∧ x_8.size = x_8.size ∧ x_8.pp = x_8.pp ∧ x_8.pf = x_8.pf ∧ x_8.pt = x_8.pt ∧ x_8.ps =
  x_8.ps ∧ x_8.dp = x_8.dp ∧ x_8.df = x_8.df ∧ x_8.dt = x_8.dt ∧ x_8.ds = x_8.ds) ∧ ((0 : Int) = (0 : Int) ∧ (0 : Int) = (0 : Int) ∧ (0 : Int) = (0 : Int) ∧ (0 : Int) = (0 : Int)) ∧ (0 : Int) = (0 : Int) ∧ (0 : Int) = (0 : Int) ∧ (0 : Int) =
  (0 : Int) ∧ (0 : Int) = (0 : Int)) ∧ x.l = x.l ∧ x_6 = x_6 ∧ x_4 = x_4 ∧ x_2 = x_2) ∧ inv (0 : Int) false (0 : Int) (0 : Int) (0 : Int) (0 : Int) (0 : Int)) ∧ ∀ (x_11 : Int) (x_12 : Bool) (x_13 x_14 x_15 x_16 x_17 : Int), inv x_11 x_12 x_13
  x_14 x_15 x_16 x_17 → (decide (x_13 < (↑x_6.length : Int)) = true → ((0 : Int) ≤ x_13 ∧ x_13 < (↑x_6.length : Int)) ∧ x_13.toNat < x_6.length ∧ (((findD (x_6.getD x_13.toNat (Route.mk (0 : Int) (0 : Int) [])).driver x_2).getD
  FK.driver.zero).retired = false → (decide ((↑(x_6.getD x_13.toNat (Route.mk (0 : Int) (0 : Int) [])).stops.length : Int) > (78 : Int)) = true → ((x_9 = x_9 ∧ x_11 = x_11 ∧ x_12 = x_12 ∧ (↑x_6.length : Int) = (↑x_6.length : Int) ∧ wrap (x_13
  + (1 : Int)) = wrap (x_13 + (1 : Int))) ∧ (x.n = x.n ∧ (x_8.id = x_8.id ∧ x_8.size = x_8.size ∧ x_8.pp = x_8.pp ∧ x_8.pf = x_8.pf ∧ x_8.pt = x_8.pt ∧ x_8.ps = x_8.ps ∧ x_8.dp = x_8.dp ∧ x_8.df = x_8.df ∧ x_8.dt = x_8.dt ∧ x_8.ds = x_8.ds) ∧
  ((0 : Int) = (0 : Int) ∧ (0 : Int) = (0 : Int) ∧ (0 : Int) = (0 : Int) ∧ (0 : Int) = (0 : Int)) ∧ x_14 = x_14 ∧ x_15 = x_15 ∧ x_16 = x_16 ∧ x_17 = x_17) ∧ x.l = x.l ∧ x_6 = x_6 ∧ x_4 = x_4 ∧ x_2 = x_2) ∧ inv x_11 x_12 (wrap (x_13 + (1 :
  Int))) x_14 x_15 x_16 x_17 ∧ μ x_11 x_12 (wrap (x_13 + (1 : Int))) x_14 x_15 x_16 x_17 < μ x_11 x_12 x_13 x_14 x_15 x_16 x_17) ∧ (decide ((↑(x_6.getD x_13.toNat (Route.mk (0 : Int) (0 : Int) [])).stops.length : Int) > (78 : Int)) = false →
  (MapOk x ∧ (x_6.getD x_13.toNat (Route.mk (0 : Int) (0 : Int) [])).stops.length ≤ (1000 : Nat)) ∧ BestPre (SearchD.mk x ((findD (x_6.getD x_13.toNat (Route.mk (0 : Int) (0 : Int) [])).driver x_2).getD FK.driver.zero) (mkS x ((findD
  (x_6.getD x_13.toNat (Route.mk (0 : Int) (0 : Int) [])).driver x_2).getD FK.driver.zero) x_4 (x_6.getD x_13.toNat (Route.mk (0 : Int) (0 : Int) [])).stops x_8).legs (mkS x ((findD (x_6.getD x_13.toNat (Route.mk (0 : Int) (0 : Int)
  [])).driver x_2).getD FK.driver.zero) x_4 (x_6.getD x_13.toNat (Route.mk (0 : Int) (0 : Int) [])).stops x_8).pre (legO x_8 false) (legO x_8 true) (mkS x ((findD (x_6.getD x_13.toNat (Route.mk (0 : Int) (0 : Int) [])).driver x_2).getD
  FK.driver.zero) x_4 (x_6.getD x_13.toNat (Route.mk (0 : Int) (0 : Int) [])).stops x_8).full) (x_6.getD x_13.toNat (Route.mk (0 : Int) (0 : Int) [])).served ∧ ((bestS (SearchD.mk x ((findD (x_6.getD x_13.toNat (Route.mk (0 : Int) (0 : Int)
  [])).driver x_2).getD FK.driver.zero) (mkS x ((findD (x_6.getD x_13.toNat (Route.mk (0 : Int) (0 : Int) [])).driver x_2).getD FK.driver.zero) x_4 (x_6.getD x_13.toNat (Route.mk (0 : Int) (0 : Int) [])).stops x_8).legs (mkS x ((findD
  (x_6.getD x_13.toNat (Route.mk (0 : Int) (0 : Int) [])).driver x_2).getD FK.driver.zero) x_4 (x_6.getD x_13.toNat (Route.mk (0 : Int) (0 : Int) [])).stops x_8).pre (legO x_8 false) (legO x_8 true) (mkS x ((findD (x_6.getD x_13.toNat
  (Route.mk (0 : Int) (0 : Int) [])).driver x_2).getD FK.driver.zero) x_4 (x_6.getD x_13.toNat (Route.mk (0 : Int) (0 : Int) [])).stops x_8).full) (x_6.getD x_13.toNat (Route.mk (0 : Int) (0 : Int) [])).served (wrap (x_9 - x_11))).found =
  true → ((!x_12) = false → (decide ((hspot (bestS (SearchD.mk x ((findD (x_6.getD x_13.toNat (Route.mk (0 : Int) (0 : Int) [])).driver x_2).getD FK.driver.zero) (mkS x ((findD (x_6.getD x_13.toNat (Route.mk (0 : Int) (0 : Int) [])).driver
  x_2).getD FK.driver.zero) x_4 (x_6.getD x_13.toNat (Route.mk (0 : Int) (0 : Int) [])).stops x_8).legs (mkS x ((findD (x_6.getD x_13.toNat (Route.mk (0 : Int) (0 : Int) [])).driver x_2).getD FK.driver.zero) x_4 (x_6.getD x_13.toNat (Route.mk
  (0 : Int) (0 : Int) [])).stops x_8).pre (legO x_8 false) (legO x_8 true) (mkS x ((findD (x_6.getD x_13.toNat (Route.mk (0 : Int) (0 : Int) [])).driver x_2).getD FK.driver.zero) x_4 (x_6.getD x_13.toNat (Route.mk (0 : Int) (0 : Int)
  [])).stops x_8).full) (x_6.getD x_13.toNat (Route.mk (0 : Int) (0 : Int) [])).served (wrap (x_9 - x_11)))).cost < x_17) = true → ((x_9 = x_9 ∧ wrap (x_11 + (bestS (SearchD.mk x ((findD (x_6.getD x_13.toNat (Route.mk (0 : Int) (0 : Int)
  [])).driver x_2).getD FK.driver.zero) (mkS x ((findD (x_6.getD x_13.toNat (Route.mk (0 : Int) (0 : Int) [])).driver x_2).getD FK.driver.zero) x_4 (x_6.getD x_13.toNat (Route.mk (0 : Int) (0 : Int) [])).stops x_8).legs (mkS x ((findD
  (x_6.getD x_13.toNat (Route.mk (0 : Int) (0 : Int) [])).driver x_2).getD FK.driver.zero) x_4 (x_6.getD x_13.toNat (Route.mk (0 : Int) (0 : Int) [])).stops x_8).pre (legO x_8 false) (legO x_8 true) (mkS x ((findD (x_6.getD x_13.toNat
  (Route.mk (0 : Int) (0 : Int) [])).driver x_2).getD FK.driver.zero) x_4 (x_6.getD x_13.toNat (Route.mk (0 : Int) (0 : Int) [])).stops x_8).full) (x_6.getD x_13.toNat (Route.mk (0 : Int) (0 : Int) [])).served (wrap (x_9 - x_11))).steps) =
  wrap (x_11 + (bestS (SearchD.mk x ((findD (x_6.getD x_13.toNat (Route.mk (0 : Int) (0 : Int) [])).driver x_2).getD FK.driver.zero) (mkS x ((findD (x_6.getD x_13.toNat (Route.mk (0 : Int) (0 : Int) [])).driver x_2).getD FK.driver.zero) x_4
  (x_6.getD x_13.toNat (Route.mk (0 : Int) (0 : Int) [])).stops x_8).legs (mkS x ((findD (x_6.getD x_13.toNat (Route.mk (0 : Int) (0 : Int) [])).driver x_2).getD FK.driver.zero) x_4 (x_6.getD x_13.toNat (Route.mk (0 : Int) (0 : Int)
  [])).stops x_8).pre (legO x_8 false) (legO x_8 true) (mkS x ((findD (x_6.getD x_13.toNat (Route.mk (0 : Int) (0 : Int) [])).driver x_2).getD FK.driver.zero) x_4 (x_6.getD x_13.toNat (Route.mk (0 : Int) (0 : Int) [])).stops x_8).full)
  (x_6.getD x_13.toNat (Route.mk (0 : Int) (0 : Int) [])).served (wrap (x_9 - x_11))).steps) ∧ true = true ∧ (↑x_6.length : Int) = (↑x_6.length : Int) ∧ wrap (x_13 + (1 : Int)) = wrap (x_13 + (1 : Int))) ∧ (x.n = x.n ∧ (x_8.id = x_8.id ∧
  x_8.size = x_8.size ∧ x_8.pp = x_8.pp ∧ x_8.pf = x_8.pf ∧ x_8.pt = x_8.pt ∧ x_8.ps = x_8.ps ∧ x_8.dp = x_8.dp ∧ x_8.df = x_8.df ∧ x_8.dt = x_8.dt ∧ x_8.ds = x_8.ds) ∧ ((0 : Int) = (0 : Int) ∧ (0 : Int) = (0 : Int) ∧ (0 : Int) = (0 : Int) ∧
  (0 : Int) = (0 : Int)) ∧ (hspot (bestS (SearchD.mk x ((findD (x_6.getD x_13.toNat (Route.mk (0 : Int) (0 : Int) [])).driver x_2).getD FK.driver.zero) (mkS x ((findD (x_6.getD x_13.toNat (Route.mk (0 : Int) (0 : Int) [])).driver x_2).getD
  FK.driver.zero) x_4 (x_6.getD x_13.toNat (Route.mk (0 : Int) (0 : Int) [])).stops x_8).legs (mkS x ((findD (x_6.getD x_13.toNat (Route.mk (0 : Int) (0 : Int) [])).driver x_2).getD FK.driver.zero) x_4 (x_6.getD x_13.toNat (Route.mk (0 : Int)
  (0 : Int) [])).stops x_8).pre (legO x_8 false) (legO x_8 true) (mkS x ((findD (x_6.getD x_13.toNat (Route.mk (0 : Int) (0 : Int) [])).driver x_2).getD FK.driver.zero) x_4 (x_6.getD x_13.toNat (Route.mk (0 : Int) (0 : Int) [])).stops
  x_8).full) (x_6.getD x_13.toNat (Route.mk (0 : Int) (0 : Int) [])).served (wrap (x_9 - x_11)))).driver = (hspot (bestS (SearchD.mk x ((findD (x_6.getD x_13.toNat (Route.mk (0 : Int) (0 : Int) [])).driver x_2).getD FK.driver.zero) (mkS x
  ((findD (x_6.getD x_13.toNat (Route.mk (0 : Int) (0 : Int) [])).driver x_2).getD FK.driver.zero) x_4 (x_6.getD x_13.toNat (Route.mk (0 : Int) (0 : Int) [])).stops x_8).legs (mkS x ((findD (x_6.getD x_13.toNat (Route.mk (0 : Int) (0 : Int)
  [])).driver x_2).getD FK.driver.zero) x_4 (x_6.getD x_13.toNat (Route.mk (0 : Int) (0 : Int) [])).stops x_8).pre (legO x_8 false) (legO x_8 true) (mkS x ((findD (x_6.getD x_13.toNat (Route.mk (0 : Int) (0 : Int) [])).driver x_2).getD
  FK.driver.zero) x_4 (x_6.getD x_13.toNat (Route.mk (0 : Int) (0 : Int) [])).stops x_8).full) (x_6.getD x_13.toNat (Route.mk (0 : Int) (0 : Int) [])).served (wrap (x_9 - x_11)))).driver ∧ (hspot (bestS (SearchD.mk x ((findD (x_6.getD
  x_13.toNat (Route.mk (0 : Int) (0 : Int) [])).driver x_2).getD FK.driver.zero) (mkS x ((findD (x_6.getD x_13.toNat (Route.mk (0 : Int) (0 : Int) [])).driver x_2).getD FK.driver.zero) x_4 (x_6.getD x_13.toNat (Route.mk (0 : Int) (0 : Int)
  [])).stops x_8).legs (mkS x ((findD (x_6.getD x_13.toNat (Route.mk (0 : Int) (0 : Int) [])).driver x_2).getD FK.driver.zero) x_4 (x_6.getD x_13.toNat (Route.mk (0 : Int) (0 : Int) [])).stops x_8).pre (legO x_8 false) (legO x_8 true) (mkS x
  ((findD (x_6.getD x_13.toNat (Route.mk (0 : Int) (0 : Int) [])).driver x_2).getD FK.driver.zero) x_4 (x_6.getD x_13.toNat (Route.mk (0 : Int) (0 : Int) [])).stops x_8).full) (x_6.getD x_13.toNat (Route.mk (0 : Int) (0 : Int) [])).served
  (wrap (x_9 - x_11)))).pick = (hspot (bestS (SearchD.mk x ((findD (x_6.getD x_13.toNat (Route.mk (0 : Int) (0 : Int) [])).driver x_2).getD FK.driver.zero) (mkS x ((findD (x_6.getD x_13.toNat (Route.mk (0 : Int) (0 : Int) [])).driver
  x_2).getD FK.driver.zero) x_4 (x_6.getD x_13.toNat (Route.mk (0 : Int) (0 : Int) [])).stops x_8).legs (mkS x ((findD (x_6.getD x_13.toNat (Route.mk (0 : Int) (0 : Int) [])).driver x_2).getD FK.driver.zero) x_4 (x_6.getD x_13.toNat (Route.mk
  (0 : Int) (0 : Int) [])).stops x_8).pre (legO x_8 false) (legO x_8 true) (mkS x ((findD (x_6.getD x_13.toNat (Route.mk (0 : Int) (0 : Int) [])).driver x_2).getD FK.driver.zero) x_4 (x_6.getD x_13.toNat (Route.mk (0 : Int) (0 : Int)
  [])).stops x_8).full) (x_6.getD x_13.toNat (Route.mk (0 : Int) (0 : Int) [])).served (wrap (x_9 - x_11)))).pick ∧ (hspot (bestS (SearchD.mk x ((findD (x_6.getD x_13.toNat (Route.mk (0 : Int) (0 : Int) [])).driver x_2).getD FK.driver.zero)
  (mkS x ((findD (x_6.getD x_13.toNat (Route.mk (0 : Int) (0 : Int) [])).driver x_2).getD FK.driver.zero) x_4 (x_6.getD x_13.toNat (Route.mk (0 : Int) (0 : Int) [])).stops x_8).legs (mkS x ((findD (x_6.getD x_13.toNat (Route.mk (0 : Int) (0 :
  Int) [])).driver x_2).getD FK.driver.zero) x_4 (x_6.getD x_13.toNat (Route.mk (0 : Int) (0 : Int) [])).stops x_8).pre (legO x_8 false) (legO x_8 true) (mkS x ((findD (x_6.getD x_13.toNat (Route.mk (0 : Int) (0 : Int) [])).driver x_2).getD
  FK.driver.zero) x_4 (x_6.getD x_13.toNat (Route.mk (0 : Int) (0 : Int) [])).stops x_8).full) (x_6.getD x_13.toNat (Route.mk (0 : Int) (0 : Int) [])).served (wrap (x_9 - x_11)))).drop = (hspot (bestS (SearchD.mk x ((findD (x_6.getD
  x_13.toNat (Route.mk (0 : Int) (0 : Int) [])).driver x_2).getD FK.driver.zero) (mkS x ((findD (x_6.getD x_13.toNat (Route.mk (0 : Int) (0 : Int) [])).driver x_2).getD FK.driver.zero) x_4 (x_6.getD x_13.toNat (Route.mk (0 : Int) (0 : Int)
  [])).stops x_8).legs (mkS x ((findD (x_6.getD x_13.toNat (Route.mk (0 : Int) (0 : Int) [])).driver x_2).getD FK.driver.zero) x_4 (x_6.getD x_13.toNat (Route.mk (0 : Int) (0 : Int) [])).stops x_8).pre (legO x_8 false) (legO x_8 true) (mkS x
  ((findD (x_6.getD x_13.toNat (Route.mk (0 : Int) (0 : Int) [])).driver x_2).getD FK.driver.zero) x_4 (x_6.getD x_13.toNat (Route.mk (0 : Int) (0 : Int) [])).stops x_8).full) (x_6.getD x_13.toNat (Route.mk (0 : Int) (0 : Int) [])).served
  (wrap (x_9 - x_11)))).drop ∧ (hspot (bestS (SearchD.mk x ((findD (x_6.getD x_13.toNat (Route.mk (0 : Int) (0 : Int) [])).driver x_2).getD FK.driver.zero) (mkS x ((findD (x_6.getD x_13.toNat (Route.mk (0 : Int) (0 : Int) [])).driver
  x_2).getD FK.driver.zero) x_4 (x_6.getD x_13.toNat (Route.mk (0 : Int) (0 : Int) [])).stops x_8).legs (mkS x ((findD (x_6.getD x_13.toNat (Route.mk (0 : Int) (0 : Int) [])).driver x_2).getD FK.driver.zero) x_4 (x_6.getD x_13.toNat (Route.mk
  (0 : Int) (0 : Int) [])).stops x_8).pre (legO x_8 false) (legO x_8 true) (mkS x ((findD (x_6.getD x_13.toNat (Route.mk (0 : Int) (0 : Int) [])).driver x_2).getD FK.driver.zero) x_4 (x_6.getD x_13.toNat (Route.mk (0 : Int) (0 : Int)
  [])).stops x_8).full) (x_6.getD x_13.toNat (Route.mk (0 : Int) (0 : Int) [])).served (wrap (x_9 - x_11)))).cost = (hspot (bestS (SearchD.mk x ((findD (x_6.getD x_13.toNat (Route.mk (0 : Int) (0 : Int) [])).driver x_2).getD FK.driver.zero)
  (mkS x ((findD (x_6.getD x_13.toNat (Route.mk (0 : Int) (0 : Int) [])).driver x_2).getD FK.driver.zero) x_4 (x_6.getD x_13.toNat (Route.mk (0 : Int) (0 : Int) [])).stops x_8).legs (mkS x ((findD (x_6.getD x_13.toNat (Route.mk (0 : Int) (0 :
  Int) [])).driver x_2).getD FK.driver.zero) x_4 (x_6.getD x_13.toNat (Route.mk (0 : Int) (0 : Int) [])).stops x_8).pre (legO x_8 false) (legO x_8 true) (mkS x ((findD (x_6.getD x_13.toNat (Route.mk (0 : Int) (0 : Int) [])).driver x_2).getD
  FK.driver.zero) x_4 (x_6.getD x_13.toNat (Route.mk (0 : Int) (0 : Int) [])).stops x_8).full) (x_6.getD x_13.toNat (Route.mk (0 : Int) (0 : Int) [])).served (wrap (x_9 - x_11)))).cost) ∧ x.l = x.l ∧ x_6 = x_6 ∧ x_4 = x_4 ∧ x_2 = x_2) ∧ inv
  (wrap (x_11 + (bestS (SearchD.mk x ((findD (x_6.getD x_13.toNat (Route.mk (0 : Int) (0 : Int) [])).driver x_2).getD FK.driver.zero) (mkS x ((findD (x_6.getD x_13.toNat (Route.mk (0 : Int) (0 : Int) [])).driver x_2).getD FK.driver.zero) x_4
  (x_6.getD x_13.toNat (Route.mk (0 : Int) (0 : Int) [])).stops x_8).legs (mkS x ((findD (x_6.getD x_13.toNat (Route.mk (0 : Int) (0 : Int) [])).driver x_2).getD FK.driver.zero) x_4 (x_6.getD x_13.toNat (Route.mk (0 : Int) (0 : Int)
  [])).stops x_8).pre (legO x_8 false) (legO x_8 true) (mkS x ((findD (x_6.getD x_13.toNat (Route.mk (0 : Int) (0 : Int) [])).driver x_2).getD FK.driver.zero) x_4 (x_6.getD x_13.toNat (Route.mk (0 : Int) (0 : Int) [])).stops x_8).full)
  (x_6.getD x_13.toNat (Route.mk (0 : Int) (0 : Int) [])).served (wrap (x_9 - x_11))).steps)) true (wrap (x_13 + (1 : Int))) (hspot (bestS (SearchD.mk x ((findD (x_6.getD x_13.toNat (Route.mk (0 : Int) (0 : Int) [])).driver x_2).getD
  FK.driver.zero) (mkS x ((findD (x_6.getD x_13.toNat (Route.mk (0 : Int) (0 : Int) [])).driver x_2).getD FK.driver.zero) x_4 (x_6.getD x_13.toNat (Route.mk (0 : Int) (0 : Int) [])).stops x_8).legs (mkS x ((findD (x_6.getD x_13.toNat
  (Route.mk (0 : Int) (0 : Int) [])).driver x_2).getD FK.driver.zero) x_4 (x_6.getD x_13.toNat (Route.mk (0 : Int) (0 : Int) [])).stops x_8).pre (legO x_8 false) (legO x_8 true) (mkS x ((findD (x_6.getD x_13.toNat (Route.mk (0 : Int) (0 :
  Int) [])).driver x_2).getD FK.driver.zero) x_4 (x_6.getD x_13.toNat (Route.mk (0 : Int) (0 : Int) [])).stops x_8).full) (x_6.getD x_13.toNat (Route.mk (0 : Int) (0 : Int) [])).served (wrap (x_9 - x_11)))).driver (hspot (bestS (SearchD.mk x
  ((findD (x_6.getD x_13.toNat (Route.mk (0 : Int) (0 : Int) [])).driver x_2).getD FK.driver.zero) (mkS x ((findD (x_6.getD x_13.toNat (Route.mk (0 : Int) (0 : Int) [])).driver x_2).getD FK.driver.zero) x_4 (x_6.getD x_13.toNat (Route.mk (0 :
  Int) (0 : Int) [])).stops x_8).legs (mkS x ((findD (x_6.getD x_13.toNat (Route.mk (0 : Int) (0 : Int) [])).driver x_2).getD FK.driver.zero) x_4 (x_6.getD x_13.toNat (Route.mk (0 : Int) (0 : Int) [])).stops x_8).pre (legO x_8 false) (legO
  x_8 true) (mkS x ((findD (x_6.getD x_13.toNat (Route.mk (0 : Int) (0 : Int) [])).driver x_2).getD FK.driver.zero) x_4 (x_6.getD x_13.toNat (Route.mk (0 : Int) (0 : Int) [])).stops x_8).full) (x_6.getD x_13.toNat (Route.mk (0 : Int) (0 :
  Int) [])).served (wrap (x_9 - x_11)))).pick (hspot (bestS (SearchD.mk x ((findD (x_6.getD x_13.toNat (Route.mk (0 : Int) (0 : Int) [])).driver x_2).getD FK.driver.zero) (mkS x ((findD (x_6.getD x_13.toNat (Route.mk (0 : Int) (0 : Int)
  [])).driver x_2).getD FK.driver.zero) x_4 (x_6.getD x_13.toNat (Route.mk (0 : Int) (0 : Int) [])).stops x_8).legs (mkS x ((findD (x_6.getD x_13.toNat (Route.mk (0 : Int) (0 : Int) [])).driver x_2).getD FK.driver.zero) x_4 (x_6.getD
  x_13.toNat (Route.mk (0 : Int) (0 : Int) [])).stops x_8).pre (legO x_8 false) (legO x_8 true) (mkS x ((findD (x_6.getD x_13.toNat (Route.mk (0 : Int) (0 : Int) [])).driver x_2).getD FK.driver.zero) x_4 (x_6.getD x_13.toNat (Route.mk (0 :
  Int) (0 : Int) [])).stops x_8).full) (x_6.getD x_13.toNat (Route.mk (0 : Int) (0 : Int) [])).served (wrap (x_9 - x_11)))).drop (hspot (bestS (SearchD.mk x ((findD (x_6.getD x_13.toNat (Route.mk (0 : Int) (0 : Int) [])).driver x_2).getD
  FK.driver.zero) (mkS x ((findD (x_6.getD x_13.toNat (Route.mk (0 : Int) (0 : Int) [])).driver x_2).getD FK.driver.zero) x_4 (x_6.getD x_13.toNat (Route.mk (0 : Int) (0 : Int) [])).stops x_8).legs (mkS x ((findD (x_6.getD x_13.toNat
  (Route.mk (0 : Int) (0 : Int) [])).driver x_2).getD FK.driver.zero) x_4 (x_6.getD x_13.toNat (Route.mk (0 : Int) (0 : Int) [])).stops x_8).pre (legO x_8 false) (legO x_8 true) (mkS x ((findD (x_6.getD x_13.toNat (Route.mk (0 : Int) (0 :
  Int) [])).driver x_2).getD FK.driver.zero) x_4 (x_6.getD x_13.toNat (Route.mk (0 : Int) (0 : Int) [])).stops x_8).full) (x_6.getD x_13.toNat (Route.mk (0 : Int) (0 : Int) [])).served (wrap (x_9 - x_11)))).cost ∧ μ (wrap (x_11 + (bestS
  (SearchD.mk x ((findD (x_6.getD x_13.toNat (Route.mk (0 : Int) (0 : Int) [])).driver x_2).getD FK.driver.zero) (mkS x ((findD (x_6.getD x_13.toNat (Route.mk (0 : Int) (0 : Int) [])).driver x_2).getD FK.driver.zero) x_4 (x_6.getD x_13.toNat
  (Route.mk (0 : Int) (0 : Int) [])).stops x_8).legs (mkS x ((findD (x_6.getD x_13.toNat (Route.mk (0 : Int) (0 : Int) [])).driver x_2).getD FK.driver.zero) x_4 (x_6.getD x_13.toNat (Route.mk (0 : Int) (0 : Int) [])).stops x_8).pre (legO x_8
  false) (legO x_8 true) (mkS x ((findD (x_6.getD x_13.toNat (Route.mk (0 : Int) (0 : Int) [])).driver x_2).getD FK.driver.zero) x_4 (x_6.getD x_13.toNat (Route.mk (0 : Int) (0 : Int) [])).stops x_8).full) (x_6.getD x_13.toNat (Route.mk (0 :
  Int) (0 : Int) [])).served (wrap (x_9 - x_11))).steps)) true (wrap (x_13 + (1 : Int))) (hspot (bestS (SearchD.mk x ((findD (x_6.getD x_13.toNat (Route.mk (0 : Int) (0 : Int) [])).driver x_2).getD FK.driver.zero) (mkS x ((findD (x_6.getD
  x_13.toNat (Route.mk (0 : Int) (0 : Int) [])).driver x_2).getD FK.driver.zero) x_4 (x_6.getD x_13.toNat (Route.mk (0 : Int) (0 : Int) [])).stops x_8).legs (mkS x ((findD (x_6.getD x_13.toNat (Route.mk (0 : Int) (0 : Int) [])).driver
  x_2).getD FK.driver.zero) x_4 (x_6.getD x_13.toNat (Route.mk (0 : Int) (0 : Int) [])).stops x_8).pre (legO x_8 false) (legO x_8 true) (mkS x ((findD (x_6.getD x_13.toNat (Route.mk (0 : Int) (0 : Int) [])).driver x_2).getD FK.driver.zero)
  x_4 (x_6.getD x_13.toNat (Route.mk (0 : Int) (0 : Int) [])).stops x_8).full) (x_6.getD x_13.toNat (Route.mk (0 : Int) (0 : Int) [])).served (wrap (x_9 - x_11)))).driver (hspot (bestS (SearchD.mk x ((findD (x_6.getD x_13.toNat (Route.mk (0 :
  Int) (0 : Int) [])).driver x_2).getD FK.driver.zero) (mkS x ((findD (x_6.getD x_13.toNat (Route.mk (0 : Int) (0 : Int) [])).driver x_2).getD FK.driver.zero) x_4 (x_6.getD x_13.toNat (Route.mk (0 : Int) (0 : Int) [])).stops x_8).legs (mkS x
  ((findD (x_6.getD x_13.toNat (Route.mk (0 : Int) (0 : Int) [])).driver x_2).getD FK.driver.zero) x_4 (x_6.getD x_13.toNat (Route.mk (0 : Int) (0 : Int) [])).stops x_8).pre (legO x_8 false) (legO x_8 true) (mkS x ((findD (x_6.getD x_13.toNat
  (Route.mk (0 : Int) (0 : Int) [])).driver x_2).getD FK.driver.zero) x_4 (x_6.getD x_13.toNat (Route.mk (0 : Int) (0 : Int) [])).stops x_8).full) (x_6.getD x_13.toNat (Route.mk (0 : Int) (0 : Int) [])).served (wrap (x_9 - x_11)))).pick
  (hspot (bestS (SearchD.mk x ((findD (x_6.getD x_13.toNat (Route.mk (0 : Int) (0 : Int) [])).driver x_2).getD FK.driver.zero) (mkS x ((findD (x_6.getD x_13.toNat (Route.mk (0 : Int) (0 : Int) [])).driver x_2).getD FK.driver.zero) x_4
  (x_6.getD x_13.toNat (Route.mk (0 : Int) (0 : Int) [])).stops x_8).legs (mkS x ((findD (x_6.getD x_13.toNat (Route.mk (0 : Int) (0 : Int) [])).driver x_2).getD FK.driver.zero) x_4 (x_6.getD x_13.toNat (Route.mk (0 : Int) (0 : Int)
  [])).stops x_8).pre (legO x_8 false) (legO x_8 true) (mkS x ((findD (x_6.getD x_13.toNat (Route.mk (0 : Int) (0 : Int) [])).driver x_2).getD FK.driver.zero) x_4 (x_6.getD x_13.toNat (Route.mk (0 : Int) (0 : Int) [])).stops x_8).full)
  (x_6.getD x_13.toNat (Route.mk (0 : Int) (0 : Int) [])).served (wrap (x_9 - x_11)))).drop (hspot (bestS (SearchD.mk x ((findD (x_6.getD x_13.toNat (Route.mk (0 : Int) (0 : Int) [])).driver x_2).getD FK.driver.zero) (mkS x ((findD (x_6.getD
  x_13.toNat (Route.mk (0 : Int) (0 : Int) [])).driver x_2).getD FK.driver.zero) x_4 (x_6.getD x_13.toNat (Route.mk (0 : Int) (0 : Int) [])).stops x_8).legs (mkS x ((findD (x_6.getD x_13.toNat (Route.mk (0 : Int) (0 : Int) [])).driver
  x_2).getD FK.driver.zero) x_4 (x_6.getD x_13.toNat (Route.mk (0 : Int) (0 : Int) [])).stops x_8).pre (legO x_8 false) (legO x_8 true) (mkS x ((findD (x_6.getD x_13.toNat (Route.mk (0 : Int) (0 : Int) [])).driver x_2).getD FK.driver.zero)
  x_4 (x_6.getD x_13.toNat (Route.mk (0 : Int) (0 : Int) [])).stops x_8).full) (x_6.getD x_13.toNat (Route.mk (0 : Int) (0 : Int) [])).served (wrap (x_9 - x_11)))).cost < μ x_11 x_12 x_13 x_14 x_15 x_16 x_17) ∧ (decide ((hspot (bestS
  (SearchD.mk x ((findD (x_6.getD x_13.toNat (Route.mk (0 : Int) (0 : Int) [])).driver x_2).getD FK.driver.zero) (mkS x ((findD (x_6.getD x_13.toNat (Route.mk (0 : Int) (0 : Int) [])).driver x_2).getD FK.driver.zero) x_4 (x_6.getD x_13.toNat
  (Route.mk (0 : Int) (0 : Int) [])).stops x_8).legs (mkS x ((findD (x_6.getD x_13.toNat (Route.mk (0 : Int) (0 : Int) [])).driver x_2).getD FK.driver.zero) x_4 (x_6.getD x_13.toNat (Route.mk (0 : Int) (0 : Int) [])).stops x_8).pre (legO x_8
  false) (legO x_8 true) (mkS x ((findD (x_6.getD x_13.toNat (Route.mk (0 : Int) (0 : Int) [])).driver x_2).getD FK.driver.zero) x_4 (x_6.getD x_13.toNat (Route.mk (0 : Int) (0 : Int) [])).stops x_8).full) (x_6.getD x_13.toNat (Route.mk (0 :
  Int) (0 : Int) [])).served (wrap (x_9 - x_11)))).cost < x_17) = false → ((x_9 = x_9 ∧ wrap (x_11 + (bestS (SearchD.mk x ((findD (x_6.getD x_13.toNat (Route.mk (0 : Int) (0 : Int) [])).driver x_2).getD FK.driver.zero) (mkS x ((findD
  (x_6.getD x_13.toNat (Route.mk (0 : Int) (0 : Int) [])).driver x_2).getD FK.driver.zero) x_4 (x_6.getD x_13.toNat (Route.mk (0 : Int) (0 : Int) [])).stops x_8).legs (mkS x ((findD (x_6.getD x_13.toNat (Route.mk (0 : Int) (0 : Int)
  [])).driver x_2).getD FK.driver.zero) x_4 (x_6.getD x_13.toNat (Route.mk (0 : Int) (0 : Int) [])).stops x_8).pre (legO x_8 false) (legO x_8 true) (mkS x ((findD (x_6.getD x_13.toNat (Route.mk (0 : Int) (0 : Int) [])).driver x_2).getD
  FK.driver.zero) x_4 (x_6.getD x_13.toNat (Route.mk (0 : Int) (0 : Int) [])).stops x_8).full) (x_6.getD x_13.toNat (Route.mk (0 : Int) (0 : Int) [])).served (wrap (x_9 - x_11))).steps) = wrap (x_11 + (bestS (SearchD.mk x ((findD (x_6.getD
  x_13.toNat (Route.mk (0 : Int) (0 : Int) [])).driver x_2).getD FK.driver.zero) (mkS x ((findD (x_6.getD x_13.toNat (Route.mk (0 : Int) (0 : Int) [])).driver x_2).getD FK.driver.zero) x_4 (x_6.getD x_13.toNat (Route.mk (0 : Int) (0 : Int)
  [])).stops x_8).legs (mkS x ((findD (x_6.getD x_13.toNat (Route.mk (0 : Int) (0 : Int) [])).driver x_2).getD FK.driver.zero) x_4 (x_6.getD x_13.toNat (Route.mk (0 : Int) (0 : Int) [])).stops x_8).pre (legO x_8 false) (legO x_8 true) (mkS x
  ((findD (x_6.getD x_13.toNat (Route.mk (0 : Int) (0 : Int) [])).driver x_2).getD FK.driver.zero) x_4 (x_6.getD x_13.toNat (Route.mk (0 : Int) (0 : Int) [])).stops x_8).full) (x_6.getD x_13.toNat (Route.mk (0 : Int) (0 : Int) [])).served
  (wrap (x_9 - x_11))).steps) ∧ x_12 = x_12 ∧ (↑x_6.length : Int) = (↑x_6.length : Int) ∧ wrap (x_13 + (1 : Int)) = wrap (x_13 + (1 : Int))) ∧ (x.n = x.n ∧ (x_8.id = x_8.id ∧ x_8.size = x_8.size ∧ x_8.pp = x_8.pp ∧ x_8.pf = x_8.pf ∧ x_8.pt =
  x_8.pt ∧ x_8.ps = x_8.ps ∧ x_8.dp = x_8.dp ∧ x_8.df = x_8.df ∧ x_8.dt = x_8.dt ∧ x_8.ds = x_8.ds) ∧ ((0 : Int) = (0 : Int) ∧ (0 : Int) = (0 : Int) ∧ (0 : Int) = (0 : Int) ∧ (0 : Int) = (0 : Int)) ∧ x_14 = x_14 ∧ x_15 = x_15 ∧ x_16 = x_16 ∧
  x_17 = x_17) ∧ x.l = x.l ∧ x_6 = x_6 ∧ x_4 = x_4 ∧ x_2 = x_2) ∧ inv (wrap (x_11 + (bestS (SearchD.mk x ((findD (x_6.getD x_13.toNat (Route.mk (0 : Int) (0 : Int) [])).driver x_2).getD FK.driver.zero) (mkS x ((findD (x_6.getD x_13.toNat
  (Route.mk (0 : Int) (0 : Int) [])).driver x_2).getD FK.driver.zero) x_4 (x_6.getD x_13.toNat (Route.mk (0 : Int) (0 : Int) [])).stops x_8).legs (mkS x ((findD (x_6.getD x_13.toNat (Route.mk (0 : Int) (0 : Int) [])).driver x_2).getD
  FK.driver.zero) x_4 (x_6.getD x_13.toNat (Route.mk (0 : Int) (0 : Int) [])).stops x_8).pre (legO x_8 false) (legO x_8 true) (mkS x ((findD (x_6.getD x_13.toNat (Route.mk (0 : Int) (0 : Int) [])).driver x_2).getD FK.driver.zero) x_4
  (x_6.getD x_13.toNat (Route.mk (0 : Int) (0 : Int) [])).stops x_8).full) (x_6.getD x_13.toNat (Route.mk (0 : Int) (0 : Int) [])).served (wrap (x_9 - x_11))).steps)) x_12 (wrap (x_13 + (1 : Int))) x_14 x_15 x_16 x_17 ∧ μ (wrap (x_11 + (bestS
  (SearchD.mk x ((findD (x_6.getD x_13.toNat (Route.mk (0 : Int) (0 : Int) [])).driver x_2).getD FK.driver.zero) (mkS x ((findD (x_6.getD x_13.toNat (Route.mk (0 : Int) (0 : Int) [])).driver x_2).getD FK.driver.zero) x_4 (x_6.getD x_13.toNat
  (Route.mk (0 : Int) (0 : Int) [])).stops x_8).legs (mkS x ((findD (x_6.getD x_13.toNat (Route.mk (0 : Int) (0 : Int) [])).driver x_2).getD FK.driver.zero) x_4 (x_6.getD x_13.toNat (Route.mk (0 : Int) (0 : Int) [])).stops x_8).pre (legO x_8
  false) (legO x_8 true) (mkS x ((findD (x_6.getD x_13.toNat (Route.mk (0 : Int) (0 : Int) [])).driver x_2).getD FK.driver.zero) x_4 (x_6.getD x_13.toNat (Route.mk (0 : Int) (0 : Int) [])).stops x_8).full) (x_6.getD x_13.toNat (Route.mk (0 :
  Int) (0 : Int) [])).served (wrap (x_9 - x_11))).steps)) x_12 (wrap (x_13 + (1 : Int))) x_14 x_15 x_16 x_17 < μ x_11 x_12 x_13 x_14 x_15 x_16 x_17)) ∧ ((!x_12) = !false → ((x_9 = x_9 ∧ wrap (x_11 + (bestS (SearchD.mk x ((findD (x_6.getD
  x_13.toNat (Route.mk (0 : Int) (0 : Int) [])).driver x_2).getD FK.driver.zero) (mkS x ((findD (x_6.getD x_13.toNat (Route.mk (0 : Int) (0 : Int) [])).driver x_2).getD FK.driver.zero) x_4 (x_6.getD x_13.toNat (Route.mk (0 : Int) (0 : Int)
  [])).stops x_8).legs (mkS x ((findD (x_6.getD x_13.toNat (Route.mk (0 : Int) (0 : Int) [])).driver x_2).getD FK.driver.zero) x_4 (x_6.getD x_13.toNat (Route.mk (0 : Int) (0 : Int) [])).stops x_8).pre (legO x_8 false) (legO x_8 true) (mkS x
  ((findD (x_6.getD x_13.toNat (Route.mk (0 : Int) (0 : Int) [])).driver x_2).getD FK.driver.zero) x_4 (x_6.getD x_13.toNat (Route.mk (0 : Int) (0 : Int) [])).stops x_8).full) (x_6.getD x_13.toNat (Route.mk (0 : Int) (0 : Int) [])).served
  (wrap (x_9 - x_11))).steps) = wrap (x_11 + (bestS (SearchD.mk x ((findD (x_6.getD x_13.toNat (Route.mk (0 : Int) (0 : Int) [])).driver x_2).getD FK.driver.zero) (mkS x ((findD (x_6.getD x_13.toNat (Route.mk (0 : Int) (0 : Int) [])).driver
  x_2).getD FK.driver.zero) x_4 (x_6.getD x_13.toNat (Route.mk (0 : Int) (0 : Int) [])).stops x_8).legs (mkS x ((findD (x_6.getD x_13.toNat (Route.mk (0 : Int) (0 : Int) [])).driver x_2).getD FK.driver.zero) x_4 (x_6.getD x_13.toNat (Route.mk
  (0 : Int) (0 : Int) [])).stops x_8).pre (legO x_8 false) (legO x_8 true) (mkS x ((findD (x_6.getD x_13.toNat (Route.mk (0 : Int) (0 : Int) [])).driver x_2).getD FK.driver.zero) x_4 (x_6.getD x_13.toNat (Route.mk (0 : Int) (0 : Int)
  [])).stops x_8).full) (x_6.getD x_13.toNat (Route.mk (0 : Int) (0 : Int) [])).served (wrap (x_9 - x_11))).steps) ∧ true = true ∧ (↑x_6.length : Int) = (↑x_6.length : Int) ∧ wrap (x_13 + (1 : Int)) = wrap (x_13 + (1 : Int))) ∧ (x.n = x.n ∧
  (x_8.id = x_8.id ∧ x_8.size = x_8.size ∧ x_8.pp = x_8.pp ∧ x_8.pf = x_8.pf ∧ x_8.pt = x_8.pt ∧ x_8.ps = x_8.ps ∧ x_8.dp = x_8.dp ∧ x_8.df = x_8.df ∧ x_8.dt = x_8.dt ∧ x_8.ds = x_8.ds) ∧ ((0 : Int) = (0 : Int) ∧ (0 : Int) = (0 : Int) ∧ (0 :
  Int) = (0 : Int) ∧ (0 : Int) = (0 : Int)) ∧ (hspot (bestS (SearchD.mk x ((findD (x_6.getD x_13.toNat (Route.mk (0 : Int) (0 : Int) [])).driver x_2).getD FK.driver.zero) (mkS x ((findD (x_6.getD x_13.toNat (Route.mk (0 : Int) (0 : Int)
  [])).driver x_2).getD FK.driver.zero) x_4 (x_6.getD x_13.toNat (Route.mk (0 : Int) (0 : Int) [])).stops x_8).legs (mkS x ((findD (x_6.getD x_13.toNat (Route.mk (0 : Int) (0 : Int) [])).driver x_2).getD FK.driver.zero) x_4 (x_6.getD
  x_13.toNat (Route.mk (0 : Int) (0 : Int) [])).stops x_8).pre (legO x_8 false) (legO x_8 true) (mkS x ((findD (x_6.getD x_13.toNat (Route.mk (0 : Int) (0 : Int) [])).driver x_2).getD FK.driver.zero) x_4 (x_6.getD x_13.toNat (Route.mk (0 :
  Int) (0 : Int) [])).stops x_8).full) (x_6.getD x_13.toNat (Route.mk (0 : Int) (0 : Int) [])).served (wrap (x_9 - x_11)))).driver = (hspot (bestS (SearchD.mk x ((findD (x_6.getD x_13.toNat (Route.mk (0 : Int) (0 : Int) [])).driver x_2).getD
  FK.driver.zero) (mkS x ((findD (x_6.getD x_13.toNat (Route.mk (0 : Int) (0 : Int) [])).driver x_2).getD FK.driver.zero) x_4 (x_6.getD x_13.toNat (Route.mk (0 : Int) (0 : Int) [])).stops x_8).legs (mkS x ((findD (x_6.getD x_13.toNat
  (Route.mk (0 : Int) (0 : Int) [])).driver x_2).getD FK.driver.zero) x_4 (x_6.getD x_13.toNat (Route.mk (0 : Int) (0 : Int) [])).stops x_8).pre (legO x_8 false) (legO x_8 true) (mkS x ((findD (x_6.getD x_13.toNat (Route.mk (0 : Int) (0 :
  Int) [])).driver x_2).getD FK.driver.zero) x_4 (x_6.getD x_13.toNat (Route.mk (0 : Int) (0 : Int) [])).stops x_8).full) (x_6.getD x_13.toNat (Route.mk (0 : Int) (0 : Int) [])).served (wrap (x_9 - x_11)))).driver ∧ (hspot (bestS (SearchD.mk
  x ((findD (x_6.getD x_13.toNat (Route.mk (0 : Int) (0 : Int) [])).driver x_2).getD FK.driver.zero) (mkS x ((findD (x_6.getD x_13.toNat (Route.mk (0 : Int) (0 : Int) [])).driver x_2).getD FK.driver.zero) x_4 (x_6.getD x_13.toNat (Route.mk (0
  : Int) (0 : Int) [])).stops x_8).legs (mkS x ((findD (x_6.getD x_13.toNat (Route.mk (0 : Int) (0 : Int) [])).driver x_2).getD FK.driver.zero) x_4 (x_6.getD x_13.toNat (Route.mk (0 : Int) (0 : Int) [])).stops x_8).pre (legO x_8 false) (legO
  x_8 true) (mkS x ((findD (x_6.getD x_13.toNat (Route.mk (0 : Int) (0 : Int) [])).driver x_2).getD FK.driver.zero) x_4 (x_6.getD x_13.toNat (Route.mk (0 : Int) (0 : Int) [])).stops x_8).full) (x_6.getD x_13.toNat (Route.mk (0 : Int) (0 :
  Int) [])).served (wrap (x_9 - x_11)))).pick = (hspot (bestS (SearchD.mk x ((findD (x_6.getD x_13.toNat (Route.mk (0 : Int) (0 : Int) [])).driver x_2).getD FK.driver.zero) (mkS x ((findD (x_6.getD x_13.toNat (Route.mk (0 : Int) (0 : Int)
  [])).driver x_2).getD FK.driver.zero) x_4 (x_6.getD x_13.toNat (Route.mk (0 : Int) (0 : Int) [])).stops x_8).legs (mkS x ((findD (x_6.getD x_13.toNat (Route.mk (0 : Int) (0 : Int) [])).driver x_2).getD FK.driver.zero) x_4 (x_6.getD
  x_13.toNat (Route.mk (0 : Int) (0 : Int) [])).stops x_8).pre (legO x_8 false) (legO x_8 true) (mkS x ((findD (x_6.getD x_13.toNat (Route.mk (0 : Int) (0 : Int) [])).driver x_2).getD FK.driver.zero) x_4 (x_6.getD x_13.toNat (Route.mk (0 :
  Int) (0 : Int) [])).stops x_8).full) (x_6.getD x_13.toNat (Route.mk (0 : Int) (0 : Int) [])).served (wrap (x_9 - x_11)))).pick ∧ (hspot (bestS (SearchD.mk x ((findD (x_6.getD x_13.toNat (Route.mk (0 : Int) (0 : Int) [])).driver x_2).getD
  FK.driver.zero) (mkS x ((findD (x_6.getD x_13.toNat (Route.mk (0 : Int) (0 : Int) [])).driver x_2).getD FK.driver.zero) x_4 (x_6.getD x_13.toNat (Route.mk (0 : Int) (0 : Int) [])).stops x_8).legs (mkS x ((findD (x_6.getD x_13.toNat
  (Route.mk (0 : Int) (0 : Int) [])).driver x_2).getD FK.driver.zero) x_4 (x_6.getD x_13.toNat (Route.mk (0 : Int) (0 : Int) [])).stops x_8).pre (legO x_8 false) (legO x_8 true) (mkS x ((findD (x_6.getD x_13.toNat (Route.mk (0 : Int) (0 :
  Int) [])).driver x_2).getD FK.driver.zero) x_4 (x_6.getD x_13.toNat (Route.mk (0 : Int) (0 : Int) [])).stops x_8).full) (x_6.getD x_13.toNat (Route.mk (0 : Int) (0 : Int) [])).served (wrap (x_9 - x_11)))).drop = (hspot (bestS (SearchD.mk x
  ((findD (x_6.getD x_13.toNat (Route.mk (0 : Int) (0 : Int) [])).driver x_2).getD FK.driver.zero) (mkS x ((findD (x_6.getD x_13.toNat (Route.mk (0 : Int) (0 : Int) [])).driver x_2).getD FK.driver.zero) x_4 (x_6.getD x_13.toNat (Route.mk (0 :
  Int) (0 : Int) [])).stops x_8).legs (mkS x ((findD (x_6.getD x_13.toNat (Route.mk (0 : Int) (0 : Int) [])).driver x_2).getD FK.driver.zero) x_4 (x_6.getD x_13.toNat (Route.mk (0 : Int) (0 : Int) [])).stops x_8).pre (legO x_8 false) (legO
  x_8 true) (mkS x ((findD (x_6.getD x_13.toNat (Route.mk (0 : Int) (0 : Int) [])).driver x_2).getD FK.driver.zero) x_4 (x_6.getD x_13.toNat (Route.mk (0 : Int) (0 : Int) [])).stops x_8).full) (x_6.getD x_13.toNat (Route.mk (0 : Int) (0 :
  Int) [])).served (wrap (x_9 - x_11)))).drop ∧ (hspot (bestS (SearchD.mk x ((findD (x_6.getD x_13.toNat (Route.mk (0 : Int) (0 : Int) [])).driver x_2).getD FK.driver.zero) (mkS x ((findD (x_6.getD x_13.toNat (Route.mk (0 : Int) (0 : Int)
  [])).driver x_2).getD FK.driver.zero) x_4 (x_6.getD x_13.toNat (Route.mk (0 : Int) (0 : Int) [])).stops x_8).legs (mkS x ((findD (x_6.getD x_13.toNat (Route.mk (0 : Int) (0 : Int) [])).driver x_2).getD FK.driver.zero) x_4 (x_6.getD
  x_13.toNat (Route.mk (0 : Int) (0 : Int) [])).stops x_8).pre (legO x_8 false) (legO x_8 true) (mkS x ((findD (x_6.getD x_13.toNat (Route.mk (0 : Int) (0 : Int) [])).driver x_2).getD FK.driver.zero) x_4 (x_6.getD x_13.toNat (Route.mk (0 :
  Int) (0 : Int) [])).stops x_8).full) (x_6.getD x_13.toNat (Route.mk (0 : Int) (0 : Int) [])).served (wrap (x_9 - x_11)))).cost = (hspot (bestS (SearchD.mk x ((findD (x_6.getD x_13.toNat (Route.mk (0 : Int) (0 : Int) [])).driver x_2).getD
  FK.driver.zero) (mkS x ((findD (x_6.getD x_13.toNat (Route.mk (0 : Int) (0 : Int) [])).driver x_2).getD FK.driver.zero) x_4 (x_6.getD x_13.toNat (Route.mk (0 : Int) (0 : Int) [])).stops x_8).legs (mkS x ((findD (x_6.getD x_13.toNat
  (Route.mk (0 : Int) (0 : Int) [])).driver x_2).getD FK.driver.zero) x_4 (x_6.getD x_13.toNat (Route.mk (0 : Int) (0 : Int) [])).stops x_8).pre (legO x_8 false) (legO x_8 true) (mkS x ((findD (x_6.getD x_13.toNat (Route.mk (0 : Int) (0 :
  Int) [])).driver x_2).getD FK.driver.zero) x_4 (x_6.getD x_13.toNat (Route.mk (0 : Int) (0 : Int) [])).stops x_8).full) (x_6.getD x_13.toNat (Route.mk (0 : Int) (0 : Int) [])).served (wrap (x_9 - x_11)))).cost) ∧ x.l = x.l ∧ x_6 = x_6 ∧ x_4
  = x_4 ∧ x_2 = x_2) ∧ inv (wrap (x_11 + (bestS (SearchD.mk x ((findD (x_6.getD x_13.toNat (Route.mk (0 : Int) (0 : Int) [])).driver x_2).getD FK.driver.zero) (mkS x ((findD (x_6.getD x_13.toNat (Route.mk (0 : Int) (0 : Int) [])).driver
  x_2).getD FK.driver.zero) x_4 (x_6.getD x_13.toNat (Route.mk (0 : Int) (0 : Int) [])).stops x_8).legs (mkS x ((findD (x_6.getD x_13.toNat (Route.mk (0 : Int) (0 : Int) [])).driver x_2).getD FK.driver.zero) x_4 (x_6.getD x_13.toNat (Route.mk
  (0 : Int) (0 : Int) [])).stops x_8).pre (legO x_8 false) (legO x_8 true) (mkS x ((findD (x_6.getD x_13.toNat (Route.mk (0 : Int) (0 : Int) [])).driver x_2).getD FK.driver.zero) x_4 (x_6.getD x_13.toNat (Route.mk (0 : Int) (0 : Int)
  [])).stops x_8).full) (x_6.getD x_13.toNat (Route.mk (0 : Int) (0 : Int) [])).served (wrap (x_9 - x_11))).steps)) true (wrap (x_13 + (1 : Int))) (hspot (bestS (SearchD.mk x ((findD (x_6.getD x_13.toNat (Route.mk (0 : Int) (0 : Int)
  [])).driver x_2).getD FK.driver.zero) (mkS x ((findD (x_6.getD x_13.toNat (Route.mk (0 : Int) (0 : Int) [])).driver x_2).getD FK.driver.zero) x_4 (x_6.getD x_13.toNat (Route.mk (0 : Int) (0 : Int) [])).stops x_8).legs (mkS x ((findD
  (x_6.getD x_13.toNat (Route.mk (0 : Int) (0 : Int) [])).driver x_2).getD FK.driver.zero) x_4 (x_6.getD x_13.toNat (Route.mk (0 : Int) (0 : Int) [])).stops x_8).pre (legO x_8 false) (legO x_8 true) (mkS x ((findD (x_6.getD x_13.toNat
  (Route.mk (0 : Int) (0 : Int) [])).driver x_2).getD FK.driver.zero) x_4 (x_6.getD x_13.toNat (Route.mk (0 : Int) (0 : Int) [])).stops x_8).full) (x_6.getD x_13.toNat (Route.mk (0 : Int) (0 : Int) [])).served (wrap (x_9 - x_11)))).driver
  (hspot (bestS (SearchD.mk x ((findD (x_6.getD x_13.toNat (Route.mk (0 : Int) (0 : Int) [])).driver x_2).getD FK.driver.zero) (mkS x ((findD (x_6.getD x_13.toNat (Route.mk (0 : Int) (0 : Int) [])).driver x_2).getD FK.driver.zero) x_4
  (x_6.getD x_13.toNat (Route.mk (0 : Int) (0 : Int) [])).stops x_8).legs (mkS x ((findD (x_6.getD x_13.toNat (Route.mk (0 : Int) (0 : Int) [])).driver x_2).getD FK.driver.zero) x_4 (x_6.getD x_13.toNat (Route.mk (0 : Int) (0 : Int)
  [])).stops x_8).pre (legO x_8 false) (legO x_8 true) (mkS x ((findD (x_6.getD x_13.toNat (Route.mk (0 : Int) (0 : Int) [])).driver x_2).getD FK.driver.zero) x_4 (x_6.getD x_13.toNat (Route.mk (0 : Int) (0 : Int) [])).stops x_8).full)
  (x_6.getD x_13.toNat (Route.mk (0 : Int) (0 : Int) [])).served (wrap (x_9 - x_11)))).pick (hspot (bestS (SearchD.mk x ((findD (x_6.getD x_13.toNat (Route.mk (0 : Int) (0 : Int) [])).driver x_2).getD FK.driver.zero) (mkS x ((findD (x_6.getD
  x_13.toNat (Route.mk (0 : Int) (0 : Int) [])).driver x_2).getD FK.driver.zero) x_4 (x_6.getD x_13.toNat (Route.mk (0 : Int) (0 : Int) [])).stops x_8).legs (mkS x ((findD (x_6.getD x_13.toNat (Route.mk (0 : Int) (0 : Int) [])).driver
  x_2).getD FK.driver.zero) x_4 (x_6.getD x_13.toNat (Route.mk (0 : Int) (0 : Int) [])).stops x_8).pre (legO x_8 false) (legO x_8 true) (mkS x ((findD (x_6.getD x_13.toNat (Route.mk (0 : Int) (0 : Int) [])).driver x_2).getD FK.driver.zero)
  x_4 (x_6.getD x_13.toNat (Route.mk (0 : Int) (0 : Int) [])).stops x_8).full) (x_6.getD x_13.toNat (Route.mk (0 : Int) (0 : Int) [])).served (wrap (x_9 - x_11)))).drop (hspot (bestS (SearchD.mk x ((findD (x_6.getD x_13.toNat (Route.mk (0 :
  Int) (0 : Int) [])).driver x_2).getD FK.driver.zero) (mkS x ((findD (x_6.getD x_13.toNat (Route.mk (0 : Int) (0 : Int) [])).driver x_2).getD FK.driver.zero) x_4 (x_6.getD x_13.toNat (Route.mk (0 : Int) (0 : Int) [])).stops x_8).legs (mkS x
  ((findD (x_6.getD x_13.toNat (Route.mk (0 : Int) (0 : Int) [])).driver x_2).getD FK.driver.zero) x_4 (x_6.getD x_13.toNat (Route.mk (0 : Int) (0 : Int) [])).stops x_8).pre (legO x_8 false) (legO x_8 true) (mkS x ((findD (x_6.getD x_13.toNat
  (Route.mk (0 : Int) (0 : Int) [])).driver x_2).getD FK.driver.zero) x_4 (x_6.getD x_13.toNat (Route.mk (0 : Int) (0 : Int) [])).stops x_8).full) (x_6.getD x_13.toNat (Route.mk (0 : Int) (0 : Int) [])).served (wrap (x_9 - x_11)))).cost ∧ μ
  (wrap (x_11 + (bestS (SearchD.mk x ((findD (x_6.getD x_13.toNat (Route.mk (0 : Int) (0 : Int) [])).driver x_2).getD FK.driver.zero) (mkS x ((findD (x_6.getD x_13.toNat (Route.mk (0 : Int) (0 : Int) [])).driver x_2).getD FK.driver.zero) x_4
  (x_6.getD x_13.toNat (Route.mk (0 : Int) (0 : Int) [])).stops x_8).legs (mkS x ((findD (x_6.getD x_13.toNat (Route.mk (0 : Int) (0 : Int) [])).driver x_2).getD FK.driver.zero) x_4 (x_6.getD x_13.toNat (Route.mk (0 : Int) (0 : Int)
  [])).stops x_8).pre (legO x_8 false) (legO x_8 true) (mkS x ((findD (x_6.getD x_13.toNat (Route.mk (0 : Int) (0 : Int) [])).driver x_2).getD FK.driver.zero) x_4 (x_6.getD x_13.toNat (Route.mk (0 : Int) (0 : Int) [])).stops x_8).full)
  (x_6.getD x_13.toNat (Route.mk (0 : Int) (0 : Int) [])).served (wrap (x_9 - x_11))).steps)) true (wrap (x_13 + (1 : Int))) (hspot (bestS (SearchD.mk x ((findD (x_6.getD x_13.toNat (Route.mk (0 : Int) (0 : Int) [])).driver x_2).getD
  FK.driver.zero) (mkS x ((findD (x_6.getD x_13.toNat (Route.mk (0 : Int) (0 : Int) [])).driver x_2).getD FK.driver.zero) x_4 (x_6.getD x_13.toNat (Route.mk (0 : Int) (0 : Int) [])).stops x_8).legs (mkS x ((findD (x_6.getD x_13.toNat
  (Route.mk (0 : Int) (0 : Int) [])).driver x_2).getD FK.driver.zero) x_4 (x_6.getD x_13.toNat (Route.mk (0 : Int) (0 : Int) [])).stops x_8).pre (legO x_8 false) (legO x_8 true) (mkS x ((findD (x_6.getD x_13.toNat (Route.mk (0 : Int) (0 :
  Int) [])).driver x_2).getD FK.driver.zero) x_4 (x_6.getD x_13.toNat (Route.mk (0 : Int) (0 : Int) [])).stops x_8).full) (x_6.getD x_13.toNat (Route.mk (0 : Int) (0 : Int) [])).served (wrap (x_9 - x_11)))).driver (hspot (bestS (SearchD.mk x
  ((findD (x_6.getD x_13.toNat (Route.mk (0 : Int) (0 : Int) [])).driver x_2).getD FK.driver.zero) (mkS x ((findD (x_6.getD x_13.toNat (Route.mk (0 : Int) (0 : Int) [])).driver x_2).getD FK.driver.zero) x_4 (x_6.getD x_13.toNat (Route.mk (0 :
  Int) (0 : Int) [])).stops x_8).legs (mkS x ((findD (x_6.getD x_13.toNat (Route.mk (0 : Int) (0 : Int) [])).driver x_2).getD FK.driver.zero) x_4 (x_6.getD x_13.toNat (Route.mk (0 : Int) (0 : Int) [])).stops x_8).pre (legO x_8 false) (legO
  x_8 true) (mkS x ((findD (x_6.getD x_13.toNat (Route.mk (0 : Int) (0 : Int) [])).driver x_2).getD FK.driver.zero) x_4 (x_6.getD x_13.toNat (Route.mk (0 : Int) (0 : Int) [])).stops x_8).full) (x_6.getD x_13.toNat (Route.mk (0 : Int) (0 :
  Int) [])).served (wrap (x_9 - x_11)))).pick (hspot (bestS (SearchD.mk x ((findD (x_6.getD x_13.toNat (Route.mk (0 : Int) (0 : Int) [])).driver x_2).getD FK.driver.zero) (mkS x ((findD (x_6.getD x_13.toNat (Route.mk (0 : Int) (0 : Int)
  [])).driver x_2).getD FK.driver.zero) x_4 (x_6.getD x_13.toNat (Route.mk (0 : Int) (0 : Int) [])).stops x_8).legs (mkS x ((findD (x_6.getD x_13.toNat (Route.mk (0 : Int) (0 : Int) [])).driver x_2).getD FK.driver.zero) x_4 (x_6.getD
  x_13.toNat (Route.mk (0 : Int) (0 : Int) [])).stops x_8).pre (legO x_8 false) (legO x_8 true) (mkS x ((findD (x_6.getD x_13.toNat (Route.mk (0 : Int) (0 : Int) [])).driver x_2).getD FK.driver.zero) x_4 (x_6.getD x_13.toNat (Route.mk (0 :
  Int) (0 : Int) [])).stops x_8).full) (x_6.getD x_13.toNat (Route.mk (0 : Int) (0 : Int) [])).served (wrap (x_9 - x_11)))).drop (hspot (bestS (SearchD.mk x ((findD (x_6.getD x_13.toNat (Route.mk (0 : Int) (0 : Int) [])).driver x_2).getD
  FK.driver.zero) (mkS x ((findD (x_6.getD x_13.toNat (Route.mk (0 : Int) (0 : Int) [])).driver x_2).getD FK.driver.zero) x_4 (x_6.getD x_13.toNat (Route.mk (0 : Int) (0 : Int) [])).stops x_8).legs (mkS x ((findD (x_6.getD x_13.toNat
  (Route.mk (0 : Int) (0 : Int) [])).driver x_2).getD FK.driver.zero) x_4 (x_6.getD x_13.toNat (Route.mk (0 : Int) (0 : Int) [])).stops x_8).pre (legO x_8 false) (legO x_8 true) (mkS x ((findD (x_6.getD x_13.toNat (Route.mk (0 : Int) (0 :
  Int) [])).driver x_2).getD FK.driver.zero) x_4 (x_6.getD x_13.toNat (Route.mk (0 : Int) (0 : Int) [])).stops x_8).full) (x_6.getD x_13.toNat (Route.mk (0 : Int) (0 : Int) [])).served (wrap (x_9 - x_11)))).cost < μ x_11 x_12 x_13 x_14 x_15
  x_16 x_17)) ∧ ((bestS (SearchD.mk x ((findD (x_6.getD x_13.toNat (Route.mk (0 : Int) (0 : Int) [])).driver x_2).getD FK.driver.zero) (mkS x ((findD (x_6.getD x_13.toNat (Route.mk (0 : Int) (0 : Int) [])).driver x_2).getD FK.driver.zero) x_4
  (x_6.getD x_13.toNat (Route.mk (0 : Int) (0 : Int) [])).stops x_8).legs (mkS x ((findD (x_6.getD x_13.toNat (Route.mk (0 : Int) (0 : Int) [])).driver x_2).getD FK.driver.zero) x_4 (x_6.getD x_13.toNat (Route.mk (0 : Int) (0 : Int)
  [])).stops x_8).pre (legO x_8 false) (legO x_8 true) (mkS x ((findD (x_6.getD x_13.toNat (Route.mk (0 : Int) (0 : Int) [])).driver x_2).getD FK.driver.zero) x_4 (x_6.getD x_13.toNat (Route.mk (0 : Int) (0 : Int) [])).stops x_8).full)
  (x_6.getD x_13.toNat (Route.mk (0 : Int) (0 : Int) [])).served (wrap (x_9 - x_11))).found = !true → ((x_9 = x_9 ∧ wrap (x_11 + (bestS (SearchD.mk x ((findD (x_6.getD x_13.toNat (Route.mk (0 : Int) (0 : Int) [])).driver x_2).getD
  FK.driver.zero) (mkS x ((findD (x_6.getD x_13.toNat (Route.mk (0 : Int) (0 : Int) [])).driver x_2).getD FK.driver.zero) x_4 (x_6.getD x_13.toNat (Route.mk (0 : Int) (0 : Int) [])).stops x_8).legs (mkS x ((findD (x_6.getD x_13.toNat
  (Route.mk (0 : Int) (0 : Int) [])).driver x_2).getD FK.driver.zero) x_4 (x_6.getD x_13.toNat (Route.mk (0 : Int) (0 : Int) [])).stops x_8).pre (legO x_8 false) (legO x_8 true) (mkS x ((findD (x_6.getD x_13.toNat (Route.mk (0 : Int) (0 :
  Int) [])).driver x_2).getD FK.driver.zero) x_4 (x_6.getD x_13.toNat (Route.mk (0 : Int) (0 : Int) [])).stops x_8).full) (x_6.getD x_13.toNat (Route.mk (0 : Int) (0 : Int) [])).served (wrap (x_9 - x_11))).steps) = wrap (x_11 + (bestS
  (SearchD.mk x ((findD (x_6.getD x_13.toNat (Route.mk (0 : Int) (0 : Int) [])).driver x_2).getD FK.driver.zero) (mkS x ((findD (x_6.getD x_13.toNat (Route.mk (0 : Int) (0 : Int) [])).driver x_2).getD FK.driver.zero) x_4 (x_6.getD x_13.toNat
  (Route.mk (0 : Int) (0 : Int) [])).stops x_8).legs (mkS x ((findD (x_6.getD x_13.toNat (Route.mk (0 : Int) (0 : Int) [])).driver x_2).getD FK.driver.zero) x_4 (x_6.getD x_13.toNat (Route.mk (0 : Int) (0 : Int) [])).stops x_8).pre (legO x_8
  false) (legO x_8 true) (mkS x ((findD (x_6.getD x_13.toNat (Route.mk (0 : Int) (0 : Int) [])).driver x_2).getD FK.driver.zero) x_4 (x_6.getD x_13.toNat (Route.mk (0 : Int) (0 : Int) [])).stops x_8).full) (x_6.getD x_13.toNat (Route.mk (0 :
  Int) (0 : Int) [])).served (wrap (x_9 - x_11))).steps) ∧ x_12 = x_12 ∧ (↑x_6.length : Int) = (↑x_6.length : Int) ∧ wrap (x_13 + (1 : Int)) = wrap (x_13 + (1 : Int))) ∧ (x.n = x.n ∧ (x_8.id = x_8.id ∧ x_8.size = x_8.size ∧ x_8.pp = x_8.pp ∧
  x_8.pf = x_8.pf ∧ x_8.pt = x_8.pt ∧ x_8.ps = x_8.ps ∧ x_8.dp = x_8.dp ∧ x_8.df = x_8.df ∧ x_8.dt = x_8.dt ∧ x_8.ds = x_8.ds) ∧ ((0 : Int) = (0 : Int) ∧ (0 : Int) = (0 : Int) ∧ (0 : Int) = (0 : Int) ∧ (0 : Int) = (0 : Int)) ∧ x_14 = x_14 ∧
  x_15 = x_15 ∧ x_16 = x_16 ∧ x_17 = x_17) ∧ x.l = x.l ∧ x_6 = x_6 ∧ x_4 = x_4 ∧ x_2 = x_2) ∧ inv (wrap (x_11 + (bestS (SearchD.mk x ((findD (x_6.getD x_13.toNat (Route.mk (0 : Int) (0 : Int) [])).driver x_2).getD FK.driver.zero) (mkS x
  ((findD (x_6.getD x_13.toNat (Route.mk (0 : Int) (0 : Int) [])).driver x_2).getD FK.driver.zero) x_4 (x_6.getD x_13.toNat (Route.mk (0 : Int) (0 : Int) [])).stops x_8).legs (mkS x ((findD (x_6.getD x_13.toNat (Route.mk (0 : Int) (0 : Int)
  [])).driver x_2).getD FK.driver.zero) x_4 (x_6.getD x_13.toNat (Route.mk (0 : Int) (0 : Int) [])).stops x_8).pre (legO x_8 false) (legO x_8 true) (mkS x ((findD (x_6.getD x_13.toNat (Route.mk (0 : Int) (0 : Int) [])).driver x_2).getD
  FK.driver.zero) x_4 (x_6.getD x_13.toNat (Route.mk (0 : Int) (0 : Int) [])).stops x_8).full) (x_6.getD x_13.toNat (Route.mk (0 : Int) (0 : Int) [])).served (wrap (x_9 - x_11))).steps)) x_12 (wrap (x_13 + (1 : Int))) x_14 x_15 x_16 x_17 ∧ μ
  (wrap (x_11 + (bestS (SearchD.mk x ((findD (x_6.getD x_13.toNat (Route.mk (0 : Int) (0 : Int) [])).driver x_2).getD FK.driver.zero) (mkS x ((findD (x_6.getD x_13.toNat (Route.mk (0 : Int) (0 : Int) [])).driver x_2).getD FK.driver.zero) x_4
  (x_6.getD x_13.toNat (Route.mk (0 : Int) (0 : Int) [])).stops x_8).legs (mkS x ((findD (x_6.getD x_13.toNat (Route.mk (0 : Int) (0 : Int) [])).driver x_2).getD FK.driver.zero) x_4 (x_6.getD x_13.toNat (Route.mk (0 : Int) (0 : Int)
  [])).stops x_8).pre (legO x_8 false) (legO x_8 true) (mkS x ((findD (x_6.getD x_13.toNat (Route.mk (0 : Int) (0 : Int) [])).driver x_2).getD FK.driver.zero) x_4 (x_6.getD x_13.toNat (Route.mk (0 : Int) (0 : Int) [])).stops x_8).full)
  (x_6.getD x_13.toNat (Route.mk (0 : Int) (0 : Int) [])).served (wrap (x_9 - x_11))).steps)) x_12 (wrap (x_13 + (1 : Int))) x_14 x_15 x_16 x_17 < μ x_11 x_12 x_13 x_14 x_15 x_16 x_17))) ∧ (((findD (x_6.getD x_13.toNat (Route.mk (0 : Int) (0
  : Int) [])).driver x_2).getD FK.driver.zero).retired = !false → ((x_9 = x_9 ∧ x_11 = x_11 ∧ x_12 = x_12 ∧ (↑x_6.length : Int) = (↑x_6.length : Int) ∧ wrap (x_13 + (1 : Int)) = wrap (x_13 + (1 : Int))) ∧ (x.n = x.n ∧ (x_8.id = x_8.id ∧
  x_8.size = x_8.size ∧ x_8.pp = x_8.pp ∧ x_8.pf = x_8.pf ∧ x_8.pt = x_8.pt ∧ x_8.ps = x_8.ps ∧ x_8.dp = x_8.dp ∧ x_8.df = x_8.df ∧ x_8.dt = x_8.dt ∧ x_8.ds = x_8.ds) ∧ ((0 : Int) = (0 : Int) ∧ (0 : Int) = (0 : Int) ∧ (0 : Int) = (0 : Int) ∧
  (0 : Int) = (0 : Int)) ∧ x_14 = x_14 ∧ x_15 = x_15 ∧ x_16 = x_16 ∧ x_17 = x_17) ∧ x.l = x.l ∧ x_6 = x_6 ∧ x_4 = x_4 ∧ x_2 = x_2) ∧ inv x_11 x_12 (wrap (x_13 + (1 : Int))) x_14 x_15 x_16 x_17 ∧ μ x_11 x_12 (wrap (x_13 + (1 : Int))) x_14 x_15
  x_16 x_17 < μ x_11 x_12 x_13 x_14 x_15 x_16 x_17)) ∧ (decide (x_13 < (↑x_6.length : Int)) = false → ((!x_12) = true → ((0 : Int) = (hspot (tellH (lookP (some x) x_2 x_4 x_6 x_8 x_9)).fst).driver ∧ (0 : Int) = (hspot (tellH (lookP (some x)
  x_2 x_4 x_6 x_8 x_9)).fst).pick ∧ (0 : Int) = (hspot (tellH (lookP (some x) x_2 x_4 x_6 x_8 x_9)).fst).drop ∧ (0 : Int) = (hspot (tellH (lookP (some x) x_2 x_4 x_6 x_8 x_9)).fst).cost) ∧ x_11 = (tellH (lookP (some x) x_2 x_4 x_6 x_8
  x_9)).fst.steps ∧ (20 : Int) = (tellH (lookP (some x) x_2 x_4 x_6 x_8 x_9)).snd) ∧ ((!x_12) = false → (x_14 = (hspot (tellH (lookP (some x) x_2 x_4 x_6 x_8 x_9)).fst).driver ∧ x_15 = (hspot (tellH (lookP (some x) x_2 x_4 x_6 x_8
  x_9)).fst).pick ∧ x_16 = (hspot (tellH (lookP (some x) x_2 x_4 x_6 x_8 x_9)).fst).drop ∧ x_17 = (hspot (tellH (lookP (some x) x_2 x_4 x_6 x_8 x_9)).fst).cost) ∧ x_11 = (tellH (lookP (some x) x_2 x_4 x_6 x_8 x_9)).fst.steps ∧ (0 : Int) =
  (tellH (lookP (some x) x_2 x_4 x_6 x_8 x_9)).snd))
theorem look_told (hc : CsOk Try.prog look_cs) (h : look_vc) : Told Try.prog 35 look_con := told (A := look_la) tabOk mixed hc Try.func35 (by kernel_rfl) (by kernel_rfl) h
def cheap_vc : Prop :=
  (∀ (x : List Driver), LenOk x.length → ∀ (x_2 : List Order), LenOk x_2.length → ∀ (x_4 : List Route), (LenOk x_4.length ∧ ∀ (r : Route), List.Mem r x_4 → LenOk r.stops.length) → ∀ (x_6 : Order) (x_7 : Int), (∀ (x : MapD), none = some x →
  MapOk x) → (∀ (x : MapD), none = some x → MapOk x) ∧ ((!good (cfauR (makeP none x x_2 x_4))) = false → (∀ (x : MapD), none = some x → MapOk x) ∧ ((!askedP none x_2 x_6 x_7) = true → ((0 : Int) = (hspot (cheapP none x x_2 x_4 x_6
  x_7).fst).driver ∧ (0 : Int) = (hspot (cheapP none x x_2 x_4 x_6 x_7).fst).pick ∧ (0 : Int) = (hspot (cheapP none x x_2 x_4 x_6 x_7).fst).drop ∧ (0 : Int) = (hspot (cheapP none x x_2 x_4 x_6 x_7).fst).cost) ∧ (0 : Int) = (cheapP none x x_2
  x_4 x_6 x_7).fst.steps ∧ (1 : Int) = (cheapP none x x_2 x_4 x_6 x_7).snd) ∧ ((!askedP none x_2 x_6 x_7) = false → LookPre none x_4 x_7 ∧ ((hspot (tellH (lookP none x x_2 x_4 x_6 x_7)).fst).driver = (hspot (cheapP none x x_2 x_4 x_6
  x_7).fst).driver ∧ (hspot (tellH (lookP none x x_2 x_4 x_6 x_7)).fst).pick = (hspot (cheapP none x x_2 x_4 x_6 x_7).fst).pick ∧ (hspot (tellH (lookP none x x_2 x_4 x_6 x_7)).fst).drop = (hspot (cheapP none x x_2 x_4 x_6 x_7).fst).drop ∧
  (hspot (tellH (lookP none x x_2 x_4 x_6 x_7)).fst).cost = (hspot (cheapP none x x_2 x_4 x_6 x_7).fst).cost) ∧ (tellH (lookP none x x_2 x_4 x_6 x_7)).fst.steps = (cheapP none x x_2 x_4 x_6 x_7).fst.steps ∧ (tellH (lookP none x x_2 x_4 x_6
  x_7)).snd = (cheapP none x x_2 x_4 x_6 x_7).snd)) ∧ ((!good (cfauR (makeP none x x_2 x_4))) = !false → ((0 : Int) = (hspot (cheapP none x x_2 x_4 x_6 x_7).fst).driver ∧ (0 : Int) = (hspot (cheapP none x x_2 x_4 x_6 x_7).fst).pick ∧ (0 :
  Int) = (hspot (cheapP none x x_2 x_4 x_6 x_7).fst).drop ∧ (0 : Int) = (hspot (cheapP none x x_2 x_4 x_6 x_7).fst).cost) ∧ (0 : Int) = (cheapP none x x_2 x_4 x_6 x_7).fst.steps ∧ (1 : Int) = (cheapP none x x_2 x_4 x_6 x_7).snd)) ∧ ∀ (x :
  MapD), LenOk x.l.length → ∀ (x_2 : List Driver), LenOk x_2.length → ∀ (x_4 : List Order), LenOk x_4.length → ∀ (x_6 : List Route), (LenOk x_6.length ∧ ∀ (r : Route), List.Mem r x_6 → LenOk r.stops.length) → ∀ (x_8 : Order) (x_9 : Int), (∀
  (x_10 : MapD), some x = some x_10 → MapOk x_10) → (∀ (x_11 : MapD), some x = some x_11 → MapOk x_11) ∧ ((!good (cfauR (makeP (some x) x_2 x_4 x_6))) = false → (∀ (x_12 : MapD), some x = some x_12 → MapOk x_12) ∧ ((!askedP (some x) x_4 x_8
  x_9) = true → ((0 : Int) = (hspot (cheapP (some x) x_2 x_4 x_6 x_8 x_9).fst).driver ∧ (0 : Int) = (hspot (cheapP (some x) x_2 x_4 x_6 x_8 x_9).fst).pick ∧ (0 : Int) = (hspot (cheapP (some x) x_2 x_4 x_6 x_8 x_9).fst).drop ∧ (0 : Int) =
  (hspot (cheapP (some x) x_2 x_4 x_6 x_8 x_9).fst).cost) ∧ (0 : Int) = (cheapP (some x) x_2 x_4 x_6 x_8 x_9).fst.steps ∧ (1 : Int) = (cheapP (some x) x_2 x_4 x_6 x_8 x_9).snd) ∧ ((!askedP (some x) x_4 x_8 x_9) = false → LookPre (some x) x_6
  x_9 ∧ ((hspot (tellH (lookP (some x) x_2 x_4 x_6 x_8 x_9)).fst).driver = (hspot (cheapP (some x) x_2 x_4 x_6 x_8 x_9).fst).driver ∧ (hspot (tellH (lookP (some x) x_2 x_4 x_6 x_8 x_9)).fst).pick = (hspot (cheapP (some x) x_2 x_4 x_6 x_8
  x_9).fst).pick ∧ (hspot (tellH (lookP (some x) x_2 x_4 x_6 x_8 x_9)).fst).drop = (hspot (cheapP (some x) x_2 x_4 x_6 x_8 x_9).fst).drop ∧ (hspot (tellH (lookP (some x) x_2 x_4 x_6 x_8 x_9)).fst).cost = (hspot (cheapP (some x) x_2 x_4 x_6
  x_8 x_9).fst).cost) ∧ (tellH (lookP (some x) x_2 x_4 x_6 x_8 x_9)).fst.steps = (cheapP (some x) x_2 x_4 x_6 x_8 x_9).fst.steps ∧ (tellH (lookP (some x) x_2 x_4 x_6 x_8 x_9)).snd = (cheapP (some x) x_2 x_4 x_6 x_8 x_9).snd)) ∧ ((!good (cfauR
  (makeP (some x) x_2 x_4 x_6))) = !false → ((0 : Int) = (hspot (cheapP (some x) x_2 x_4 x_6 x_8 x_9).fst).driver ∧ (0 : Int) = (hspot (cheapP (some x) x_2 x_4 x_6 x_8 x_9).fst).pick ∧ (0 : Int) = (hspot (cheapP (some x) x_2 x_4 x_6 x_8
  x_9).fst).drop ∧ (0 : Int) = (hspot (cheapP (some x) x_2 x_4 x_6 x_8 x_9).fst).cost) ∧ (0 : Int) = (cheapP (some x) x_2 x_4 x_6 x_8 x_9).fst.steps ∧ (1 : Int) = (cheapP (some x) x_2 x_4 x_6 x_8 x_9).snd)
theorem cheap_told (hc : CsOk Try.prog cheap_cs) (h : cheap_vc) : Told Try.prog 17 cheap_con := told (A := cheap_la) tabOk mixed hc Try.func17 (by kernel_rfl) (by kernel_rfl) h
end Go.Eng

/- An order's place looked for: the functions that look. -/
set_option linter.unusedVariables false
set_option linter.unusedSimpArgs false
namespace Go.Eng
open Go Go.Proofs
theorem legOf_ok : legOf_vc := by
  unfold legOf_vc
  intro o b
  cases b <;> simp [legO]
theorem legOf_t : Told Try.prog 54 legOf_con := legOf_told csOk_nil legOf_ok
theorem step_ok : step_vc := by
  unfold step_vc
  simp only [bad_false, int0, nilOf, decide_eq_true_eq, decide_eq_false_iff_not, Bool.not_eq_true', Bool.not_eq_false', Bool.not_true, Bool.not_false, Bool.false_eq_true, Bool.true_eq_false, eq_self, true_and, and_true, false_or, or_false, false_implies, true_implies, implies_true, Int.not_lt, Int.not_le, gt_iff_lt, ge_iff_le, ne_eq]
  intro x _ s l hm
  refine ⟨fun y hy => by injection hy with hy; subst hy; exact hm, fun h => ⟨fun h2 => ?_, fun h2 => ?_⟩, fun h => ?_⟩
  · refine ⟨⟨rfl, rfl, rfl, rfl⟩, ?_⟩
    unfold stepS
    dsimp only
    rw [show (stepB x.m s l).2 = true from h, decide_eq_true (show (stepN x.m s l).now ≤ x.d.hi from h2)]
    rfl
  · have : ¬ (wrap ((begin_ ⟨l.lo, l.hi⟩ (wrap (s.now + (mtime (some x.m) s.pos l.pl).1))).1 + l.sv) ≤ x.d.hi) := by omega
    simp [stepS, stepN, stepB, stepT, h, this]
  · simp [stepS, stepN, stepB, stepT, h]
theorem step_t : Told Try.prog 55 step_con := step_told (csOk_cons time_t (csOk_cons begin_t csOk_nil)) step_ok
theorem runS_false {m : MapD} {d : Driver} {s : State} : ∀ (l : List Leg), runS m d (s, false) l = (s, false)
  | [] => rfl
  | l :: ls => by rw [runS]; rfl
theorem runS_true {m : MapD} {d : Driver} {s : State} {l : Leg} {ls : List Leg} : runS m d (s, true) (l :: ls) = runS m d (stepS m d s l) ls := by rw [runS]; rfl
theorem drop_cut {α : Type} (d : α) {l : List α} {k j : Nat} (hk : k < j) (hj : j ≤ l.length) : (l.drop k).take (j - k) = l.getD k d :: (l.drop (k + 1)).take (j - (k + 1)) := by
  have h1 : l.drop k = l.getD k d :: l.drop (k + 1) := by
    rw [List.drop_eq_getElem_cons (by omega : k < l.length)]
    simp [List.getD, (by omega : k < l.length)]
  rw [h1, show j - k = (j - (k + 1)) + 1 by omega, List.take_succ_cons]
theorem price_ok : price_vc := by
  unfold price_vc
  simp only [bad_false, int0, nilOf, decide_eq_true_eq, decide_eq_false_iff_not, Bool.not_eq_true', Bool.not_eq_false', Bool.not_true, Bool.not_false, Bool.false_eq_true, Bool.true_eq_false, eq_self, true_and, and_true, false_or, or_false, false_implies, true_implies, implies_true, Int.not_lt, Int.not_le, gt_iff_lt, ge_iff_le, ne_eq]
  intro x hx i j hp
  obtain ⟨hm, ⟨i0, i1⟩, hj, hpre⟩ := hp
  have hl := hx.2.1.le
  refine ⟨⟨i0, by omega⟩, by omega, hm, ?_⟩
  have fls : ∀ {s : State} {l l' : List Leg}, runS x.m x.d (s, false) l = priceR x i j → runS x.m x.d (s, false) l' = priceR x i j := fun h => by rw [runS_false] at h ⊢; exact h
  refine ⟨fun ok a b c e => runS x.m x.d (⟨a, b, c, e⟩, ok) (x.drop :: x.legs.drop j.toNat) = priceR x i j,
    ⟨fun ok k a b c e => i ≤ k ∧ k ≤ j ∧ runS x.m x.d (⟨a, b, c, e⟩, ok) ((x.legs.drop k.toNat).take (j.toNat - k.toNat) ++ x.drop :: x.legs.drop j.toNat) = priceR x i j, fun _ k _ _ _ _ => (j - k).toNat, ⟨Int.le_refl _, i1, rfl⟩, fun ok k a b c e hI => ⟨fun hk => ⟨fun hok => ?_, fun hok => ?_⟩, fun hk => ?_⟩⟩,
    fun ok a b c e hA => ⟨fun ok a b c e => runS x.m x.d (⟨a, b, c, e⟩, ok) (x.legs.drop j.toNat) = priceR x i j, ⟨fun hok => ?_, fun hok => ?_⟩, fun ok a b c e hB => ?_⟩⟩
  · obtain ⟨k0, k1, hI⟩ := hI
    subst hok
    have w1 : wrap (k + 1) = k + 1 := wrap_id (by omega) (by omega)
    have e1 : (k + 1).toNat = k.toNat + 1 := by omega
    rw [drop_cut (FK.zero .leg) (by omega : k.toNat < j.toNat) (by omega), List.cons_append, runS_true] at hI
    rw [w1]
    refine ⟨⟨by omega, by omega⟩, by omega, hm, ⟨by omega, by omega, ?_⟩, by dsimp only; omega⟩
    rw [e1]
    exact hI
  · obtain ⟨k0, k1, hI⟩ := hI
    subst hok
    exact fls hI
  · obtain ⟨k0, k1, hI⟩ := hI
    have : k = j := by omega
    subst this
    rw [Nat.sub_self, List.take_zero, List.nil_append] at hI
    exact hI
  · subst hok
    rw [runS_true] at hA
    exact ⟨hm, hA⟩
  · subst hok
    exact fls hA
  · have fin : ∀ (ok : Bool) (a b c e : Int), (⟨⟨a, b, c, e⟩, ok⟩ : State × Bool) = priceR x i j →
        ((0 : Int) ≤ (x.legs.length : Int) ∧ (x.legs.length : Int) < (x.pre.length : Int)) ∧ ((x.legs.length : Int)).toNat < x.pre.length ∧
          (ok = true → wrap (e - (x.pre.getD ((x.legs.length : Int)).toNat (FK.zero .state)).way) = (priceS x i j).1 ∧ (!x.full) = (priceS x i j).2) ∧
          (ok = false → wrap (e - (x.pre.getD ((x.legs.length : Int)).toNat (FK.zero .state)).way) = (priceS x i j).1 ∧ false = (priceS x i j).2) := by
      intro ok a b c e h
      have e1 : (priceS x i j).1 = wrap (e - (x.pre.getD x.legs.length sz).way) := by unfold priceS; rw [← h]
      have e2 : (priceS x i j).2 = (ok && !x.full) := by unfold priceS; rw [← h]
      rw [e1, e2, Int.toNat_natCast]
      refine ⟨⟨by omega, by omega⟩, by omega, fun hok => ⟨rfl, by rw [hok, Bool.true_and]⟩, fun hok => ⟨rfl, by rw [hok, Bool.false_and]⟩⟩
    refine ⟨fun ok k a b c e => j ≤ k ∧ k ≤ (x.legs.length : Int) ∧ runS x.m x.d (⟨a, b, c, e⟩, ok) (x.legs.drop k.toNat) = priceR x i j, fun _ k _ _ _ _ => ((x.legs.length : Int) - k).toNat, ⟨Int.le_refl _, hj, hB⟩, fun ok k a b c e hI => ⟨fun hk => ⟨fun hok => ?_, fun hok => ?_⟩, fun hk => ?_⟩⟩
    · obtain ⟨k0, k1, hI⟩ := hI
      subst hok
      have w1 : wrap (k + 1) = k + 1 := wrap_id (by omega) (by omega)
      have e1 : (k + 1).toNat = k.toNat + 1 := by omega
      have hdr : x.legs.drop k.toNat = x.legs.getD k.toNat (FK.zero .leg) :: x.legs.drop (k.toNat + 1) := by
        rw [List.drop_eq_getElem_cons (by omega : k.toNat < x.legs.length)]; simp [List.getD, (by omega : k.toNat < x.legs.length)]
      rw [hdr, runS_true] at hI
      rw [w1]
      refine ⟨⟨by omega, by omega⟩, by omega, hm, ⟨by omega, by omega, ?_⟩, by dsimp only; omega⟩
      rw [e1]
      exact hI
    · obtain ⟨k0, k1, hI⟩ := hI
      subst hok
      rw [runS_false] at hI
      exact fin _ _ _ _ _ hI
    · obtain ⟨k0, k1, hI⟩ := hI
      have e1 : k.toNat = x.legs.length := by omega
      rw [e1, List.drop_length, runS] at hI
      exact fin _ _ _ _ _ hI
theorem price_t : Told Try.prog 56 price_con := price_told (csOk_cons step_t csOk_nil) price_ok
theorem rowP_length {i : Int} : ∀ (k : Nat) (j : Int), (rowP i k j).length = k
  | 0, _ => rfl
  | k + 1, j => by simp [rowP, rowP_length k]
theorem pairsP_length : ∀ (k : Nat) (i : Int), (pairsP k i).length ≤ k * k
  | 0, _ => Nat.le_refl _
  | k + 1, i => by
    have := pairsP_length k (i + 1)
    rw [pairsP, List.length_append, rowP_length, Nat.succ_mul, Nat.mul_succ]
    omega
theorem rowP_next {i j n : Int} (h : j ≤ n) : rowP i (n + 1 - j).toNat j = (i, j) :: rowP i (n + 1 - (j + 1)).toNat (j + 1) := by
  rw [show (n + 1 - j).toNat = (n + 1 - (j + 1)).toNat + 1 by omega, rowP]
theorem pairsP_next {i n : Int} (h : i ≤ n) : pairsP (n + 1 - i).toNat i = rowP i (n + 1 - i).toNat i ++ pairsP (n + 1 - (i + 1)).toNat (i + 1) := by
  rw [show (n + 1 - i).toNat = (n + 1 - (i + 1)).toNat + 1 by omega, pairsP]
theorem sbest_ok : sbest_vc := by
  unfold sbest_vc
  simp only [bad_false, int0, nilOf, decide_eq_true_eq, decide_eq_false_iff_not, Bool.not_eq_true', Bool.not_eq_false', Bool.not_true, Bool.not_false, Bool.false_eq_true, Bool.true_eq_false, eq_self, true_and, and_true, false_or, or_false, false_implies, true_implies, implies_true, Int.not_lt, Int.not_le, gt_iff_lt, ge_iff_le, ne_eq]
  intro x hx s b hp
  obtain ⟨hm, s0, hl, hpre⟩ := hp
  have hR : bestS x s b = huntGo x.d.id (priceS x) b (pairsP ((x.legs.length : Int) + 1 - s).toNat s) hz := rfl
  generalize bestS x s b = R at *
  have hlen0 : (pairsP ((x.legs.length : Int) + 1 - s).toNat s).length ≤ 1001 * 1001 := by
    refine Nat.le_trans (pairsP_length _ _) (Nat.mul_le_mul ?_ ?_) <;> omega
  refine ⟨fun st f i d p q c => 0 ≤ i ∧ 0 ≤ st ∧ st + (pairsP ((x.legs.length : Int) + 1 - i).toNat i).length ≤ 4000000 ∧ huntGo x.d.id (priceS x) b (pairsP ((x.legs.length : Int) + 1 - i).toNat i) ⟨d, p, q, c, f, st⟩ = R, fun _ _ i _ _ _ _ => ((x.legs.length : Int) + 1 - i).toNat, ⟨s0, Int.le_refl _, by omega, hR.symm⟩, fun st f i d p q c hI => ⟨fun hi => ?_, fun hi => ?_⟩⟩
  · obtain ⟨i0, t0, t1, hI⟩ := hI
    rw [pairsP_next hi] at hI t1
    refine ⟨fun st f j d p q c => i ≤ j ∧ j ≤ (x.legs.length : Int) + 1 ∧ 0 ≤ st ∧ st + (rowP i ((x.legs.length : Int) + 1 - j).toNat j ++ pairsP ((x.legs.length : Int) + 1 - (i + 1)).toNat (i + 1)).length ≤ 4000000 ∧
      huntGo x.d.id (priceS x) b (rowP i ((x.legs.length : Int) + 1 - j).toNat j ++ pairsP ((x.legs.length : Int) + 1 - (i + 1)).toNat (i + 1)) ⟨d, p, q, c, f, st⟩ = R, fun _ _ j _ _ _ _ => ((x.legs.length : Int) + 1 - j).toNat, ⟨Int.le_refl _, by omega, t0, t1, hI⟩, fun st f j d p q c hJ => ⟨fun hj => ?_, fun hj => ?_⟩⟩
    · obtain ⟨j0, j1, u0, u1, hJ⟩ := hJ
      rw [rowP_next hj, List.cons_append] at hJ u1
      rw [List.length_cons] at u1
      rw [huntGo] at hJ
      have w1 : wrap (st + 1) = st + 1 := wrap_id (by omega) (by omega)
      have w2 : wrap (j + 1) = j + 1 := wrap_id (by omega) (by omega)
      rw [w1, w2]
      refine ⟨fun hb => ?_, fun hb => ⟨⟨hm, ⟨i0, j0⟩, by omega, hpre⟩, fun hok => ⟨fun hf => ⟨fun hc => ?_, fun hc => ?_⟩, fun hf => ?_⟩, fun hok => ?_⟩⟩
      · rw [if_pos (by dsimp only; exact hb)] at hJ
        subst hJ
        exact ⟨⟨rfl, rfl, rfl, rfl⟩, rfl, rfl⟩
      all_goals rw [if_neg (by dsimp only; omega)] at hJ
      · rw [huntStep, if_pos (by simp [hok, hc])] at hJ
        exact ⟨⟨by omega, by omega, by omega, by omega, hJ⟩, by dsimp only; omega⟩
      · rw [huntStep, if_neg (by simp [hok, hf]; omega)] at hJ
        exact ⟨⟨by omega, by omega, by omega, by omega, hJ⟩, by dsimp only; omega⟩
      · rw [huntStep, if_pos (by simp [hok, hf])] at hJ
        exact ⟨⟨by omega, by omega, by omega, by omega, hJ⟩, by dsimp only; omega⟩
      · rw [huntStep, if_neg (by simp [hok])] at hJ
        exact ⟨⟨by omega, by omega, by omega, by omega, hJ⟩, by dsimp only; omega⟩
    · obtain ⟨j0, j1, u0, u1, hJ⟩ := hJ
      have hz0 : ((x.legs.length : Int) + 1 - j).toNat = 0 := by omega
      rw [hz0, rowP, List.nil_append] at hJ u1
      have w2 : wrap (i + 1) = i + 1 := wrap_id (by omega) (by omega)
      rw [w2]
      exact ⟨⟨by omega, u0, u1, hJ⟩, by dsimp only; omega⟩
  · obtain ⟨i0, t0, t1, hI⟩ := hI
    have hz0 : ((x.legs.length : Int) + 1 - i).toNat = 0 := by omega
    rw [hz0, pairsP, huntGo] at hI
    subst hI
    exact ⟨⟨rfl, rfl, rfl, rfl⟩, rfl, rfl⟩
theorem sbest_t : Told Try.prog 32 sbest_con := sbest_told (csOk_cons price_t csOk_nil) sbest_ok
theorem preGo_length {m : MapD} {d : Driver} {os : List Order} : ∀ (l : List Stop) (s : State), (preGo m d os s l).length = l.length
  | [], _ => rfl
  | t :: l, s => by simp [preGo, preGo_length l]
theorem made_ok : made_vc := by
  unfold made_vc
  simp only [bad_false, int0, nilOf, decide_eq_true_eq, decide_eq_false_iff_not, Bool.not_eq_true', Bool.not_eq_false', Bool.not_true, Bool.not_false, Bool.false_eq_true, Bool.true_eq_false, eq_self, true_and, and_true, false_or, or_false, false_implies, true_implies, implies_true, Int.not_lt, Int.not_le, gt_iff_lt, ge_iff_le, ne_eq]
  intro m hml d os hos ss hss o hp
  obtain ⟨hm, hl⟩ := hp
  refine ⟨by simp, fun k L Q a b c e => 0 ≤ k ∧ k ≤ ss.length ∧ L = (ss.take k.toNat).map (legT os) ∧ Q.length = k.toNat + 1 ∧ Q ++ preGo m d os ⟨a, b, c, e⟩ (ss.drop k.toNat) = start d :: preGo m d os (start d) ss, fun k _ _ _ _ _ _ => ss.length - k.toNat,
    ⟨Int.le_refl _, by omega, rfl, rfl, rfl⟩, fun k L Q a b c e hI => ⟨fun hk => ?_, fun hk => ?_⟩⟩
  · obtain ⟨k0, k1, hL, hQ, hI⟩ := hI
    have w1 : wrap (k + 1) = k + 1 := wrap_id (by omega) (by omega)
    have hkl : k.toNat < ss.length := by omega
    have hLl : L.length = k.toNat := by rw [hL]; simp; omega
    have e1 : (k + 1).toNat = k.toNat + 1 := by omega
    have hdr : ss.drop k.toNat = ss.getD k.toNat (FK.zero .stop) :: ss.drop (k.toNat + 1) := by
      rw [List.drop_eq_getElem_cons hkl]; simp [List.getD, hkl]
    have htk : ss.take (k.toNat + 1) = ss.take k.toNat ++ [ss.getD k.toNat (FK.zero .stop)] := by
      rw [List.take_add_one]; simp [List.getD, hkl]
    rw [w1]
    rw [hdr, preGo] at hI
    refine ⟨⟨k0, hk⟩, hkl, hm, by rw [hLl]; simp; omega, by rw [hQ]; simp; omega, ⟨by omega, by omega, ?_, ?_, ?_⟩, ?_⟩
    all_goals try rw [e1]
    · rw [htk, List.map_append, hL]; rfl
    · simp [hQ]
    · rw [List.append_assoc]
      exact hI
    · dsimp only; omega
  · obtain ⟨k0, k1, hL, hQ, hI⟩ := hI
    have e1 : k.toNat = ss.length := by omega
    rw [e1, List.drop_length, preGo, List.append_nil] at hI
    rw [e1, List.take_length] at hL
    exact ⟨rfl, hI, hL⟩
theorem made_t : Told Try.prog 31 made_con := made_told (csOk_cons legOf_t (csOk_cons find_t (csOk_cons step_t csOk_nil))) made_ok
theorem asked_ok : asked_vc := by
  have key : ∀ (m : Option MapD) (os : List Order) (o : Order) (b : Int), (∀ x, m = some x → MapOk x) → (∀ x, m = some x → MapOk x) ∧ (orderE m o = 0 → ((findO os o.id).isSome = false → (0 ≤ b → decide (b ≤ 100000) = askedP m os o b) ∧ (b < 0 → false = askedP m os o b)) ∧ ((findO os o.id).isSome = true → false = askedP m os o b)) ∧ (¬ orderE m o = 0 → false = askedP m os o b) := by
    intro m os o b hm
    refine ⟨hm, fun h => ⟨fun h1 => ⟨fun h2 => ?_, fun h2 => ?_⟩, fun h1 => ?_⟩, fun h => ?_⟩
    · simp [askedP, h, h1, h2]
    · have : ¬ (0 ≤ b) := by omega
      simp [askedP, this]
    · simp [askedP, h1]
    · simp [askedP, h]
  unfold asked_vc
  simp only [bad_false, int0, nilOf, decide_eq_true_eq, decide_eq_false_iff_not, Bool.not_eq_true', Bool.not_eq_false', Bool.not_true, Bool.not_false, Bool.false_eq_true, Bool.true_eq_false, eq_self, true_and, and_true, false_or, or_false, false_implies, true_implies, implies_true, Int.not_lt, Int.not_le, gt_iff_lt, ge_iff_le, ne_eq]
  exact ⟨fun os _ o b hm => key none os o b hm, fun m _ os _ o b hm => key (some m) os o b hm⟩
theorem asked_t : Told Try.prog 29 asked_con := asked_told (csOk_cons find_t (csOk_cons order_t csOk_nil)) asked_ok
end Go.Eng

/- An order's place looked for on a route, in a plan. -/
set_option linter.unusedVariables false
set_option linter.unusedSimpArgs false
namespace Go.Eng
open Go Go.Proofs
theorem ibest_ok : ibest_vc := by
  have bad : ∀ (m : Option MapD) (d : Driver) (os : List Order) (r : Route) (o : Order) (b e : Int), barP m d os r o b = e → e ≠ 0 →
      (0 = (hspot (bestP m d os r o b).1).driver ∧ 0 = (hspot (bestP m d os r o b).1).pick ∧ 0 = (hspot (bestP m d os r o b).1).drop ∧ 0 = (hspot (bestP m d os r o b).1).cost) ∧ 0 = (bestP m d os r o b).1.steps ∧ e = (bestP m d os r o b).2 := by
    intro m d os r o b e h he
    have : bestP m d os r o b = (hz, e) := by unfold bestP; rw [if_pos (by rw [h]; exact he), h]
    rw [this]
    exact ⟨⟨rfl, rfl, rfl, rfl⟩, rfl, rfl⟩
  unfold ibest_vc
  simp only [bad_false, int0, nilOf, decide_eq_true_eq, decide_eq_false_iff_not, Bool.not_eq_true', Bool.not_eq_false', Bool.not_true, Bool.not_false, Bool.false_eq_true, Bool.true_eq_false, eq_self, true_and, and_true, false_or, or_false, false_implies, true_implies, implies_true, Int.not_lt, Int.not_le, gt_iff_lt, ge_iff_le, ne_eq]
  refine ⟨fun d os _ r _ o b hm => ⟨hm, fun ha => ⟨fun hd => ⟨fun hs => ⟨fun hl => bad _ _ _ _ _ _ 1 ?_ (by decide), fun hl => ⟨hm, fun hg => bad _ _ _ _ _ _ 1 ?_ (by decide), fun hg => ⟨fun hr => bad _ _ _ _ _ _ 23 ?_ (by decide), fun hr => ⟨fun h78 => bad _ _ _ _ _ _ 10 ?_ (by decide), fun h78 => ?_⟩⟩⟩⟩, fun hs => bad _ _ _ _ _ _ 1 ?_ (by decide)⟩, fun hd => bad _ _ _ _ _ _ 1 ?_ (by decide)⟩, fun ha => bad _ _ _ _ _ _ 1 ?_ (by decide)⟩,
    fun x _ d os _ r _ o b hm => ⟨hm, fun ha => ⟨fun hd => ⟨fun hs => ⟨fun hl => bad _ _ _ _ _ _ 1 ?_ (by decide), fun hl => ⟨hm, fun hg => bad _ _ _ _ _ _ 1 ?_ (by decide), fun hg => ⟨fun hr => bad _ _ _ _ _ _ 23 ?_ (by decide), fun hr => ⟨fun h78 => bad _ _ _ _ _ _ 10 ?_ (by decide), fun h78 => ?_⟩⟩⟩⟩, fun hs => bad _ _ _ _ _ _ 1 ?_ (by decide)⟩, fun hd => bad _ _ _ _ _ _ 1 ?_ (by decide)⟩, fun ha => bad _ _ _ _ _ _ 1 ?_ (by decide)⟩⟩
  · unfold barP; simp [hl]
  · unfold barP; simp [hg]
  · unfold barP; simp [ha, hd, Int.not_lt.2 hs, Int.not_lt.2 hl, hg, hr]
  · unfold barP; simp [ha, hd, Int.not_lt.2 hs, Int.not_lt.2 hl, hg, hr, h78]
  · simp [drive, fauR, good] at hg
  · unfold barP; simp [hs]
  · unfold barP; simp [hd]
  · unfold barP; simp [ha]
  · unfold barP; simp [hl]
  · unfold barP; simp [hg]
  · unfold barP; simp [ha, hd, Int.not_lt.2 hs, Int.not_lt.2 hl, hg, hr]
  · unfold barP; simp [ha, hd, Int.not_lt.2 hs, Int.not_lt.2 hl, hg, hr, h78]
  · have h0 : barP (some x) d os r o b = 0 := by unfold barP; simp [ha, hd, Int.not_lt.2 hs, Int.not_lt.2 hl, hg, hr, Int.not_lt.2 h78]
    have e : bestP (some x) d os r o b = tellH (bestS (mkS x d os r.stops o) r.served b) := by unfold bestP; rw [if_neg (by rw [h0]; decide)]
    rw [e]
    have hmo := hm x rfl
    refine ⟨⟨hmo, by omega⟩, ⟨hmo, hs, ?_, ?_⟩, fun hf => ?_, fun hf => ?_⟩
    · show (r.stops.map (legT os)).length ≤ 1000
      rw [List.length_map]; omega
    · show (start d :: preGo x d os (start d) r.stops).length = (r.stops.map (legT os)).length + 1
      rw [List.length_map, List.length_cons, preGo_length]
    · have hf : (bestS (mkS x d os r.stops o) r.served b).found = false := hf
      unfold tellH
      rw [if_neg (by rw [hf]; decide)]
      exact ⟨⟨rfl, rfl, rfl, rfl⟩, rfl, rfl⟩
    · have hf : (bestS (mkS x d os r.stops o) r.served b).found = true := hf
      unfold tellH
      rw [if_pos hf]
      exact ⟨⟨rfl, rfl, rfl, rfl⟩, rfl, rfl⟩
  · unfold barP; simp [hs]
  · unfold barP; simp [hd]
  · unfold barP; simp [ha]
theorem ibest_t : Told Try.prog 13 ibest_con := ibest_told (csOk_cons asked_t (csOk_cons drive_t (csOk_cons goodF_t (csOk_cons made_t (csOk_cons sbest_t csOk_nil))))) ibest_ok
theorem huntStep_steps {id : Int} {pr : Int → Int → Int × Bool} {h : Hunt} {p : Int × Int} : (huntStep id pr h p).steps = h.steps + 1 := by unfold huntStep; split <;> rfl
theorem huntGo_steps {id b : Int} {pr : Int → Int → Int × Bool} : ∀ (L : List (Int × Int)) (h : Hunt), h.steps ≤ (huntGo id pr b L h).steps ∧ (huntGo id pr b L h).steps ≤ h.steps + L.length
  | [], h => ⟨Int.le_refl _, by simp [huntGo]⟩
  | p :: l, h => by
    rw [huntGo]
    split
    · exact ⟨Int.le_refl _, by simp only [List.length_cons]; omega⟩
    · have := huntGo_steps (id := id) (b := b) (pr := pr) l (huntStep id pr h p)
      rw [huntStep_steps] at this
      simp only [List.length_cons]
      omega
theorem places_length {s : Int} {n : Nat} (hs : 0 ≤ s) (hn : n ≤ 78) : (places_ s n).length ≤ 6241 := by
  refine Nat.le_trans (pairsP_length _ _) ?_
  have : ((n : Int) + 1 - s).toNat ≤ 79 := by omega
  exact Nat.le_trans (Nat.mul_le_mul this this) (by decide)
theorem mkS_legs {m : MapD} {d : Driver} {os : List Order} {ss : List Stop} {o : Order} : (mkS m d os ss o).legs.length = ss.length := by simp [mkS]
theorem mkS_pre {m : MapD} {d : Driver} {os : List Order} {ss : List Stop} {o : Order} : (mkS m d os ss o).pre.length = ss.length + 1 := by simp [mkS, preGo_length]
theorem drop_at {α : Type} (d : α) {l : List α} {k : Nat} (hk : k < l.length) : l.drop k = l.getD k d :: l.drop (k + 1) := by
  rw [List.drop_eq_getElem_cons hk]; simp [List.getD, hk]
theorem tell_yes {h : Hunt} (hf : h.found = true) : tellH h = (h, 0) := by unfold tellH; rw [if_pos hf]
theorem tell_no {h : Hunt} (hf : h.found = false) : tellH h = (⟨0, 0, 0, 0, false, h.steps⟩, 20) := by unfold tellH; rw [if_neg (by rw [hf]; decide)]
theorem look_ok : look_vc := by
  unfold look_vc
  simp only [bad_false, int0, nilOf, decide_eq_true_eq, decide_eq_false_iff_not, Bool.not_eq_true', Bool.not_eq_false', Bool.not_true, Bool.not_false, Bool.false_eq_true, Bool.true_eq_false, eq_self, true_and, and_true, false_or, or_false, false_implies, true_implies, implies_true, Int.not_lt, Int.not_le, gt_iff_lt, ge_iff_le, ne_eq]
  refine ⟨fun ds _ os _ p _ o b hp => (by have := hp.is; cases this), fun x _ ds _ os _ p hpl o b hp => ?_⟩
  have hm := hp.map x rfl
  have hb := hp.b
  have hn := hp.few
  have hR : lookP (some x) ds os p o b = lookGo x ds os o b p hz := rfl
  generalize lookP (some x) ds os p o b = R at *
  let INV : Int → Bool → Int → Int → Int → Int → Int → Prop := fun st f k d q r c => 0 ≤ k ∧ k ≤ p.length ∧ 0 ≤ st ∧ st ≤ 6241 * k ∧ lookGo x ds os o b (p.drop k.toNat) ⟨d, q, r, c, f, st⟩ = R
  have stp : ∀ (st : Int) (f : Bool) (k d q r c : Int) (G : Hunt), 0 ≤ k → k < p.length → 0 ≤ st → st ≤ 6241 * k → 0 ≤ G.steps → G.steps ≤ 6241 → lookGo x ds os o b (p.drop (k.toNat + 1)) (huntJoin ⟨d, q, r, c, f, st⟩ G) = R →
      (G.found = true → (f = true → (G.cost < c → INV (wrap (st + G.steps)) true (wrap (k + 1)) G.driver G.pick G.drop G.cost ∧ p.length - (wrap (k + 1)).toNat < p.length - k.toNat) ∧ (c ≤ G.cost → INV (wrap (st + G.steps)) f (wrap (k + 1)) d q r c ∧ p.length - (wrap (k + 1)).toNat < p.length - k.toNat)) ∧
        (f = false → INV (wrap (st + G.steps)) true (wrap (k + 1)) G.driver G.pick G.drop G.cost ∧ p.length - (wrap (k + 1)).toNat < p.length - k.toNat)) ∧
      (G.found = false → INV (wrap (st + G.steps)) f (wrap (k + 1)) d q r c ∧ p.length - (wrap (k + 1)).toNat < p.length - k.toNat) := by
    intro st f k d q r c G k0 k1 t0 t1 g0 g1 h
    have w1 : wrap (k + 1) = k + 1 := wrap_id (by omega) (by omega)
    have w2 : wrap (st + G.steps) = st + G.steps := wrap_id (by omega) (by omega)
    have e1 : (k + 1).toNat = k.toNat + 1 := by omega
    rw [w1, w2]
    refine ⟨fun hf => ⟨fun hf2 => ⟨fun hc => ⟨⟨by omega, by omega, by omega, by omega, ?_⟩, by omega⟩, fun hc => ⟨⟨by omega, by omega, by omega, by omega, ?_⟩, by omega⟩⟩, fun hf2 => ⟨⟨by omega, by omega, by omega, by omega, ?_⟩, by omega⟩⟩, fun hf => ⟨⟨by omega, by omega, by omega, by omega, ?_⟩, by omega⟩⟩
    · rw [huntJoin, if_pos (by simp [hf, hc])] at h
      rw [e1]; exact h
    · rw [huntJoin, if_neg (by simp [hf, hf2]; omega)] at h
      rw [e1]; exact h
    · rw [huntJoin, if_pos (by simp [hf, hf2])] at h
      rw [e1]; exact h
    · rw [huntJoin, if_neg (by simp [hf])] at h
      rw [e1]; exact h
  refine ⟨INV, fun _ _ k _ _ _ _ => p.length - k.toNat, ⟨Int.le_refl _, by omega, Int.le_refl _, by omega, hR.symm⟩, fun st f k d q r c hI => ⟨fun hk => ?_, fun hk => ?_⟩⟩
  · obtain ⟨k0, k1, t0, t1, hI⟩ := hI
    have hkl : k.toNat < p.length := by omega
    have w1 : wrap (k + 1) = k + 1 := wrap_id (by omega) (by omega)
    have e1 : (k + 1).toNat = k.toNat + 1 := by omega
    rw [drop_at (⟨0, 0, []⟩ : Route) hkl, lookGo] at hI
    have hsv := hp.served _ (getD_mem (⟨0, 0, []⟩ : Route) hkl)
    generalize p.getD k.toNat ⟨0, 0, []⟩ = r' at *
    have skip : closedTo (fdD ds r'.driver) r' = true → INV st f (wrap (k + 1)) d q r c ∧ p.length - (wrap (k + 1)).toNat < p.length - k.toNat := by
      intro hc
      rw [if_pos hc] at hI
      rw [w1]
      exact ⟨⟨by omega, by omega, t0, by omega, by rw [e1]; exact hI⟩, by omega⟩
    refine ⟨⟨k0, hk⟩, hkl, fun hr => ⟨fun h78 => skip (by simp [closedTo, h78]), fun h78 => ?_⟩, fun hr => skip ?_⟩
    · have hnc : ¬ closedTo (fdD ds r'.driver) r' = true := by
        have : (fdD ds r'.driver).retired = false := hr
        simp [closedTo, this, Int.not_lt.2 h78]
      rw [if_neg hnc] at hI
      have wb : wrap (b - st) = b - st := wrap_id (by omega) (by omega)
      rw [wb]
      have hst := huntGo_steps (id := (fdD ds r'.driver).id) (b := b - st) (pr := priceS (mkS x (fdD ds r'.driver) os r'.stops o)) (places_ r'.served (mkS x (fdD ds r'.driver) os r'.stops o).legs.length) hz
      have hpl := places_length (s := r'.served) (n := (mkS x (fdD ds r'.driver) os r'.stops o).legs.length) hsv (by rw [mkS_legs]; omega)
      have hz0 : hz.steps = 0 := rfl
      refine ⟨⟨hm, by omega⟩, ⟨hm, hsv, ?_, ?_⟩, stp st f k d q r c (bestS (mkS x (fdD ds r'.driver) os r'.stops o) r'.served (b - st)) k0 hk t0 t1 ?_ ?_ hI⟩
      · show (mkS x (fdD ds r'.driver) os r'.stops o).legs.length ≤ 1000
        rw [mkS_legs]; omega
      · show (mkS x (fdD ds r'.driver) os r'.stops o).pre.length = (mkS x (fdD ds r'.driver) os r'.stops o).legs.length + 1
        rw [mkS_legs, mkS_pre]
      · unfold bestS
        rw [show (mkS x (fdD ds r'.driver) os r'.stops o).d = fdD ds r'.driver from rfl]
        omega
      · unfold bestS
        rw [show (mkS x (fdD ds r'.driver) os r'.stops o).d = fdD ds r'.driver from rfl]
        omega
    · have : (fdD ds r'.driver).retired = true := hr
      simp [closedTo, this]
  · obtain ⟨k0, k1, t0, t1, hI⟩ := hI
    have e1 : k.toNat = p.length := by omega
    rw [e1, List.drop_length, lookGo] at hI
    subst hI
    refine ⟨fun hf => ?_, fun hf => ?_⟩
    · rw [tell_no hf]; exact ⟨⟨rfl, rfl, rfl, rfl⟩, rfl, rfl⟩
    · rw [tell_yes hf]; exact ⟨⟨rfl, rfl, rfl, rfl⟩, rfl, rfl⟩
theorem look_t : Told Try.prog 35 look_con := look_told (csOk_cons cdriver_t (csOk_cons made_t (csOk_cons sbest_t csOk_nil))) look_ok
/-- A plan with a certificate is a right one. -/
theorem good_make {m : Option MapD} {ds : List Driver} {os : List Order} {p : List Route} (h : good (cfauR (makeP m ds os p)) = true) : ∃ x, m = some x ∧ wellP (some x) ds os p = true ∧ good (cfauR (makeGo x ds os 0 p)) = true := by
  cases m with
  | none => simp [makeP, cfauR, good] at h
  | some x =>
    by_cases hw : wellP (some x) ds os p = true
    · refine ⟨x, rfl, hw, ?_⟩
      rw [show makeP (some x) ds os p = makeGo x ds os 0 p by simp [makeP, hw]] at h
      exact h
    · rw [show makeP (some x) ds os p = .error ⟨0, 1⟩ by simp [makeP, hw]] at h
      simp [cfauR, good] at h
theorem asked_iff {m : Option MapD} {os : List Order} {o : Order} {b : Int} : askedP m os o b = true ↔ orderE m o = 0 ∧ (findO os o.id).isSome = false ∧ 0 ≤ b ∧ b ≤ 100000 := by
  simp [askedP, and_assoc]
theorem cheap_ok : cheap_vc := by
  have key : ∀ (m : Option MapD) (ds : List Driver) (os : List Order) (p : List Route) (o : Order) (b : Int), (∀ x, m = some x → MapOk x) →
      (∀ x, m = some x → MapOk x) ∧
      (good (cfauR (makeP m ds os p)) = true → (∀ x, m = some x → MapOk x) ∧ (askedP m os o b = false → (0 = (hspot (cheapP m ds os p o b).1).driver ∧ 0 = (hspot (cheapP m ds os p o b).1).pick ∧ 0 = (hspot (cheapP m ds os p o b).1).drop ∧ 0 = (hspot (cheapP m ds os p o b).1).cost) ∧ 0 = (cheapP m ds os p o b).1.steps ∧ 1 = (cheapP m ds os p o b).2) ∧
        (askedP m os o b = true → LookPre m p b ∧ ((hspot (tellH (lookP m ds os p o b)).1).driver = (hspot (cheapP m ds os p o b).1).driver ∧ (hspot (tellH (lookP m ds os p o b)).1).pick = (hspot (cheapP m ds os p o b).1).pick ∧ (hspot (tellH (lookP m ds os p o b)).1).drop = (hspot (cheapP m ds os p o b).1).drop ∧ (hspot (tellH (lookP m ds os p o b)).1).cost = (hspot (cheapP m ds os p o b).1).cost) ∧
          (tellH (lookP m ds os p o b)).1.steps = (cheapP m ds os p o b).1.steps ∧ (tellH (lookP m ds os p o b)).2 = (cheapP m ds os p o b).2)) ∧
      (good (cfauR (makeP m ds os p)) = false → (0 = (hspot (cheapP m ds os p o b).1).driver ∧ 0 = (hspot (cheapP m ds os p o b).1).pick ∧ 0 = (hspot (cheapP m ds os p o b).1).drop ∧ 0 = (hspot (cheapP m ds os p o b).1).cost) ∧ 0 = (cheapP m ds os p o b).1.steps ∧ 1 = (cheapP m ds os p o b).2) := by
    intro m ds os p o b hm
    refine ⟨hm, fun hg => ⟨hm, fun ha => ?_, fun ha => ?_⟩, fun hg => ?_⟩
    · have : cheapP m ds os p o b = (hz, 1) := by simp [cheapP, ha]
      rw [this]; exact ⟨⟨rfl, rfl, rfl, rfl⟩, rfl, rfl⟩
    · have : cheapP m ds os p o b = tellH (lookP m ds os p o b) := by simp [cheapP, ha, hg]
      rw [this]
      obtain ⟨x, rfl, hw, _⟩ := good_make hg
      have hR := rightP_iff.1 (wellP_iff.1 hw).2.2.2.1
      have hb := asked_iff.1 ha
      have h8 := hR.1
      refine ⟨⟨rfl, hm, hb.2.2, by omega, fun r hr => ?_⟩, ⟨rfl, rfl, rfl, rfl⟩, rfl, rfl⟩
      exact (okR_mem hR.2 r hr).2.2.2.1
    · have : cheapP m ds os p o b = (hz, 1) := by simp [cheapP, hg]
      rw [this]; exact ⟨⟨rfl, rfl, rfl, rfl⟩, rfl, rfl⟩
  unfold cheap_vc
  simp only [bad_false, int0, nilOf, decide_eq_true_eq, decide_eq_false_iff_not, Bool.not_eq_true', Bool.not_eq_false', Bool.not_true, Bool.not_false, Bool.false_eq_true, Bool.true_eq_false, eq_self, true_and, and_true, false_or, or_false, false_implies, true_implies, implies_true, Int.not_lt, Int.not_le, gt_iff_lt, ge_iff_le, ne_eq]
  exact ⟨fun ds _ os _ p _ o b hm => key none ds os p o b hm, fun x _ ds _ os _ p _ o b hm => key (some x) ds os p o b hm⟩
theorem cheap_t : Told Try.prog 17 cheap_con := cheap_told (csOk_cons cmake_t (csOk_cons goodF_t (csOk_cons asked_t (csOk_cons look_t csOk_nil)))) cheap_ok
end Go.Eng

/- Orders that are known have each their own number; what a driver holds. -/
set_option linter.unusedVariables false
set_option linter.unusedSimpArgs false
namespace Go.Eng
open Go Go.Proofs
def Apart (os : List Order) : Prop := os.Pairwise fun a b => a.id ≠ b.id
theorem known_iff {m : Option MapD} {os : List Order} : knownO m os = true ↔ os.length ≤ 40 ∧ (∀ o ∈ os, orderE m o = 0) ∧ Apart os := by
  constructor
  · intro h
    obtain ⟨h1, h2⟩ := known_at h
    refine ⟨h1, fun o ho => ?_, List.pairwise_iff_getElem.2 fun i j hi hj hij => ?_⟩
    · obtain ⟨k, hk, rfl⟩ := List.getElem_of_mem ho
      have := (h2 k hk).1
      rwa [getD_of hk] at this
    · have := (h2 j hj).2
      rw [getD_of hj] at this
      simp only [idFree, List.all_eq_true, Bool.not_eq_true', decide_eq_false_iff_not] at this
      exact this _ (List.mem_take_iff_getElem.2 ⟨i, by omega, rfl⟩)
  · rintro ⟨h1, h2, h3⟩
    simp only [knownO, okAt, Bool.and_eq_true, decide_eq_true_eq, List.all_eq_true, List.mem_range]
    refine ⟨h1, fun k hk => ?_⟩
    rw [getD_of hk]
    refine ⟨h2 _ (List.getElem_mem _), ?_⟩
    simp only [idFree, List.all_eq_true, Bool.not_eq_true', decide_eq_false_iff_not]
    intro p hp
    obtain ⟨i, hi, rfl⟩ := List.mem_take_iff_getElem.1 hp
    exact List.pairwise_iff_getElem.1 h3 i k (by omega) hk (by omega)
end Go.Eng

/- An order's place looked for: the document's own answer. -/
set_option linter.unusedVariables false
set_option linter.unusedSimpArgs false
namespace Go.Eng
open Go Go.Proofs
end Go.Eng

/- A map of numbers that are known. -/
set_option linter.unusedVariables false
set_option linter.unusedSimpArgs false
namespace Go.Eng
open Go Go.Proofs
theorem newC_t : Told Try.prog 21 newC_con := by
  refine told_alt (ps := [.c .i, .c (.a (.f .int))]) new_t fun x _ => ⟨trivial, fun a ha h => ?_⟩
  obtain ⟨n, ts, _⟩ := x
  have ha : a = ⟨some (newE n ts ≠ 0), [.c .np, .c (.i (newE n ts))]⟩ ∨ a = ⟨some (newE n ts = 0), [.p true 101 [.i n, .o .int 3 ts], .c (.i 0)]⟩ := by
    have : a ∈ ([⟨some (newE n ts ≠ 0), [.c .np, .c (.i (newE n ts))]⟩, ⟨some (newE n ts = 0), [.p true 101 [.i n, .o .int 3 ts], .c (.i 0)]⟩] : List Alt) := ha
    simpa using this
  rcases ha with rfl | rfl
  · refine ⟨_, List.mem_singleton.2 rfl, ?_⟩
    have h : newE n ts ≠ 0 := h
    rw [decide_eq_false h]
    exact ⟨trivial, rfl⟩
  · refine ⟨_, List.mem_singleton.2 rfl, ?_⟩
    have h : newE n ts = 0 := h
    rw [decide_eq_true h]
    exact ⟨trivial, rfl⟩
theorem mapOkO_none : ∀ (x : MapD), none = some x → MapOk x := fun x h => by cases h
theorem mapOkO_some {n : Int} {ts : List Int} (h : newE n ts = 0) : ∀ (x : MapD), some ⟨n, ts⟩ = some x → MapOk x := fun x hx => by
  injection hx with hx
  subst hx
  exact newE_ok.1 h
end Go.Eng

/- What a drive says of stops that are cut off. -/
set_option linter.unusedVariables false
set_option linter.unusedSimpArgs false
namespace Go.Eng
open Go Go.Proofs
end Go.Eng

/- The statements of places looked for: what is told of them. -/
set_option linter.unusedVariables false
set_option linter.unusedSimpArgs false
namespace Go.Eng
open Go Go.Proofs
def isH (h : Hunt × Int) (s : Spot) (n e : Int) : Bool := decide (h.1.driver = s.driver ∧ h.1.pick = s.pick ∧ h.1.drop = s.drop ∧ h.1.cost = s.cost ∧ h.1.steps = n ∧ h.2 = e)
def lbest_con : Con := ⟨[.q .map tMap, .r (.f .driver), .c (.a (.f .order)), .r .route, .r (.f .order), .c .i, .r (.f .spot), .c .i, .c .i],
  fun m d os r o b s n e => ⟨some (MapOkO m), [⟨none, [.c (.b (isH (bestP m d os r o b) s n e))]⟩]⟩⟩
def lbest_cs : Cons := [(13, ibest_con)]
def lbest_la : List (Nat × LA) := []
def insertRuns_con : Con := yes_con
noncomputable def insertRuns_cs : Cons := [(21, newC_con), (22, lbest_con), (17, cheap_con)]
def insertRuns_la : List (Nat × LA) := []
def oneP (p : List Route) (at' : Int) : Route := if p.length = 0 then ⟨0, 0, []⟩ else p.getD (bwithin at' 0 (p.length - 1)).toNat ⟨0, 0, []⟩
def one_con' : Con := ⟨[.c (.a .route), .c .i], fun p at' => one [.r (SK.enc .route (oneP p at'))]⟩
def oneR_con : Con := one_con'
def oneR_cs : Cons := [(28, bWithin_con)]
def oneR_la : List (Nat × LA) := []
def insertLeast_con : Con := ⟨[.r .world, .r (.f .order), .c .i, .c .i], fun w o a d => law (pA (.r (SK.enc .world w)) ∧ pA (.r (SK.enc (.f .order) o)) ∧ pA (.c (.i a)) ∧ pA (.c (.i d)))⟩
noncomputable def insertLeast_cs : Cons := [(10, maps_con), (11, oneR_con), (12, wDriver_con), (13, ibest_con), (5, yes_con), (14, cost_con), (15, sfits_con), (16, sput_con)]
def insertLeast_la : List (Nat × LA) := [(13, ⟨[4, 5, 9, 12, 13, 14, 15, 16, 17, 19], [.i 20, .b 21, .i 22]⟩), (16, ⟨[4, 5, 9, 12, 13, 14, 15, 16, 17, 19, 22], [.i 20, .b 21, .i 23]⟩), (1000008, ⟨[4, 5, 9, 12, 13, 14, 15, 16], []⟩)]
end Go.Eng
