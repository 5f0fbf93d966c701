/- The conditions of functions, as print.. of the engine told them. -/
import Derived.Test.YtennnnifppichaaZ1LawInsertFits
import Derived.KernelRfl
set_option linter.unusedVariables false
namespace Go.Eng
open Go Go.Proofs
def legOf_vc : Prop :=
  ∀ (x : Order) (x_1 : Bool), (x_1 = true → x.dp = (legO x x_1).pl ∧ x.df = (legO x x_1).lo ∧ x.dt = (legO x x_1).hi ∧ x.ds = (legO x x_1).sv ∧ wrap (-x.size) = (legO x x_1).more) ∧ (x_1 = false → x.pp = (legO x x_1).pl ∧ x.pf = (legO x
  x_1).lo ∧ x.pt = (legO x x_1).hi ∧ x.ps = (legO x x_1).sv ∧ x.size = (legO x x_1).more)
theorem legOf_told (hc : CsOk Try.prog legOf_cs) (h : legOf_vc) : Told Try.prog 54 legOf_con := told (A := legOf_la) tabOk mixed hc Try.func54 (by kernel_rfl) (by kernel_rfl) h
def step_vc : Prop :=
  ∀ (x : SearchD), LenOk x.m.l.length ∧ LenOk x.legs.length ∧ LenOk x.pre.length → ∀ (x_2 : State) (x_3 : Leg), MapOk x.m → (∀ (x_5 : MapD), some x.m = some x_5 → MapOk x_5) ∧ ((begin_ (Win.mk x_3.lo x_3.hi) (wrap (x_2.now + (mtime (some x.m)
  x_2.pos x_3.pl).fst))).snd = true → (decide (wrap ((begin_ (Win.mk x_3.lo x_3.hi) (wrap (x_2.now + (mtime (some x.m) x_2.pos x_3.pl).fst))).fst + x_3.sv) ≤ x.d.hi) = true → (wrap ((begin_ (Win.mk x_3.lo x_3.hi) (wrap (x_2.now + (mtime (some
  x.m) x_2.pos x_3.pl).fst))).fst + x_3.sv) = (stepS x.m x.d x_2 x_3).fst.now ∧ x_3.pl = (stepS x.m x.d x_2 x_3).fst.pos ∧ wrap (x_2.load + x_3.more) = (stepS x.m x.d x_2 x_3).fst.load ∧ wrap (x_2.way + (mtime (some x.m) x_2.pos x_3.pl).fst)
  = (stepS x.m x.d x_2 x_3).fst.way) ∧ decide (wrap (x_2.load + x_3.more) ≤ x.d.room) = (stepS x.m x.d x_2 x_3).snd) ∧ (decide (wrap ((begin_ (Win.mk x_3.lo x_3.hi) (wrap (x_2.now + (mtime (some x.m) x_2.pos x_3.pl).fst))).fst + x_3.sv) ≤
  x.d.hi) = !true → (wrap ((begin_ (Win.mk x_3.lo x_3.hi) (wrap (x_2.now + (mtime (some x.m) x_2.pos x_3.pl).fst))).fst + x_3.sv) = (stepS x.m x.d x_2 x_3).fst.now ∧ x_3.pl = (stepS x.m x.d x_2 x_3).fst.pos ∧ wrap (x_2.load + x_3.more) =
  (stepS x.m x.d x_2 x_3).fst.load ∧ wrap (x_2.way + (mtime (some x.m) x_2.pos x_3.pl).fst) = (stepS x.m x.d x_2 x_3).fst.way) ∧ false = (stepS x.m x.d x_2 x_3).snd)) ∧ ((begin_ (Win.mk x_3.lo x_3.hi) (wrap (x_2.now + (mtime (some x.m)
  x_2.pos x_3.pl).fst))).snd = !true → (wrap ((begin_ (Win.mk x_3.lo x_3.hi) (wrap (x_2.now + (mtime (some x.m) x_2.pos x_3.pl).fst))).fst + x_3.sv) = (stepS x.m x.d x_2 x_3).fst.now ∧ x_3.pl = (stepS x.m x.d x_2 x_3).fst.pos ∧ wrap (x_2.load
  + x_3.more) = (stepS x.m x.d x_2 x_3).fst.load ∧ wrap (x_2.way + (mtime (some x.m) x_2.pos x_3.pl).fst) = (stepS x.m x.d x_2 x_3).fst.way) ∧ false = (stepS x.m x.d x_2 x_3).snd)
theorem step_told (hc : CsOk Try.prog step_cs) (h : step_vc) : Told Try.prog 55 step_con := told (A := step_la) tabOk mixed hc Try.func55 (by kernel_rfl) (by kernel_rfl) h
def price_vc : Prop :=
  ∀ (x : SearchD), LenOk x.m.l.length ∧ LenOk x.legs.length ∧ LenOk x.pre.length → ∀ (x_2 x_3 : Int), PricePre x x_2 x_3 → ((0 : Int) ≤ x_2 ∧ x_2 < (↑x.pre.length : Int)) ∧ x_2.toNat < x.pre.length ∧ MapOk x.m ∧ ∃ (inv : Bool → Int → Int →
  Int → Int → Prop), (∃ (inv_1 : Bool → Int → Int → Int → Int → Int → Prop), ∃ (μ : Bool → Int → Int → Int → Int → Int → Nat), (((x_3 = x_3 ∧ (stepS x.m x.d (x.pre.getD x_2.toNat FK.state.zero) x.pick).snd = (stepS x.m x.d (x.pre.getD
  x_2.toNat FK.state.zero) x.pick).snd ∧ x_2 = x_2) ∧ ((x.d.id = x.d.id ∧ x.d.room = x.d.room ∧ x.d.home = x.d.home ∧ x.d.lo = x.d.lo ∧ x.d.hi = x.d.hi ∧ x.d.retired = x.d.retired ∧ x.pick.pl = x.pick.pl ∧ x.pick.lo = x.pick.lo ∧ x.pick.hi =
  x.pick.hi ∧ x.pick.sv = x.pick.sv ∧ x.pick.more = x.pick.more ∧ x.drop.pl = x.drop.pl ∧ x.drop.lo = x.drop.lo ∧ x.drop.hi = x.drop.hi ∧ x.drop.sv = x.drop.sv ∧ x.drop.more = x.drop.more ∧ x.full = x.full) ∧ x.m.n = x.m.n ∧ (stepS x.m x.d
  (x.pre.getD x_2.toNat FK.state.zero) x.pick).fst.now = (stepS x.m x.d (x.pre.getD x_2.toNat FK.state.zero) x.pick).fst.now ∧ (stepS x.m x.d (x.pre.getD x_2.toNat FK.state.zero) x.pick).fst.pos = (stepS x.m x.d (x.pre.getD x_2.toNat
  FK.state.zero) x.pick).fst.pos ∧ (stepS x.m x.d (x.pre.getD x_2.toNat FK.state.zero) x.pick).fst.load = (stepS x.m x.d (x.pre.getD x_2.toNat FK.state.zero) x.pick).fst.load ∧ (stepS x.m x.d (x.pre.getD x_2.toNat FK.state.zero)
  x.pick).fst.way = (stepS x.m x.d (x.pre.getD x_2.toNat FK.state.zero) x.pick).fst.way) ∧ x.m.l = x.m.l ∧ x.pre = x.pre ∧ x.legs = x.legs) ∧ inv_1 (stepS x.m x.d (x.pre.getD x_2.toNat FK.state.zero) x.pick).snd x_2 (stepS x.m x.d (x.pre.getD
  x_2.toNat FK.state.zero) x.pick).fst.now (stepS x.m x.d (x.pre.getD x_2.toNat FK.state.zero) x.pick).fst.pos (stepS x.m x.d (x.pre.getD x_2.toNat FK.state.zero) x.pick).fst.load (stepS x.m x.d (x.pre.getD x_2.toNat FK.state.zero)
  x.pick).fst.way) ∧ ∀ (x_5 : Bool) (x_6 x_7 x_8 x_9 x_10 : Int), inv_1 x_5 x_6 x_7 x_8 x_9 x_10 → (decide (x_6 < x_3) = true → (x_5 = true → ((0 : Int) ≤ x_6 ∧ x_6 < (↑x.legs.length : Int)) ∧ x_6.toNat < x.legs.length ∧ MapOk x.m ∧ ((x_3 =
  x_3 ∧ (stepS x.m x.d (State.mk x_7 x_8 x_9 x_10) (x.legs.getD x_6.toNat FK.leg.zero)).snd = (stepS x.m x.d (State.mk x_7 x_8 x_9 x_10) (x.legs.getD x_6.toNat FK.leg.zero)).snd ∧ wrap (x_6 + (1 : Int)) = wrap (x_6 + (1 : Int))) ∧ ((x.d.id =
  x.d.id ∧ x.d.room = x.d.room ∧ x.d.home = x.d.home ∧ x.d.lo = x.d.lo ∧ x.d.hi = x.d.hi ∧ x.d.retired = x.d.retired ∧ x.pick.pl = x.pick.pl ∧ x.pick.lo = x.pick.lo ∧ x.pick.hi = x.pick.hi ∧ x.pick.sv = x.pick.sv ∧ x.pick.more = x.pick.more ∧
  x.drop.pl = x.drop.pl ∧ x.drop.lo = x.drop.lo ∧ x.drop.hi = x.drop.hi ∧ x.drop.sv = x.drop.sv ∧ x.drop.more = x.drop.more ∧ x.full = x.full) ∧ x.m.n = x.m.n ∧ (stepS x.m x.d (State.mk x_7 x_8 x_9 x_10) (x.legs.getD x_6.toNat
  FK.leg.zero)).fst.now = (stepS x.m x.d (State.mk x_7 x_8 x_9 x_10) (x.legs.getD x_6.toNat FK.leg.zero)).fst.now ∧ (stepS x.m x.d (State.mk x_7 x_8 x_9 x_10) (x.legs.getD x_6.toNat FK.leg.zero)).fst.pos = (stepS x.m x.d (State.mk x_7 x_8 x_9
  x_10) (x.legs.getD x_6.toNat FK.leg.zero)).fst.pos ∧ (stepS x.m x.d (State.mk x_7 x_8 x_9 x_10) (x.legs.getD x_6.toNat FK.leg.zero)).fst.load = (stepS x.m x.d (State.mk x_7 x_8 x_9 x_10) (x.legs.getD x_6.toNat FK.leg.zero)).fst.load ∧
  (stepS x.m x.d (State.mk x_7 x_8 x_9 x_10) (x.legs.getD x_6.toNat FK.leg.zero)).fst.way = (stepS x.m x.d (State.mk x_7 x_8 x_9 x_10) (x.legs.getD x_6.toNat FK.leg.zero)).fst.way) ∧ x.m.l = x.m.l ∧ x.pre = x.pre ∧ x.legs = x.legs) ∧ inv_1
  (stepS x.m x.d (State.mk x_7 x_8 x_9 x_10) (x.legs.getD x_6.toNat FK.leg.zero)).snd (wrap (x_6 + (1 : Int))) (stepS x.m x.d (State.mk x_7 x_8 x_9 x_10) (x.legs.getD x_6.toNat FK.leg.zero)).fst.now (stepS x.m x.d (State.mk x_7 x_8 x_9 x_10)
  (x.legs.getD x_6.toNat FK.leg.zero)).fst.pos (stepS x.m x.d (State.mk x_7 x_8 x_9 x_10) (x.legs.getD x_6.toNat FK.leg.zero)).fst.load (stepS x.m x.d (State.mk x_7 x_8 x_9 x_10) (x.legs.getD x_6.toNat FK.leg.zero)).fst.way ∧ μ (stepS x.m x.d
  (State.mk x_7 x_8 x_9 x_10) (x.legs.getD x_6.toNat FK.leg.zero)).snd (wrap (x_6 + (1 : Int))) (stepS x.m x.d (State.mk x_7 x_8 x_9 x_10) (x.legs.getD x_6.toNat FK.leg.zero)).fst.now (stepS x.m x.d (State.mk x_7 x_8 x_9 x_10) (x.legs.getD
  x_6.toNat FK.leg.zero)).fst.pos (stepS x.m x.d (State.mk x_7 x_8 x_9 x_10) (x.legs.getD x_6.toNat FK.leg.zero)).fst.load (stepS x.m x.d (State.mk x_7 x_8 x_9 x_10) (x.legs.getD x_6.toNat FK.leg.zero)).fst.way < μ x_5 x_6 x_7 x_8 x_9 x_10) ∧
  (x_5 = false → ((x_3 = x_3 ∧ x_5 = x_5) ∧ ((x.d.id = x.d.id ∧ x.d.room = x.d.room ∧ x.d.home = x.d.home ∧ x.d.lo = x.d.lo ∧ x.d.hi = x.d.hi ∧ x.d.retired = x.d.retired ∧ x.pick.pl = x.pick.pl ∧ x.pick.lo = x.pick.lo ∧ x.pick.hi = x.pick.hi
  ∧ x.pick.sv = x.pick.sv ∧ x.pick.more = x.pick.more ∧ x.drop.pl = x.drop.pl ∧ x.drop.lo = x.drop.lo ∧ x.drop.hi = x.drop.hi ∧ x.drop.sv = x.drop.sv ∧ x.drop.more = x.drop.more ∧ x.full = x.full) ∧ x.m.n = x.m.n ∧ x_7 = x_7 ∧ x_8 = x_8 ∧ x_9
  = x_9 ∧ x_10 = x_10) ∧ x.m.l = x.m.l ∧ x.pre = x.pre ∧ x.legs = x.legs) ∧ inv x_5 x_7 x_8 x_9 x_10)) ∧ (decide (x_6 < x_3) = !true → ((x_3 = x_3 ∧ x_5 = x_5) ∧ ((x.d.id = x.d.id ∧ x.d.room = x.d.room ∧ x.d.home = x.d.home ∧ x.d.lo = x.d.lo
  ∧ x.d.hi = x.d.hi ∧ x.d.retired = x.d.retired ∧ x.pick.pl = x.pick.pl ∧ x.pick.lo = x.pick.lo ∧ x.pick.hi = x.pick.hi ∧ x.pick.sv = x.pick.sv ∧ x.pick.more = x.pick.more ∧ x.drop.pl = x.drop.pl ∧ x.drop.lo = x.drop.lo ∧ x.drop.hi =
  x.drop.hi ∧ x.drop.sv = x.drop.sv ∧ x.drop.more = x.drop.more ∧ x.full = x.full) ∧ x.m.n = x.m.n ∧ x_7 = x_7 ∧ x_8 = x_8 ∧ x_9 = x_9 ∧ x_10 = x_10) ∧ x.m.l = x.m.l ∧ x.pre = x.pre ∧ x.legs = x.legs) ∧ inv x_5 x_7 x_8 x_9 x_10)) ∧ ∀ (x_5 :
  Bool) (x_6 x_7 x_8 x_9 : Int), inv x_5 x_6 x_7 x_8 x_9 → ∃ (inv : Bool → Int → Int → Int → Int → Prop), ((x_5 = true → MapOk x.m ∧ ((x_3 = x_3 ∧ (stepS x.m x.d (State.mk x_6 x_7 x_8 x_9) x.drop).snd = (stepS x.m x.d (State.mk x_6 x_7 x_8
  x_9) x.drop).snd) ∧ ((x.d.id = x.d.id ∧ x.d.room = x.d.room ∧ x.d.home = x.d.home ∧ x.d.lo = x.d.lo ∧ x.d.hi = x.d.hi ∧ x.d.retired = x.d.retired ∧ x.pick.pl = x.pick.pl ∧ x.pick.lo = x.pick.lo ∧ x.pick.hi = x.pick.hi ∧ x.pick.sv =
  x.pick.sv ∧ x.pick.more = x.pick.more ∧ x.drop.pl = x.drop.pl ∧ x.drop.lo = x.drop.lo ∧ x.drop.hi = x.drop.hi ∧ x.drop.sv = x.drop.sv ∧ x.drop.more = x.drop.more ∧ x.full = x.full) ∧ x.m.n = x.m.n ∧ (stepS x.m x.d (State.mk x_6 x_7 x_8 x_9)
  x.drop).fst.now = (stepS x.m x.d (State.mk x_6 x_7 x_8 x_9) x.drop).fst.now ∧ (stepS x.m x.d (State.mk x_6 x_7 x_8 x_9) x.drop).fst.pos = (stepS x.m x.d (State.mk x_6 x_7 x_8 x_9) x.drop).fst.pos ∧ (stepS x.m x.d (State.mk x_6 x_7 x_8 x_9)
  x.drop).fst.load = (stepS x.m x.d (State.mk x_6 x_7 x_8 x_9) x.drop).fst.load ∧ (stepS x.m x.d (State.mk x_6 x_7 x_8 x_9) x.drop).fst.way = (stepS x.m x.d (State.mk x_6 x_7 x_8 x_9) x.drop).fst.way) ∧ x.m.l = x.m.l ∧ x.pre = x.pre ∧ x.legs
  = x.legs) ∧ inv (stepS x.m x.d (State.mk x_6 x_7 x_8 x_9) x.drop).snd (stepS x.m x.d (State.mk x_6 x_7 x_8 x_9) x.drop).fst.now (stepS x.m x.d (State.mk x_6 x_7 x_8 x_9) x.drop).fst.pos (stepS x.m x.d (State.mk x_6 x_7 x_8 x_9)
  x.drop).fst.load (stepS x.m x.d (State.mk x_6 x_7 x_8 x_9) x.drop).fst.way) ∧ (x_5 = false → ((x_3 = x_3 ∧ x_5 = x_5) ∧ ((x.d.id = x.d.id ∧ x.d.room = x.d.room ∧ x.d.home = x.d.home ∧ x.d.lo = x.d.lo ∧ x.d.hi = x.d.hi ∧ x.d.retired =
  x.d.retired ∧ x.pick.pl = x.pick.pl ∧ x.pick.lo = x.pick.lo ∧ x.pick.hi = x.pick.hi ∧ x.pick.sv = x.pick.sv ∧ x.pick.more = x.pick.more ∧ x.drop.pl = x.drop.pl ∧ x.drop.lo = x.drop.lo ∧ x.drop.hi = x.drop.hi ∧ x.drop.sv = x.drop.sv ∧
  x.drop.more = x.drop.more ∧ x.full = x.full) ∧ x.m.n = x.m.n ∧ x_6 = x_6 ∧ x_7 = x_7 ∧ x_8 = x_8 ∧ x_9 = x_9) ∧ x.m.l = x.m.l ∧ x.pre = x.pre ∧ x.legs = x.legs) ∧ inv x_5 x_6 x_7 x_8 x_9)) ∧ ∀ (x_11 : Bool) (x_12 x_13 x_14 x_15 : Int), inv
  x_11 x_12 x_13 x_14 x_15 → ∃ (inv : Bool → Int → Int → Int → Int → Int → Prop), ∃ (μ : Bool → Int → Int → Int → Int → Int → Nat), (((x_11 = x_11 ∧ x_3 = x_3) ∧ ((x.d.id = x.d.id ∧ x.d.room = x.d.room ∧ x.d.home = x.d.home ∧ x.d.lo = x.d.lo
  ∧ x.d.hi = x.d.hi ∧ x.d.retired = x.d.retired ∧ x.pick.pl = x.pick.pl ∧ x.pick.lo = x.pick.lo ∧ x.pick.hi = x.pick.hi ∧ x.pick.sv = x.pick.sv ∧ x.pick.more = x.pick.more ∧ x.drop.pl = x.drop.pl ∧ x.drop.lo = x.drop.lo ∧ x.drop.hi =
  x.drop.hi ∧ x.drop.sv = x.drop.sv ∧ x.drop.more = x.drop.more ∧ x.full = x.full) ∧ x.m.n = x.m.n ∧ x_12 = x_12 ∧ x_13 = x_13 ∧ x_14 = x_14 ∧ x_15 = x_15) ∧ x.m.l = x.m.l ∧ x.pre = x.pre ∧ x.legs = x.legs) ∧ inv x_11 x_3 x_12 x_13 x_14 x_15)
  ∧ ∀ (x_17 : Bool) (x_18 x_19 x_20 x_21 x_22 : Int), inv x_17 x_18 x_19 x_20 x_21 x_22 → (decide (x_18 < (↑x.legs.length : Int)) = true → (x_17 = true → ((0 : Int) ≤ x_18 ∧ x_18 < (↑x.legs.length : Int)) ∧ x_18.toNat < x.legs.length ∧ MapOk
  x.m ∧ (((stepS x.m x.d (State.mk x_19 x_20 x_21 x_22) (x.legs.getD x_18.toNat FK.leg.zero)).snd = (stepS x.m x.d (State.mk x_19 x_20 x_21 x_22) (x.legs.getD x_18.toNat FK.leg.zero)).snd ∧ wrap (x_18 + (1 : Int)) = wrap (x_18 + (1 : Int))) ∧
  ((x.d.id = x.d.id ∧ x.d.room = x.d.room ∧ x.d.home = x.d.home ∧ x.d.lo = x.d.lo ∧ x.d.hi = x.d.hi ∧ x.d.retired = x.d.retired ∧ x.pick.pl = x.pick.pl ∧ x.pick.lo = x.pick.lo ∧ x.pick.hi = x.pick.hi ∧ x.pick.sv = x.pick.sv ∧ x.pick.more =
  x.pick.more ∧ x.drop.pl = x.drop.pl ∧ x.drop.lo = x.drop.lo ∧ x.drop.hi = x.drop.hi ∧ x.drop.sv = x.drop.sv ∧ x.drop.more = x.drop.more ∧ x.full = x.full) ∧ x.m.n = x.m.n ∧ (stepS x.m x.d (State.mk x_19 x_20 x_21 x_22) (x.legs.getD
  x_18.toNat FK.leg.zero)).fst.now = (stepS x.m x.d (State.mk x_19 x_20 x_21 x_22) (x.legs.getD x_18.toNat FK.leg.zero)).fst.now ∧ (stepS x.m x.d (State.mk x_19 x_20 x_21 x_22) (x.legs.getD x_18.toNat FK.leg.zero)).fst.pos = (stepS x.m x.d
  (State.mk x_19 x_20 x_21 x_22) (x.legs.getD x_18.toNat FK.leg.zero)).fst.pos ∧ (stepS x.m x.d (State.mk x_19 x_20 x_21 x_22) (x.legs.getD x_18.toNat FK.leg.zero)).fst.load = (stepS x.m x.d (State.mk x_19 x_20 x_21 x_22) (x.legs.getD
  x_18.toNat FK.leg.zero)).fst.load ∧ (stepS x.m x.d (State.mk x_19 x_20 x_21 x_22) (x.legs.getD x_18.toNat FK.leg.zero)).fst.way = (stepS x.m x.d (State.mk x_19 x_20 x_21 x_22) (x.legs.getD x_18.toNat FK.leg.zero)).fst.way) ∧ x.m.l = x.m.l ∧
  x.pre = x.pre ∧ x.legs = x.legs) ∧ inv (stepS x.m x.d (State.mk x_19 x_20 x_21 x_22) (x.legs.getD x_18.toNat FK.leg.zero)).snd (wrap (x_18 + (1 : Int))) (stepS x.m x.d (State.mk x_19 x_20 x_21 x_22) (x.legs.getD x_18.toNat
  FK.leg.zero)).fst.now (stepS x.m x.d (State.mk x_19 x_20 x_21 x_22) (x.legs.getD x_18.toNat FK.leg.zero)).fst.pos (stepS x.m x.d (State.mk x_19 x_20 x_21 x_22) (x.legs.getD x_18.toNat FK.leg.zero)).fst.load (stepS x.m x.d (State.mk x_19
  x_20 x_21 x_22) (x.legs.getD x_18.toNat FK.leg.zero)).fst.way ∧ μ (stepS x.m x.d (State.mk x_19 x_20 x_21 x_22) (x.legs.getD x_18.toNat FK.leg.zero)).snd (wrap (x_18 + (1 : Int))) (stepS x.m x.d (State.mk x_19 x_20 x_21 x_22) (x.legs.getD
  x_18.toNat FK.leg.zero)).fst.now (stepS x.m x.d (State.mk x_19 x_20 x_21 x_22) (x.legs.getD x_18.toNat FK.leg.zero)).fst.pos (stepS x.m x.d (State.mk x_19 x_20 x_21 x_22) (x.legs.getD x_18.toNat FK.leg.zero)).fst.load (stepS x.m x.d
  (State.mk x_19 x_20 x_21 x_22) (x.legs.getD x_18.toNat FK.leg.zero)).fst.way < μ x_17 x_18 x_19 x_20 x_21 x_22) ∧ (x_17 = false → ((0 : Int) ≤ (↑x.legs.length : Int) ∧ (↑x.legs.length : Int) < (↑x.pre.length : Int)) ∧ (↑x.legs.length :
  Int).toNat < x.pre.length ∧ (x_17 = true → wrap (x_22 - (x.pre.getD (↑x.legs.length : Int).toNat FK.state.zero).way) = (priceS x x_2 x_3).fst ∧ (!x.full) = (priceS x x_2 x_3).snd) ∧ (x_17 = !true → wrap (x_22 - (x.pre.getD (↑x.legs.length :
  Int).toNat FK.state.zero).way) = (priceS x x_2 x_3).fst ∧ false = (priceS x x_2 x_3).snd))) ∧ (decide (x_18 < (↑x.legs.length : Int)) = !true → ((0 : Int) ≤ (↑x.legs.length : Int) ∧ (↑x.legs.length : Int) < (↑x.pre.length : Int)) ∧
  (↑x.legs.length : Int).toNat < x.pre.length ∧ (x_17 = true → wrap (x_22 - (x.pre.getD (↑x.legs.length : Int).toNat FK.state.zero).way) = (priceS x x_2 x_3).fst ∧ (!x.full) = (priceS x x_2 x_3).snd) ∧ (x_17 = !true → wrap (x_22 - (x.pre.getD
  (↑x.legs.length : Int).toNat FK.state.zero).way) = (priceS x x_2 x_3).fst ∧ false = (priceS x x_2 x_3).snd))
theorem price_told (hc : CsOk Try.prog price_cs) (h : price_vc) : Told Try.prog 56 price_con := told (A := price_la) tabOk mixed hc Try.func56 (by kernel_rfl) (by kernel_rfl) h
def sbest_vc : Prop :=
  ∀ (x : SearchD), LenOk x.m.l.length ∧ LenOk x.legs.length ∧ LenOk x.pre.length → ∀ (x_2 x_3 : Int), BestPre x x_2 → ∃ (inv : Int → Bool → Int → Int → Int → Int → Int → Prop), ∃ (μ : Int → Bool → Int → Int → Int → Int → Int → Nat), (((x_3 =
  x_3 ∧ (0 : Int) = (0 : Int) ∧ false = false ∧ (↑x.legs.length : Int) = (↑x.legs.length : Int) ∧ x_2 = x_2) ∧ ((x.d.id = x.d.id ∧ x.d.room = x.d.room ∧ x.d.home = x.d.home ∧ x.d.lo = x.d.lo ∧ x.d.hi = x.d.hi ∧ x.d.retired = x.d.retired ∧
  x.pick.pl = x.pick.pl ∧ x.pick.lo = x.pick.lo ∧ x.pick.hi = x.pick.hi ∧ x.pick.sv = x.pick.sv ∧ x.pick.more = x.pick.more ∧ x.drop.pl = x.drop.pl ∧ x.drop.lo = x.drop.lo ∧ x.drop.hi = x.drop.hi ∧ x.drop.sv = x.drop.sv ∧ x.drop.more =
  x.drop.more ∧ x.full = x.full) ∧ x.m.n = x.m.n ∧ ((0 : Int) = (0 : Int) ∧ (0 : Int) = (0 : Int) ∧ (0 : Int) = (0 : Int) ∧ (0 : Int) = (0 : Int)) ∧ (0 : Int) = (0 : Int) ∧ (0 : Int) = (0 : Int) ∧ (0 : Int) = (0 : Int) ∧ (0 : Int) = (0 :
  Int)) ∧ x.m.l = x.m.l ∧ x.pre = x.pre ∧ x.legs = x.legs) ∧ inv (0 : Int) false x_2 (0 : Int) (0 : Int) (0 : Int) (0 : Int)) ∧ ∀ (x_5 : Int) (x_6 : Bool) (x_7 x_8 x_9 x_10 x_11 : Int), inv x_5 x_6 x_7 x_8 x_9 x_10 x_11 → (decide (x_7 ≤
  (↑x.legs.length : Int)) = true → ∃ (inv_1 : Int → Bool → Int → Int → Int → Int → Int → Prop), ∃ (μ_1 : Int → Bool → Int → Int → Int → Int → Int → Nat), (((x_3 = x_3 ∧ x_5 = x_5 ∧ x_6 = x_6 ∧ (↑x.legs.length : Int) = (↑x.legs.length : Int) ∧
  x_7 = x_7 ∧ x_7 = x_7) ∧ ((x.d.id = x.d.id ∧ x.d.room = x.d.room ∧ x.d.home = x.d.home ∧ x.d.lo = x.d.lo ∧ x.d.hi = x.d.hi ∧ x.d.retired = x.d.retired ∧ x.pick.pl = x.pick.pl ∧ x.pick.lo = x.pick.lo ∧ x.pick.hi = x.pick.hi ∧ x.pick.sv =
  x.pick.sv ∧ x.pick.more = x.pick.more ∧ x.drop.pl = x.drop.pl ∧ x.drop.lo = x.drop.lo ∧ x.drop.hi = x.drop.hi ∧ x.drop.sv = x.drop.sv ∧ x.drop.more = x.drop.more ∧ x.full = x.full) ∧ x.m.n = x.m.n ∧ ((0 : Int) = (0 : Int) ∧ (0 : Int) = (0 :
  Int) ∧ (0 : Int) = (0 : Int) ∧ (0 : Int) = (0 : Int)) ∧ x_8 = x_8 ∧ x_9 = x_9 ∧ x_10 = x_10 ∧ x_11 = x_11) ∧ x.m.l = x.m.l ∧ x.pre = x.pre ∧ x.legs = x.legs) ∧ inv_1 x_5 x_6 x_7 x_8 x_9 x_10 x_11) ∧ ∀ (x_14 : Int) (x_15 : Bool) (x_16 x_17
  x_18 x_19 x_20 : Int), inv_1 x_14 x_15 x_16 x_17 x_18 x_19 x_20 → (decide (x_16 ≤ (↑x.legs.length : Int)) = true → (decide (x_14 ≥ x_3) = true → (x_17 = (hspot (bestS x x_2 x_3)).driver ∧ x_18 = (hspot (bestS x x_2 x_3)).pick ∧ x_19 =
  (hspot (bestS x x_2 x_3)).drop ∧ x_20 = (hspot (bestS x x_2 x_3)).cost) ∧ x_14 = (bestS x x_2 x_3).steps ∧ x_15 = (bestS x x_2 x_3).found) ∧ (decide (x_14 ≥ x_3) = false → PricePre x x_7 x_16 ∧ ((priceS x x_7 x_16).snd = true → ((!x_15) =
  false → (decide ((priceS x x_7 x_16).fst < x_20) = true → ((x_3 = x_3 ∧ wrap (x_14 + (1 : Int)) = wrap (x_14 + (1 : Int)) ∧ true = true ∧ (↑x.legs.length : Int) = (↑x.legs.length : Int) ∧ x_7 = x_7 ∧ wrap (x_16 + (1 : Int)) = wrap (x_16 +
  (1 : Int))) ∧ ((x.d.id = x.d.id ∧ x.d.room = x.d.room ∧ x.d.home = x.d.home ∧ x.d.lo = x.d.lo ∧ x.d.hi = x.d.hi ∧ x.d.retired = x.d.retired ∧ x.pick.pl = x.pick.pl ∧ x.pick.lo = x.pick.lo ∧ x.pick.hi = x.pick.hi ∧ x.pick.sv = x.pick.sv ∧
  x.pick.more = x.pick.more ∧ x.drop.pl = x.drop.pl ∧ x.drop.lo = x.drop.lo ∧ x.drop.hi = x.drop.hi ∧ x.drop.sv = x.drop.sv ∧ x.drop.more = x.drop.more ∧ x.full = x.full) ∧ x.m.n = x.m.n ∧ ((0 : Int) = (0 : Int) ∧ (0 : Int) = (0 : Int) ∧ (0 :
  Int) = (0 : Int) ∧ (0 : Int) = (0 : Int)) ∧ x.d.id = x.d.id ∧ x_7 = x_7 ∧ x_16 = x_16 ∧ (priceS x x_7 x_16).fst = (priceS x x_7 x_16).fst) ∧ x.m.l = x.m.l ∧ x.pre = x.pre ∧ x.legs = x.legs) ∧ inv_1 (wrap (x_14 + (1 : Int))) true (wrap (x_16
  + (1 : Int))) x.d.id x_7 x_16 (priceS x x_7 x_16).fst ∧ μ_1 (wrap (x_14 + (1 : Int))) true (wrap (x_16 + (1 : Int))) x.d.id x_7 x_16 (priceS x x_7 x_16).fst < μ_1 x_14 x_15 x_16 x_17 x_18 x_19 x_20) ∧ (decide ((priceS x x_7 x_16).fst <
  x_20) = false → ((x_3 = x_3 ∧ wrap (x_14 + (1 : Int)) = wrap (x_14 + (1 : Int)) ∧ x_15 = x_15 ∧ (↑x.legs.length : Int) = (↑x.legs.length : Int) ∧ x_7 = x_7 ∧ wrap (x_16 + (1 : Int)) = wrap (x_16 + (1 : Int))) ∧ ((x.d.id = x.d.id ∧ x.d.room
  = x.d.room ∧ x.d.home = x.d.home ∧ x.d.lo = x.d.lo ∧ x.d.hi = x.d.hi ∧ x.d.retired = x.d.retired ∧ x.pick.pl = x.pick.pl ∧ x.pick.lo = x.pick.lo ∧ x.pick.hi = x.pick.hi ∧ x.pick.sv = x.pick.sv ∧ x.pick.more = x.pick.more ∧ x.drop.pl =
  x.drop.pl ∧ x.drop.lo = x.drop.lo ∧ x.drop.hi = x.drop.hi ∧ x.drop.sv = x.drop.sv ∧ x.drop.more = x.drop.more ∧ x.full = x.full) ∧ x.m.n = x.m.n ∧ ((0 : Int) = (0 : Int) ∧ (0 : Int) = (0 : Int) ∧ (0 : Int) = (0 : Int) ∧ (0 : Int) = (0 :
  Int)) ∧ x_17 = x_17 ∧ x_18 = x_18 ∧ x_19 = x_19 ∧ x_20 = x_20) ∧ x.m.l = x.m.l ∧ x.pre = x.pre ∧ x.legs = x.legs) ∧ inv_1 (wrap (x_14 + (1 : Int))) x_15 (wrap (x_16 + (1 : Int))) x_17 x_18 x_19 x_20 ∧ μ_1 (wrap (x_14 + (1 : Int))) x_15
  (wrap (x_16 + (1 : Int))) x_17 x_18 x_19 x_20 < μ_1 x_14 x_15 x_16 x_17 x_18 x_19 x_20)) ∧ ((!x_15) = !false → ((x_3 = x_3 ∧ wrap (x_14 + (1 : Int)) = wrap (x_14 + (1 : Int)) ∧ true = true ∧ (↑x.legs.length : Int) = (↑x.legs.length : Int) ∧
  x_7 = x_7 ∧ wrap (x_16 + (1 : Int)) = wrap (x_16 + (1 : Int))) ∧ ((x.d.id = x.d.id ∧ x.d.room = x.d.room ∧ x.d.home = x.d.home ∧ x.d.lo = x.d.lo ∧ x.d.hi = x.d.hi ∧ x.d.retired = x.d.retired ∧ x.pick.pl = x.pick.pl ∧ x.pick.lo = x.pick.lo ∧
  x.pick.hi = x.pick.hi ∧ x.pick.sv = x.pick.sv ∧ x.pick.more = x.pick.more ∧ x.drop.pl = x.drop.pl ∧ x.drop.lo = x.drop.lo ∧ x.drop.hi = x.drop.hi ∧ x.drop.sv = x.drop.sv ∧ x.drop.more = x.drop.more ∧ x.full = x.full) ∧ x.m.n = x.m.n ∧ ((0 :
  Int) = (0 : Int) ∧ (0 : Int) = (0 : Int) ∧ (0 : Int) = (0 : Int) ∧ (0 : Int) = (0 : Int)) ∧ x.d.id = x.d.id ∧ x_7 = x_7 ∧ x_16 = x_16 ∧ (priceS x x_7 x_16).fst = (priceS x x_7 x_16).fst) ∧ x.m.l = x.m.l ∧ x.pre = x.pre ∧ x.legs = x.legs) ∧
  inv_1 (wrap (x_14 + (1 : Int))) true (wrap (x_16 + (1 : Int))) x.d.id x_7 x_16 (priceS x x_7 x_16).fst ∧ μ_1 (wrap (x_14 + (1 : Int))) true (wrap (x_16 + (1 : Int))) x.d.id x_7 x_16 (priceS x x_7 x_16).fst < μ_1 x_14 x_15 x_16 x_17 x_18
  x_19 x_20)) ∧ ((priceS x x_7 x_16).snd = !true → ((x_3 = x_3 ∧ wrap (x_14 + (1 : Int)) = wrap (x_14 + (1 : Int)) ∧ x_15 = x_15 ∧ (↑x.legs.length : Int) = (↑x.legs.length : Int) ∧ x_7 = x_7 ∧ wrap (x_16 + (1 : Int)) = wrap (x_16 + (1 :
  Int))) ∧ ((x.d.id = x.d.id ∧ x.d.room = x.d.room ∧ x.d.home = x.d.home ∧ x.d.lo = x.d.lo ∧ x.d.hi = x.d.hi ∧ x.d.retired = x.d.retired ∧ x.pick.pl = x.pick.pl ∧ x.pick.lo = x.pick.lo ∧ x.pick.hi = x.pick.hi ∧ x.pick.sv = x.pick.sv ∧
  x.pick.more = x.pick.more ∧ x.drop.pl = x.drop.pl ∧ x.drop.lo = x.drop.lo ∧ x.drop.hi = x.drop.hi ∧ x.drop.sv = x.drop.sv ∧ x.drop.more = x.drop.more ∧ x.full = x.full) ∧ x.m.n = x.m.n ∧ ((0 : Int) = (0 : Int) ∧ (0 : Int) = (0 : Int) ∧ (0 :
  Int) = (0 : Int) ∧ (0 : Int) = (0 : Int)) ∧ x_17 = x_17 ∧ x_18 = x_18 ∧ x_19 = x_19 ∧ x_20 = x_20) ∧ x.m.l = x.m.l ∧ x.pre = x.pre ∧ x.legs = x.legs) ∧ inv_1 (wrap (x_14 + (1 : Int))) x_15 (wrap (x_16 + (1 : Int))) x_17 x_18 x_19 x_20 ∧ μ_1
  (wrap (x_14 + (1 : Int))) x_15 (wrap (x_16 + (1 : Int))) x_17 x_18 x_19 x_20 < μ_1 x_14 x_15 x_16 x_17 x_18 x_19 x_20))) ∧ (decide (x_16 ≤ (↑x.legs.length : Int)) = false → ((x_3 = x_3 ∧ x_14 = x_14 ∧ x_15 = x_15 ∧ (↑x.legs.length : Int) =
  (↑x.legs.length : Int) ∧ wrap (x_7 + (1 : Int)) = wrap (x_7 + (1 : Int))) ∧ ((x.d.id = x.d.id ∧ x.d.room = x.d.room ∧ x.d.home = x.d.home ∧ x.d.lo = x.d.lo ∧ x.d.hi = x.d.hi ∧ x.d.retired = x.d.retired ∧ x.pick.pl = x.pick.pl ∧ x.pick.lo =
  x.pick.lo ∧ x.pick.hi = x.pick.hi ∧ x.pick.sv = x.pick.sv ∧ x.pick.more = x.pick.more ∧ x.drop.pl = x.drop.pl ∧ x.drop.lo = x.drop.lo ∧ x.drop.hi = x.drop.hi ∧ x.drop.sv = x.drop.sv ∧ x.drop.more = x.drop.more ∧ x.full = x.full) ∧ x.m.n =
  x.m.n ∧ ((0 : Int) = (0 : Int) ∧ (0 : Int) = (0 : Int) ∧ (0 : Int) = (0 : Int) ∧ (0 : Int) = (0 : Int)) ∧ x_17 = x_17 ∧ x_18 = x_18 ∧ x_19 = x_19 ∧ x_20 = x_20) ∧ x.m.l = x.m.l ∧ x.pre = x.pre ∧ x.legs = x.legs) ∧ inv x_14 x_15 (wrap (x_7 +
  (1 : Int))) x_17 x_18 x_19 x_20 ∧ μ x_14 x_15 (wrap (x_7 + (1 : Int))) x_17 x_18 x_19 x_20 < μ x_5 x_6 x_7 x_8 x_9 x_10 x_11)) ∧ (decide (x_7 ≤ (↑x.legs.length : Int)) = false → (x_8 = (hspot (bestS x x_2 x_3)).driver ∧ x_9 = (hspot (bestS
  x x_2 x_3)).pick ∧ x_10 = (hspot (bestS x x_2 x_3)).drop ∧ x_11 = (hspot (bestS x x_2 x_3)).cost) ∧ x_5 = (bestS x x_2 x_3).steps ∧ x_6 = (bestS x x_2 x_3).found)
theorem sbest_told (hc : CsOk Try.prog sbest_cs) (h : sbest_vc) : Told Try.prog 32 sbest_con := told (A := sbest_la) tabOk mixed hc Try.func32 (by kernel_rfl) (by kernel_rfl) h
def made_vc : Prop :=
  ∀ (x : MapD), LenOk x.l.length → ∀ (x_2 : Driver) (x_3 : List Order), LenOk x_3.length → ∀ (x_5 : List Stop), LenOk x_5.length → ∀ (x_7 : Order), MapOk x ∧ x_5.length ≤ (1000 : Nat) → (True ∧ [State.mk x_2.lo x_2.home (0 : Int) (0 :
  Int)].length * ((8 : Nat) * (4 : Nat)) ≤ (140737488355328 : Nat)) ∧ ∃ (inv : Int → List Leg → List State → Int → Int → Int → Int → Prop), ∃ (μ : Int → List Leg → List State → Int → Int → Int → Int → Nat), ((((↑x_5.length : Int) =
  (↑x_5.length : Int) ∧ (0 : Int) = (0 : Int)) ∧ (x.n = x.n ∧ (x_2.id = x_2.id ∧ x_2.room = x_2.room ∧ x_2.home = x_2.home ∧ x_2.lo = x_2.lo ∧ x_2.hi = x_2.hi ∧ x_2.retired = x_2.retired ∧ (legO x_7 false).pl = (legO x_7 false).pl ∧ (legO x_7
  false).lo = (legO x_7 false).lo ∧ (legO x_7 false).hi = (legO x_7 false).hi ∧ (legO x_7 false).sv = (legO x_7 false).sv ∧ (legO x_7 false).more = (legO x_7 false).more ∧ (legO x_7 true).pl = (legO x_7 true).pl ∧ (legO x_7 true).lo = (legO
  x_7 true).lo ∧ (legO x_7 true).hi = (legO x_7 true).hi ∧ (legO x_7 true).sv = (legO x_7 true).sv ∧ (legO x_7 true).more = (legO x_7 true).more ∧ decide ((↑x_3.length : Int) ≥ (40 : Int)) = decide ((↑x_3.length : Int) ≥ (40 : Int))) ∧ x_2.lo
  = x_2.lo ∧ x_2.home = x_2.home ∧ (0 : Int) = (0 : Int) ∧ (0 : Int) = (0 : Int)) ∧ [State.mk x_2.lo x_2.home (0 : Int) (0 : Int)] = [State.mk x_2.lo x_2.home (0 : Int) (0 : Int)] ∧ nilOf Leg = nilOf Leg ∧ x.l = x.l ∧ x_5 = x_5 ∧ x_3 = x_3) ∧
  inv (0 : Int) [] [State.mk x_2.lo x_2.home (0 : Int) (0 : Int)] x_2.lo x_2.home (0 : Int) (0 : Int)) ∧ ∀ (x_9 : Int) (x_10 : List Leg) (x_11 : List State) (x_12 x_13 x_14 x_15 : Int), inv x_9 x_10 x_11 x_12 x_13 x_14 x_15 → (decide (x_9 <
  (↑x_5.length : Int)) = true → ((0 : Int) ≤ x_9 ∧ x_9 < (↑x_5.length : Int)) ∧ x_9.toNat < x_5.length ∧ MapOk x ∧ (True ∧ (x_10.length + [legO (fo x_3 (x_5.getD x_9.toNat FK.stop.zero).order) (x_5.getD x_9.toNat FK.stop.zero).drop].length) *
  ((8 : Nat) * (5 : Nat)) ≤ (140737488355328 : Nat)) ∧ (True ∧ (x_11.length + [(stepS x x_2 (State.mk x_12 x_13 x_14 x_15) (legO (fo x_3 (x_5.getD x_9.toNat FK.stop.zero).order) (x_5.getD x_9.toNat FK.stop.zero).drop)).fst].length) * ((8 :
  Nat) * (4 : Nat)) ≤ (140737488355328 : Nat)) ∧ (((↑x_5.length : Int) = (↑x_5.length : Int) ∧ wrap (x_9 + (1 : Int)) = wrap (x_9 + (1 : Int))) ∧ (x.n = x.n ∧ (x_2.id = x_2.id ∧ x_2.room = x_2.room ∧ x_2.home = x_2.home ∧ x_2.lo = x_2.lo ∧
  x_2.hi = x_2.hi ∧ x_2.retired = x_2.retired ∧ (legO x_7 false).pl = (legO x_7 false).pl ∧ (legO x_7 false).lo = (legO x_7 false).lo ∧ (legO x_7 false).hi = (legO x_7 false).hi ∧ (legO x_7 false).sv = (legO x_7 false).sv ∧ (legO x_7
  false).more = (legO x_7 false).more ∧ (legO x_7 true).pl = (legO x_7 true).pl ∧ (legO x_7 true).lo = (legO x_7 true).lo ∧ (legO x_7 true).hi = (legO x_7 true).hi ∧ (legO x_7 true).sv = (legO x_7 true).sv ∧ (legO x_7 true).more = (legO x_7
  true).more ∧ decide ((↑x_3.length : Int) ≥ (40 : Int)) = decide ((↑x_3.length : Int) ≥ (40 : Int))) ∧ (stepS x x_2 (State.mk x_12 x_13 x_14 x_15) (legO (fo x_3 (x_5.getD x_9.toNat FK.stop.zero).order) (x_5.getD x_9.toNat
  FK.stop.zero).drop)).fst.now = (stepS x x_2 (State.mk x_12 x_13 x_14 x_15) (legO (fo x_3 (x_5.getD x_9.toNat FK.stop.zero).order) (x_5.getD x_9.toNat FK.stop.zero).drop)).fst.now ∧ (stepS x x_2 (State.mk x_12 x_13 x_14 x_15) (legO (fo x_3
  (x_5.getD x_9.toNat FK.stop.zero).order) (x_5.getD x_9.toNat FK.stop.zero).drop)).fst.pos = (stepS x x_2 (State.mk x_12 x_13 x_14 x_15) (legO (fo x_3 (x_5.getD x_9.toNat FK.stop.zero).order) (x_5.getD x_9.toNat FK.stop.zero).drop)).fst.pos
  ∧ (stepS x x_2 (State.mk x_12 x_13 x_14 x_15) (legO (fo x_3 (x_5.getD x_9.toNat FK.stop.zero).order) (x_5.getD x_9.toNat FK.stop.zero).drop)).fst.load = (stepS x x_2 (State.mk x_12 x_13 x_14 x_15) (legO (fo x_3 (x_5.getD x_9.toNat
  FK.stop.zero).order) (x_5.getD x_9.toNat FK.stop.zero).drop)).fst.load ∧ (stepS x x_2 (State.mk x_12 x_13 x_14 x_15) (legO (fo x_3 (x_5.getD x_9.toNat FK.stop.zero).order) (x_5.getD x_9.toNat FK.stop.zero).drop)).fst.way = (stepS x x_2
  (State.mk x_12 x_13 x_14 x_15) (legO (fo x_3 (x_5.getD x_9.toNat FK.stop.zero).order) (x_5.getD x_9.toNat FK.stop.zero).drop)).fst.way) ∧ x_11 ++ [(stepS x x_2 (State.mk x_12 x_13 x_14 x_15) (legO (fo x_3 (x_5.getD x_9.toNat
  FK.stop.zero).order) (x_5.getD x_9.toNat FK.stop.zero).drop)).fst] = x_11 ++ [(stepS x x_2 (State.mk x_12 x_13 x_14 x_15) (legO (fo x_3 (x_5.getD x_9.toNat FK.stop.zero).order) (x_5.getD x_9.toNat FK.stop.zero).drop)).fst] ∧ x_10 ++ [legO
  (fo x_3 (x_5.getD x_9.toNat FK.stop.zero).order) (x_5.getD x_9.toNat FK.stop.zero).drop] = x_10 ++ [legO (fo x_3 (x_5.getD x_9.toNat FK.stop.zero).order) (x_5.getD x_9.toNat FK.stop.zero).drop] ∧ x.l = x.l ∧ x_5 = x_5 ∧ x_3 = x_3) ∧ inv
  (wrap (x_9 + (1 : Int))) (x_10 ++ [legO (fo x_3 (x_5.getD x_9.toNat FK.stop.zero).order) (x_5.getD x_9.toNat FK.stop.zero).drop]) (x_11 ++ [(stepS x x_2 (State.mk x_12 x_13 x_14 x_15) (legO (fo x_3 (x_5.getD x_9.toNat FK.stop.zero).order)
  (x_5.getD x_9.toNat FK.stop.zero).drop)).fst]) (stepS x x_2 (State.mk x_12 x_13 x_14 x_15) (legO (fo x_3 (x_5.getD x_9.toNat FK.stop.zero).order) (x_5.getD x_9.toNat FK.stop.zero).drop)).fst.now (stepS x x_2 (State.mk x_12 x_13 x_14 x_15)
  (legO (fo x_3 (x_5.getD x_9.toNat FK.stop.zero).order) (x_5.getD x_9.toNat FK.stop.zero).drop)).fst.pos (stepS x x_2 (State.mk x_12 x_13 x_14 x_15) (legO (fo x_3 (x_5.getD x_9.toNat FK.stop.zero).order) (x_5.getD x_9.toNat
  FK.stop.zero).drop)).fst.load (stepS x x_2 (State.mk x_12 x_13 x_14 x_15) (legO (fo x_3 (x_5.getD x_9.toNat FK.stop.zero).order) (x_5.getD x_9.toNat FK.stop.zero).drop)).fst.way ∧ μ (wrap (x_9 + (1 : Int))) (x_10 ++ [legO (fo x_3 (x_5.getD
  x_9.toNat FK.stop.zero).order) (x_5.getD x_9.toNat FK.stop.zero).drop]) (x_11 ++ [(stepS x x_2 (State.mk x_12 x_13 x_14 x_15) (legO (fo x_3 (x_5.getD x_9.toNat FK.stop.zero).order) (x_5.getD x_9.toNat FK.stop.zero).drop)).fst]) (stepS x x_2
  (State.mk x_12 x_13 x_14 x_15) (legO (fo x_3 (x_5.getD x_9.toNat FK.stop.zero).order) (x_5.getD x_9.toNat FK.stop.zero).drop)).fst.now (stepS x x_2 (State.mk x_12 x_13 x_14 x_15) (legO (fo x_3 (x_5.getD x_9.toNat FK.stop.zero).order)
  (x_5.getD x_9.toNat FK.stop.zero).drop)).fst.pos (stepS x x_2 (State.mk x_12 x_13 x_14 x_15) (legO (fo x_3 (x_5.getD x_9.toNat FK.stop.zero).order) (x_5.getD x_9.toNat FK.stop.zero).drop)).fst.load (stepS x x_2 (State.mk x_12 x_13 x_14
  x_15) (legO (fo x_3 (x_5.getD x_9.toNat FK.stop.zero).order) (x_5.getD x_9.toNat FK.stop.zero).drop)).fst.way < μ x_9 x_10 x_11 x_12 x_13 x_14 x_15) ∧ (decide (x_9 < (↑x_5.length : Int)) = false → (x_2.id = x_2.id ∧ x_2.room = x_2.room ∧
  x_2.home = x_2.home ∧ x_2.lo = x_2.lo ∧ x_2.hi = x_2.hi ∧ x_2.retired = x_2.retired ∧ (legO x_7 false).pl = (legO x_7 false).pl ∧ (legO x_7 false).lo = (legO x_7 false).lo ∧ (legO x_7 false).hi = (legO x_7 false).hi ∧ (legO x_7 false).sv =
  (legO x_7 false).sv ∧ (legO x_7 false).more = (legO x_7 false).more ∧ (legO x_7 true).pl = (legO x_7 true).pl ∧ (legO x_7 true).lo = (legO x_7 true).lo ∧ (legO x_7 true).hi = (legO x_7 true).hi ∧ (legO x_7 true).sv = (legO x_7 true).sv ∧
  (legO x_7 true).more = (legO x_7 true).more ∧ decide ((↑x_3.length : Int) ≥ (40 : Int)) = (mkS x x_2 x_3 x_5 x_7).full) ∧ x_11 = (mkS x x_2 x_3 x_5 x_7).pre ∧ x_10 = (mkS x x_2 x_3 x_5 x_7).legs)
theorem made_told (hc : CsOk Try.prog made_cs) (h : made_vc) : Told Try.prog 31 made_con := told (A := made_la) tabOk mixed hc Try.func31 (by kernel_rfl) (by kernel_rfl) h
def asked_vc : Prop :=
  (∀ (x : List Order), LenOk x.length → ∀ (x_2 : Order) (x_3 : Int), (∀ (x : MapD), none = some x → MapOk x) → (∀ (x : MapD), none = some x → MapOk x) ∧ (decide (orderE none x_2 = (0 : Int)) = true → ((!(findO x x_2.id).isSome) = true →
  (decide (x_3 ≥ (0 : Int)) = true → decide (x_3 ≤ (100000 : Int)) = askedP none x x_2 x_3) ∧ (decide (x_3 ≥ (0 : Int)) = !true → false = askedP none x x_2 x_3)) ∧ ((!(findO x x_2.id).isSome) = !true → false = askedP none x x_2 x_3)) ∧
  (decide (orderE none x_2 = (0 : Int)) = !true → false = askedP none x x_2 x_3)) ∧ ∀ (x : MapD), LenOk x.l.length → ∀ (x_2 : List Order), LenOk x_2.length → ∀ (x_4 : Order) (x_5 : Int), (∀ (x_6 : MapD), some x = some x_6 → MapOk x_6) → (∀
  (x_7 : MapD), some x = some x_7 → MapOk x_7) ∧ (decide (orderE (some x) x_4 = (0 : Int)) = true → ((!(findO x_2 x_4.id).isSome) = true → (decide (x_5 ≥ (0 : Int)) = true → decide (x_5 ≤ (100000 : Int)) = askedP (some x) x_2 x_4 x_5) ∧
  (decide (x_5 ≥ (0 : Int)) = !true → false = askedP (some x) x_2 x_4 x_5)) ∧ ((!(findO x_2 x_4.id).isSome) = !true → false = askedP (some x) x_2 x_4 x_5)) ∧ (decide (orderE (some x) x_4 = (0 : Int)) = !true → false = askedP (some x) x_2 x_4
  x_5)
theorem asked_told (hc : CsOk Try.prog asked_cs) (h : asked_vc) : Told Try.prog 29 asked_con := told (A := asked_la) tabOk mixed hc Try.func29 (by kernel_rfl) (by kernel_rfl) h
def ibest_vc : Prop :=
  (∀ (x : Driver) (x_1 : List Order), LenOk x_1.length → ∀ (x_3 : Route), LenOk x_3.stops.length → ∀ (x_5 : Order) (x_6 : Int), (∀ (x : MapD), none = some x → MapOk x) → (∀ (x : MapD), none = some x → MapOk x) ∧ ((!askedP none x_1 x_5 x_6) =
  false → ((!decide (x_3.driver = x.id)) = false → (decide (x_3.served < (0 : Int)) = false → (decide (x_3.served > (↑x_3.stops.length : Int)) = true → ((0 : Int) = (hspot (bestP none x x_1 x_3 x_5 x_6).fst).driver ∧ (0 : Int) = (hspot (bestP
  none x x_1 x_3 x_5 x_6).fst).pick ∧ (0 : Int) = (hspot (bestP none x x_1 x_3 x_5 x_6).fst).drop ∧ (0 : Int) = (hspot (bestP none x x_1 x_3 x_5 x_6).fst).cost) ∧ (0 : Int) = (bestP none x x_1 x_3 x_5 x_6).fst.steps ∧ (1 : Int) = (bestP none
  x x_1 x_3 x_5 x_6).snd) ∧ (decide (x_3.served > (↑x_3.stops.length : Int)) = false → (∀ (x : MapD), none = some x → MapOk x) ∧ ((!good (fauR (drive none x x_1 x_3.stops))) = true → ((0 : Int) = (hspot (bestP none x x_1 x_3 x_5
  x_6).fst).driver ∧ (0 : Int) = (hspot (bestP none x x_1 x_3 x_5 x_6).fst).pick ∧ (0 : Int) = (hspot (bestP none x x_1 x_3 x_5 x_6).fst).drop ∧ (0 : Int) = (hspot (bestP none x x_1 x_3 x_5 x_6).fst).cost) ∧ (0 : Int) = (bestP none x x_1 x_3
  x_5 x_6).fst.steps ∧ (1 : Int) = (bestP none x x_1 x_3 x_5 x_6).snd) ∧ ((!good (fauR (drive none x x_1 x_3.stops))) = false → (x.retired = true → ((0 : Int) = (hspot (bestP none x x_1 x_3 x_5 x_6).fst).driver ∧ (0 : Int) = (hspot (bestP
  none x x_1 x_3 x_5 x_6).fst).pick ∧ (0 : Int) = (hspot (bestP none x x_1 x_3 x_5 x_6).fst).drop ∧ (0 : Int) = (hspot (bestP none x x_1 x_3 x_5 x_6).fst).cost) ∧ (0 : Int) = (bestP none x x_1 x_3 x_5 x_6).fst.steps ∧ (23 : Int) = (bestP none
  x x_1 x_3 x_5 x_6).snd) ∧ (x.retired = false → (decide ((↑x_3.stops.length : Int) > (78 : Int)) = true → ((0 : Int) = (hspot (bestP none x x_1 x_3 x_5 x_6).fst).driver ∧ (0 : Int) = (hspot (bestP none x x_1 x_3 x_5 x_6).fst).pick ∧ (0 :
  Int) = (hspot (bestP none x x_1 x_3 x_5 x_6).fst).drop ∧ (0 : Int) = (hspot (bestP none x x_1 x_3 x_5 x_6).fst).cost) ∧ (0 : Int) = (bestP none x x_1 x_3 x_5 x_6).fst.steps ∧ (10 : Int) = (bestP none x x_1 x_3 x_5 x_6).snd) ∧ (decide
  ((↑x_3.stops.length : Int) > (78 : Int)) = false → Bad (nat_lit 9) Oper (Oper.mk (some (nat_lit 75)) (Op.call (Call.mk (Callee.value (Operand.func (nat_lit 31))) (Array.mk [Operand.tmp (nat_lit 69), Operand.tmp (nat_lit 70), Operand.tmp
  (nat_lit 71), Operand.tmp (nat_lit 73), Operand.tmp (nat_lit 74)]) (Array.mk [nat_lit 35, nat_lit 44, nat_lit 24, nat_lit 39, nat_lit 34]))) (nat_lit 87) "insert.go:120" (Array.mk [Edge.mk (nat_lit 0) Ground.data, Edge.mk (nat_lit 1)
  Ground.data, Edge.mk (nat_lit 2) Ground.data, Edge.mk (nat_lit 4) Ground.data, Edge.mk (nat_lit 5) Ground.data]) none)))))) ∧ (decide (x_3.served < (0 : Int)) = !false → ((0 : Int) = (hspot (bestP none x x_1 x_3 x_5 x_6).fst).driver ∧ (0 :
  Int) = (hspot (bestP none x x_1 x_3 x_5 x_6).fst).pick ∧ (0 : Int) = (hspot (bestP none x x_1 x_3 x_5 x_6).fst).drop ∧ (0 : Int) = (hspot (bestP none x x_1 x_3 x_5 x_6).fst).cost) ∧ (0 : Int) = (bestP none x x_1 x_3 x_5 x_6).fst.steps ∧ (1
  : Int) = (bestP none x x_1 x_3 x_5 x_6).snd)) ∧ ((!decide (x_3.driver = x.id)) = !false → ((0 : Int) = (hspot (bestP none x x_1 x_3 x_5 x_6).fst).driver ∧ (0 : Int) = (hspot (bestP none x x_1 x_3 x_5 x_6).fst).pick ∧ (0 : Int) = (hspot
  (bestP none x x_1 x_3 x_5 x_6).fst).drop ∧ (0 : Int) = (hspot (bestP none x x_1 x_3 x_5 x_6).fst).cost) ∧ (0 : Int) = (bestP none x x_1 x_3 x_5 x_6).fst.steps ∧ (1 : Int) = (bestP none x x_1 x_3 x_5 x_6).snd)) ∧ ((!askedP none x_1 x_5 x_6)
  = !false → ((0 : Int) = (hspot (bestP none x x_1 x_3 x_5 x_6).fst).driver ∧ (0 : Int) = (hspot (bestP none x x_1 x_3 x_5 x_6).fst).pick ∧ (0 : Int) = (hspot (bestP none x x_1 x_3 x_5 x_6).fst).drop ∧ (0 : Int) = (hspot (bestP none x x_1 x_3
  x_5 x_6).fst).cost) ∧ (0 : Int) = (bestP none x x_1 x_3 x_5 x_6).fst.steps ∧ (1 : Int) = (bestP none x x_1 x_3 x_5 x_6).snd)) ∧ ∀ (x : MapD), LenOk x.l.length → ∀ (x_2 : Driver) (x_3 : List Order), LenOk x_3.length → ∀ (x_5 : Route), LenOk
  x_5.stops.length → ∀ (x_7 : Order) (x_8 : Int), (∀ (x_9 : MapD), some x = some x_9 → MapOk x_9) → (∀ (x_10 : MapD), some x = some x_10 → MapOk x_10) ∧ ((!askedP (some x) x_3 x_7 x_8) = false → ((!decide (x_5.driver = x_2.id)) = false →
  (decide (x_5.served < (0 : Int)) = false → (decide (x_5.served > (↑x_5.stops.length : Int)) = true → ((0 : Int) = (hspot (bestP (some x) x_2 x_3 x_5 x_7 x_8).fst).driver ∧ (0 : Int) = (hspot (bestP (some x) x_2 x_3 x_5 x_7 x_8).fst).pick ∧
  (0 : Int) = (hspot (bestP (some x) x_2 x_3 x_5 x_7 x_8).fst).drop ∧ (0 : Int) = (hspot (bestP (some x) x_2 x_3 x_5 x_7 x_8).fst).cost) ∧ (0 : Int) = (bestP (some x) x_2 x_3 x_5 x_7 x_8).fst.steps ∧ (1 : Int) = (bestP (some x) x_2 x_3 x_5
  x_7 x_8).snd) ∧ (decide (x_5.served > (↑x_5.stops.length : Int)) = false → (∀ (x_14 : MapD), some x = some x_14 → MapOk x_14) ∧ ((!good (fauR (drive (some x) x_2 x_3 x_5.stops))) = true → ((0 : Int) = (hspot (bestP (some x) x_2 x_3 x_5 x_7
  x_8).fst).driver ∧ (0 : Int) = (hspot (bestP (some x) x_2 x_3 x_5 x_7 x_8).fst).pick ∧ (0 : Int) = (hspot (bestP (some x) x_2 x_3 x_5 x_7 x_8).fst).drop ∧ (0 : Int) = (hspot (bestP (some x) x_2 x_3 x_5 x_7 x_8).fst).cost) ∧ (0 : Int) =
  (bestP (some x) x_2 x_3 x_5 x_7 x_8).fst.steps ∧ (1 : Int) = (bestP (some x) x_2 x_3 x_5 x_7 x_8).snd) ∧ ((!good (fauR (drive (some x) x_2 x_3 x_5.stops))) = false → (x_2.retired = true → ((0 : Int) = (hspot (bestP (some x) x_2 x_3 x_5 x_7
  x_8).fst).driver ∧ (0 : Int) = (hspot (bestP (some x) x_2 x_3 x_5 x_7 x_8).fst).pick ∧ (0 : Int) = (hspot (bestP (some x) x_2 x_3 x_5 x_7 x_8).fst).drop ∧ (0 : Int) = (hspot (bestP (some x) x_2 x_3 x_5 x_7 x_8).fst).cost) ∧ (0 : Int) =
  (bestP (some x) x_2 x_3 x_5 x_7 x_8).fst.steps ∧ (23 : Int) = (bestP (some x) x_2 x_3 x_5 x_7 x_8).snd) ∧ (x_2.retired = false → (decide ((↑x_5.stops.length : Int) > (78 : Int)) = true → ((0 : Int) = (hspot (bestP (some x) x_2 x_3 x_5 x_7
  x_8).fst).driver ∧ (0 : Int) = (hspot (bestP (some x) x_2 x_3 x_5 x_7 x_8).fst).pick ∧ (0 : Int) = (hspot (bestP (some x) x_2 x_3 x_5 x_7 x_8).fst).drop ∧ (0 : Int) = (hspot (bestP (some x) x_2 x_3 x_5 x_7 x_8).fst).cost) ∧ (0 : Int) =
  (bestP (some x) x_2 x_3 x_5 x_7 x_8).fst.steps ∧ (10 : Int) = (bestP (some x) x_2 x_3 x_5 x_7 x_8).snd) ∧ (decide ((↑x_5.stops.length : Int) > (78 : Int)) = false → (MapOk x ∧ x_5.stops.length ≤ (1000 : Nat)) ∧ BestPre (SearchD.mk x x_2
  (mkS x x_2 x_3 x_5.stops x_7).legs (mkS x x_2 x_3 x_5.stops x_7).pre (legO x_7 false) (legO x_7 true) (mkS x x_2 x_3 x_5.stops x_7).full) x_5.served ∧ ((!(bestS (SearchD.mk x x_2 (mkS x x_2 x_3 x_5.stops x_7).legs (mkS x x_2 x_3 x_5.stops
  x_7).pre (legO x_7 false) (legO x_7 true) (mkS x x_2 x_3 x_5.stops x_7).full) x_5.served x_8).found) = true → ((0 : Int) = (hspot (bestP (some x) x_2 x_3 x_5 x_7 x_8).fst).driver ∧ (0 : Int) = (hspot (bestP (some x) x_2 x_3 x_5 x_7
  x_8).fst).pick ∧ (0 : Int) = (hspot (bestP (some x) x_2 x_3 x_5 x_7 x_8).fst).drop ∧ (0 : Int) = (hspot (bestP (some x) x_2 x_3 x_5 x_7 x_8).fst).cost) ∧ (bestS (SearchD.mk x x_2 (mkS x x_2 x_3 x_5.stops x_7).legs (mkS x x_2 x_3 x_5.stops
  x_7).pre (legO x_7 false) (legO x_7 true) (mkS x x_2 x_3 x_5.stops x_7).full) x_5.served x_8).steps = (bestP (some x) x_2 x_3 x_5 x_7 x_8).fst.steps ∧ (20 : Int) = (bestP (some x) x_2 x_3 x_5 x_7 x_8).snd) ∧ ((!(bestS (SearchD.mk x x_2 (mkS
  x x_2 x_3 x_5.stops x_7).legs (mkS x x_2 x_3 x_5.stops x_7).pre (legO x_7 false) (legO x_7 true) (mkS x x_2 x_3 x_5.stops x_7).full) x_5.served x_8).found) = false → ((hspot (bestS (SearchD.mk x x_2 (mkS x x_2 x_3 x_5.stops x_7).legs (mkS x
  x_2 x_3 x_5.stops x_7).pre (legO x_7 false) (legO x_7 true) (mkS x x_2 x_3 x_5.stops x_7).full) x_5.served x_8)).driver = (hspot (bestP (some x) x_2 x_3 x_5 x_7 x_8).fst).driver ∧ (hspot (bestS (SearchD.mk x x_2 (mkS x x_2 x_3 x_5.stops
  x_7).legs (mkS x x_2 x_3 x_5.stops x_7).pre (legO x_7 false) (legO x_7 true) (mkS x x_2 x_3 x_5.stops x_7).full) x_5.served x_8)).pick = (hspot (bestP (some x) x_2 x_3 x_5 x_7 x_8).fst).pick ∧ (hspot (bestS (SearchD.mk x x_2 (mkS x x_2 x_3
  x_5.stops x_7).legs (mkS x x_2 x_3 x_5.stops x_7).pre (legO x_7 false) (legO x_7 true) (mkS x x_2 x_3 x_5.stops x_7).full) x_5.served x_8)).drop = (hspot (bestP (some x) x_2 x_3 x_5 x_7 x_8).fst).drop ∧ (hspot (bestS (SearchD.mk x x_2 (mkS
  x x_2 x_3 x_5.stops x_7).legs (mkS x x_2 x_3 x_5.stops x_7).pre (legO x_7 false) (legO x_7 true) (mkS x x_2 x_3 x_5.stops x_7).full) x_5.served x_8)).cost = (hspot (bestP (some x) x_2 x_3 x_5 x_7 x_8).fst).cost) ∧ (bestS (SearchD.mk x x_2
  (mkS x x_2 x_3 x_5.stops x_7).legs (mkS x x_2 x_3 x_5.stops x_7).pre (legO x_7 false) (legO x_7 true) (mkS x x_2 x_3 x_5.stops x_7).full) x_5.served x_8).steps = (bestP (some x) x_2 x_3 x_5 x_7 x_8).fst.steps ∧ (0 : Int) = (bestP (some x)
  x_2 x_3 x_5 x_7 x_8).snd)))))) ∧ (decide (x_5.served < (0 : Int)) = !false → ((0 : Int) = (hspot (bestP (some x) x_2 x_3 x_5 x_7 x_8).fst).driver ∧ (0 : Int) = (hspot (bestP (some x) x_2 x_3 x_5 x_7 x_8).fst).pick ∧ (0 : Int) = (hspot
  (bestP (some x) x_2 x_3 x_5 x_7 x_8).fst).drop ∧ (0 : Int) = (hspot (bestP (some x) x_2 x_3 x_5 x_7 x_8).fst).cost) ∧ (0 : Int) = (bestP (some x) x_2 x_3 x_5 x_7 x_8).fst.steps ∧ (1 : Int) = (bestP (some x) x_2 x_3 x_5 x_7 x_8).snd)) ∧
  ((!decide (x_5.driver = x_2.id)) = !false → ((0 : Int) = (hspot (bestP (some x) x_2 x_3 x_5 x_7 x_8).fst).driver ∧ (0 : Int) = (hspot (bestP (some x) x_2 x_3 x_5 x_7 x_8).fst).pick ∧ (0 : Int) = (hspot (bestP (some x) x_2 x_3 x_5 x_7
  x_8).fst).drop ∧ (0 : Int) = (hspot (bestP (some x) x_2 x_3 x_5 x_7 x_8).fst).cost) ∧ (0 : Int) = (bestP (some x) x_2 x_3 x_5 x_7 x_8).fst.steps ∧ (1 : Int) = (bestP (some x) x_2 x_3 x_5 x_7 x_8).snd)) ∧ ((!askedP (some x) x_3 x_7 x_8) =
  !false → ((0 : Int) = (hspot (bestP (some x) x_2 x_3 x_5 x_7 x_8).fst).driver ∧ (0 : Int) = (hspot (bestP (some x) x_2 x_3 x_5 x_7 x_8).fst).pick ∧ (0 : Int) = (hspot (bestP (some x) x_2 x_3 x_5 x_7 x_8).fst).drop ∧ (0 : Int) = (hspot
  (bestP (some x) x_2 x_3 x_5 x_7 x_8).fst).cost) ∧ (0 : Int) = (bestP (some x) x_2 x_3 x_5 x_7 x_8).fst.steps ∧ (1 : Int) = (bestP (some x) x_2 x_3 x_5 x_7 x_8).snd)
theorem ibest_told (hc : CsOk Try.prog ibest_cs) (h : ibest_vc) : Told Try.prog 13 ibest_con := told (A := ibest_la) tabOk mixed hc Try.func13 (by kernel_rfl) (by kernel_rfl) h
def look_vc : Prop :=
  (∀ (x : List Driver), LenOk x.length → ∀ (x_2 : List Order), LenOk x_2.length → ∀ (x_4 : List Route), (LenOk x_4.length ∧ ∀ (r : Route), List.Mem r x_4 → LenOk r.stops.length) → ∀ (x_6 : Order) (x_7 : Int), LookPre none x_4 x_7 → ∃ (inv :
  Int → Bool → Int → Int → Int → Int → Int → Prop), ∃ (μ : Int → Bool → Int → Int → Int → Int → Int → Nat), (((x_7 = x_7 ∧ (0 : Int) = (0 : Int) ∧ false = false ∧ (↑x_4.length : Int) = (↑x_4.length : Int) ∧ (0 : Int) = (0 : Int)) ∧ ((x_6.id =
  x_6.id ∧ x_6.size = x_6.size ∧ x_6.pp = x_6.pp ∧ x_6.pf = x_6.pf ∧ x_6.pt = x_6.pt ∧ x_6.ps = x_6.ps ∧ x_6.dp = x_6.dp ∧ x_6.df = x_6.df ∧ x_6.dt = x_6.dt ∧ x_6.ds = x_6.ds) ∧ ((0 : Int) = (0 : Int) ∧ (0 : Int) = (0 : Int) ∧ (0 : Int) = (0
  : Int) ∧ (0 : Int) = (0 : Int)) ∧ (0 : Int) = (0 : Int) ∧ (0 : Int) = (0 : Int) ∧ (0 : Int) = (0 : Int) ∧ (0 : Int) = (0 : Int)) ∧ x_4 = x_4 ∧ x_2 = x_2 ∧ x = x) ∧ inv (0 : Int) false (0 : Int) (0 : Int) (0 : Int) (0 : Int) (0 : Int)) ∧ ∀
  (x_9 : Int) (x_10 : Bool) (x_11 x_12 x_13 x_14 x_15 : Int), inv x_9 x_10 x_11 x_12 x_13 x_14 x_15 → (decide (x_11 < (↑x_4.length : Int)) = true → ((0 : Int) ≤ x_11 ∧ x_11 < (↑x_4.length : Int)) ∧ x_11.toNat < x_4.length ∧ (((findD (x_4.getD
  x_11.toNat (Route.mk (0 : Int) (0 : Int) [])).driver x).getD FK.driver.zero).retired = false → (decide ((↑(x_4.getD x_11.toNat (Route.mk (0 : Int) (0 : Int) [])).stops.length : Int) > (78 : Int)) = true → ((x_7 = x_7 ∧ x_9 = x_9 ∧ x_10 =
  x_10 ∧ (↑x_4.length : Int) = (↑x_4.length : Int) ∧ wrap (x_11 + (1 : Int)) = wrap (x_11 + (1 : Int))) ∧ ((x_6.id = x_6.id ∧ x_6.size = x_6.size ∧ x_6.pp = x_6.pp ∧ x_6.pf = x_6.pf ∧ x_6.pt = x_6.pt ∧ x_6.ps = x_6.ps ∧ x_6.dp = x_6.dp ∧
  x_6.df = x_6.df ∧ x_6.dt = x_6.dt ∧ x_6.ds = x_6.ds) ∧ ((0 : Int) = (0 : Int) ∧ (0 : Int) = (0 : Int) ∧ (0 : Int) = (0 : Int) ∧ (0 : Int) = (0 : Int)) ∧ x_12 = x_12 ∧ x_13 = x_13 ∧ x_14 = x_14 ∧ x_15 = x_15) ∧ x_4 = x_4 ∧ x_2 = x_2 ∧ x = x)
  ∧ inv x_9 x_10 (wrap (x_11 + (1 : Int))) x_12 x_13 x_14 x_15 ∧ μ x_9 x_10 (wrap (x_11 + (1 : Int))) x_12 x_13 x_14 x_15 < μ x_9 x_10 x_11 x_12 x_13 x_14 x_15) ∧ (decide ((↑(x_4.getD x_11.toNat (Route.mk (0 : Int) (0 : Int) [])).stops.length
  : Int) > (78 : Int)) = false → Bad (nat_lit 9) Oper (Oper.mk (some (nat_lit 53)) (Op.call (Call.mk (Callee.value (Operand.func (nat_lit 31))) (Array.mk [Operand.tmp (nat_lit 47), Operand.tmp (nat_lit 48), Operand.tmp (nat_lit 49),
  Operand.tmp (nat_lit 51), Operand.tmp (nat_lit 52)]) (Array.mk [nat_lit 35, nat_lit 44, nat_lit 24, nat_lit 39, nat_lit 34]))) (nat_lit 87) "insert.go:145" (Array.mk [Edge.mk (nat_lit 0) Ground.data, Edge.mk (nat_lit 1) Ground.data, Edge.mk
  (nat_lit 2) Ground.data, Edge.mk (nat_lit 4) Ground.data, Edge.mk (nat_lit 5) Ground.data]) none))) ∧ (((findD (x_4.getD x_11.toNat (Route.mk (0 : Int) (0 : Int) [])).driver x).getD FK.driver.zero).retired = !false → ((x_7 = x_7 ∧ x_9 = x_9
  ∧ x_10 = x_10 ∧ (↑x_4.length : Int) = (↑x_4.length : Int) ∧ wrap (x_11 + (1 : Int)) = wrap (x_11 + (1 : Int))) ∧ ((x_6.id = x_6.id ∧ x_6.size = x_6.size ∧ x_6.pp = x_6.pp ∧ x_6.pf = x_6.pf ∧ x_6.pt = x_6.pt ∧ x_6.ps = x_6.ps ∧ x_6.dp =
  x_6.dp ∧ x_6.df = x_6.df ∧ x_6.dt = x_6.dt ∧ x_6.ds = x_6.ds) ∧ ((0 : Int) = (0 : Int) ∧ (0 : Int) = (0 : Int) ∧ (0 : Int) = (0 : Int) ∧ (0 : Int) = (0 : Int)) ∧ x_12 = x_12 ∧ x_13 = x_13 ∧ x_14 = x_14 ∧ x_15 = x_15) ∧ x_4 = x_4 ∧ x_2 = x_2
  ∧ x = x) ∧ inv x_9 x_10 (wrap (x_11 + (1 : Int))) x_12 x_13 x_14 x_15 ∧ μ x_9 x_10 (wrap (x_11 + (1 : Int))) x_12 x_13 x_14 x_15 < μ x_9 x_10 x_11 x_12 x_13 x_14 x_15)) ∧ (decide (x_11 < (↑x_4.length : Int)) = false → ((!x_10) = true → ((0
  : Int) = (hspot (tellH (lookP none x x_2 x_4 x_6 x_7)).fst).driver ∧ (0 : Int) = (hspot (tellH (lookP none x x_2 x_4 x_6 x_7)).fst).pick ∧ (0 : Int) = (hspot (tellH (lookP none x x_2 x_4 x_6 x_7)).fst).drop ∧ (0 : Int) = (hspot (tellH
  (lookP none x x_2 x_4 x_6 x_7)).fst).cost) ∧ x_9 = (tellH (lookP none x x_2 x_4 x_6 x_7)).fst.steps ∧ (20 : Int) = (tellH (lookP none x x_2 x_4 x_6 x_7)).snd) ∧ ((!x_10) = false → (x_12 = (hspot (tellH (lookP none x x_2 x_4 x_6
  x_7)).fst).driver ∧ x_13 = (hspot (tellH (lookP none x x_2 x_4 x_6 x_7)).fst).pick ∧ x_14 = (hspot (tellH (lookP none x x_2 x_4 x_6 x_7)).fst).drop ∧ x_15 = (hspot (tellH (lookP none x x_2 x_4 x_6 x_7)).fst).cost) ∧ x_9 = (tellH (lookP none
  x x_2 x_4 x_6 x_7)).fst.steps ∧ (0 : Int) = (tellH (lookP none x x_2 x_4 x_6 x_7)).snd))) ∧ ∀ (x : MapD), LenOk x.l.length → ∀ (x_2 : List Driver), LenOk x_2.length → ∀ (x_4 : List Order), LenOk x_4.length → ∀ (x_6 : List Route), (LenOk
  x_6.length ∧ ∀ (r : Route), List.Mem r x_6 → LenOk r.stops.length) → ∀ (x_8 : Order) (x_9 : Int), LookPre (some x) x_6 x_9 → ∃ (inv : Int → Bool → Int → Int → Int → Int → Int → Prop), ∃ (μ : Int → Bool → Int → Int → Int → Int → Int → Nat),
  (((x_9 = x_9 ∧ (0 : Int) = (0 : Int) ∧ false = false ∧ (↑x_6.length : Int) = (↑x_6.length : Int) ∧ (0 : Int) = (0 : Int)) ∧ (x.n = x.n ∧ (x_8.id = x_8.id ∧ x_8.size = x_8.size ∧ x_8.pp = x_8.pp ∧ x_8.pf = x_8.pf ∧ x_8.pt = x_8.pt ∧ x_8.ps =
  x_8.ps ∧ x_8.dp = x_8.dp ∧ x_8.df = x_8.df ∧ x_8.dt = x_8.dt ∧ x_8.ds = x_8.ds) ∧ ((0 : Int) = (0 : Int) ∧ (0 : Int) = (0 : Int) ∧ (0 : Int) = (0 : Int) ∧ (0 : Int) = (0 : Int)) ∧ (0 : Int) = (0 : Int) ∧ (0 : Int) = (0 : Int) ∧ (0 : Int) =
  (0 : Int) ∧ (0 : Int) = (0 : Int)) ∧ x.l = x.l ∧ x_6 = x_6 ∧ x_4 = x_4 ∧ x_2 = x_2) ∧ inv (0 : Int) false (0 : Int) (0 : Int) (0 : Int) (0 : Int) (0 : Int)) ∧ ∀ (x_11 : Int) (x_12 : Bool) (x_13 x_14 x_15 x_16 x_17 : Int), inv x_11 x_12 x_13
  x_14 x_15 x_16 x_17 → (decide (x_13 < (↑x_6.length : Int)) = true → ((0 : Int) ≤ x_13 ∧ x_13 < (↑x_6.length : Int)) ∧ x_13.toNat < x_6.length ∧ (((findD (x_6.getD x_13.toNat (Route.mk (0 : Int) (0 : Int) [])).driver x_2).getD
  FK.driver.zero).retired = false → (decide ((↑(x_6.getD x_13.toNat (Route.mk (0 : Int) (0 : Int) [])).stops.length : Int) > (78 : Int)) = true → ((x_9 = x_9 ∧ x_11 = x_11 ∧ x_12 = x_12 ∧ (↑x_6.length : Int) = (↑x_6.length : Int) ∧ wrap (x_13
  + (1 : Int)) = wrap (x_13 + (1 : Int))) ∧ (x.n = x.n ∧ (x_8.id = x_8.id ∧ x_8.size = x_8.size ∧ x_8.pp = x_8.pp ∧ x_8.pf = x_8.pf ∧ x_8.pt = x_8.pt ∧ x_8.ps = x_8.ps ∧ x_8.dp = x_8.dp ∧ x_8.df = x_8.df ∧ x_8.dt = x_8.dt ∧ x_8.ds = x_8.ds) ∧
  ((0 : Int) = (0 : Int) ∧ (0 : Int) = (0 : Int) ∧ (0 : Int) = (0 : Int) ∧ (0 : Int) = (0 : Int)) ∧ x_14 = x_14 ∧ x_15 = x_15 ∧ x_16 = x_16 ∧ x_17 = x_17) ∧ x.l = x.l ∧ x_6 = x_6 ∧ x_4 = x_4 ∧ x_2 = x_2) ∧ inv x_11 x_12 (wrap (x_13 + (1 :
  Int))) x_14 x_15 x_16 x_17 ∧ μ x_11 x_12 (wrap (x_13 + (1 : Int))) x_14 x_15 x_16 x_17 < μ x_11 x_12 x_13 x_14 x_15 x_16 x_17) ∧ (decide ((↑(x_6.getD x_13.toNat (Route.mk (0 : Int) (0 : Int) [])).stops.length : Int) > (78 : Int)) = false →
  (MapOk x ∧ (x_6.getD x_13.toNat (Route.mk (0 : Int) (0 : Int) [])).stops.length ≤ (1000 : Nat)) ∧ BestPre (SearchD.mk x ((findD (x_6.getD x_13.toNat (Route.mk (0 : Int) (0 : Int) [])).driver x_2).getD FK.driver.zero) (mkS x ((findD
  (x_6.getD x_13.toNat (Route.mk (0 : Int) (0 : Int) [])).driver x_2).getD FK.driver.zero) x_4 (x_6.getD x_13.toNat (Route.mk (0 : Int) (0 : Int) [])).stops x_8).legs (mkS x ((findD (x_6.getD x_13.toNat (Route.mk (0 : Int) (0 : Int)
  [])).driver x_2).getD FK.driver.zero) x_4 (x_6.getD x_13.toNat (Route.mk (0 : Int) (0 : Int) [])).stops x_8).pre (legO x_8 false) (legO x_8 true) (mkS x ((findD (x_6.getD x_13.toNat (Route.mk (0 : Int) (0 : Int) [])).driver x_2).getD
  FK.driver.zero) x_4 (x_6.getD x_13.toNat (Route.mk (0 : Int) (0 : Int) [])).stops x_8).full) (x_6.getD x_13.toNat (Route.mk (0 : Int) (0 : Int) [])).served ∧ ((bestS (SearchD.mk x ((findD (x_6.getD x_13.toNat (Route.mk (0 : Int) (0 : Int)
  [])).driver x_2).getD FK.driver.zero) (mkS x ((findD (x_6.getD x_13.toNat (Route.mk (0 : Int) (0 : Int) [])).driver x_2).getD FK.driver.zero) x_4 (x_6.getD x_13.toNat (Route.mk (0 : Int) (0 : Int) [])).stops x_8).legs (mkS x ((findD
  (x_6.getD x_13.toNat (Route.mk (0 : Int) (0 : Int) [])).driver x_2).getD FK.driver.zero) x_4 (x_6.getD x_13.toNat (Route.mk (0 : Int) (0 : Int) [])).stops x_8).pre (legO x_8 false) (legO x_8 true) (mkS x ((findD (x_6.getD x_13.toNat
  (Route.mk (0 : Int) (0 : Int) [])).driver x_2).getD FK.driver.zero) x_4 (x_6.getD x_13.toNat (Route.mk (0 : Int) (0 : Int) [])).stops x_8).full) (x_6.getD x_13.toNat (Route.mk (0 : Int) (0 : Int) [])).served (wrap (x_9 - x_11))).found =
  true → ((!x_12) = false → (decide ((hspot (bestS (SearchD.mk x ((findD (x_6.getD x_13.toNat (Route.mk (0 : Int) (0 : Int) [])).driver x_2).getD FK.driver.zero) (mkS x ((findD (x_6.getD x_13.toNat (Route.mk (0 : Int) (0 : Int) [])).driver
  x_2).getD FK.driver.zero) x_4 (x_6.getD x_13.toNat (Route.mk (0 : Int) (0 : Int) [])).stops x_8).legs (mkS x ((findD (x_6.getD x_13.toNat (Route.mk (0 : Int) (0 : Int) [])).driver x_2).getD FK.driver.zero) x_4 (x_6.getD x_13.toNat (Route.mk
  (0 : Int) (0 : Int) [])).stops x_8).pre (legO x_8 false) (legO x_8 true) (mkS x ((findD (x_6.getD x_13.toNat (Route.mk (0 : Int) (0 : Int) [])).driver x_2).getD FK.driver.zero) x_4 (x_6.getD x_13.toNat (Route.mk (0 : Int) (0 : Int)
  [])).stops x_8).full) (x_6.getD x_13.toNat (Route.mk (0 : Int) (0 : Int) [])).served (wrap (x_9 - x_11)))).cost < x_17) = true → ((x_9 = x_9 ∧ wrap (x_11 + (bestS (SearchD.mk x ((findD (x_6.getD x_13.toNat (Route.mk (0 : Int) (0 : Int)
  [])).driver x_2).getD FK.driver.zero) (mkS x ((findD (x_6.getD x_13.toNat (Route.mk (0 : Int) (0 : Int) [])).driver x_2).getD FK.driver.zero) x_4 (x_6.getD x_13.toNat (Route.mk (0 : Int) (0 : Int) [])).stops x_8).legs (mkS x ((findD
  (x_6.getD x_13.toNat (Route.mk (0 : Int) (0 : Int) [])).driver x_2).getD FK.driver.zero) x_4 (x_6.getD x_13.toNat (Route.mk (0 : Int) (0 : Int) [])).stops x_8).pre (legO x_8 false) (legO x_8 true) (mkS x ((findD (x_6.getD x_13.toNat
  (Route.mk (0 : Int) (0 : Int) [])).driver x_2).getD FK.driver.zero) x_4 (x_6.getD x_13.toNat (Route.mk (0 : Int) (0 : Int) [])).stops x_8).full) (x_6.getD x_13.toNat (Route.mk (0 : Int) (0 : Int) [])).served (wrap (x_9 - x_11))).steps) =
  wrap (x_11 + (bestS (SearchD.mk x ((findD (x_6.getD x_13.toNat (Route.mk (0 : Int) (0 : Int) [])).driver x_2).getD FK.driver.zero) (mkS x ((findD (x_6.getD x_13.toNat (Route.mk (0 : Int) (0 : Int) [])).driver x_2).getD FK.driver.zero) x_4
  (x_6.getD x_13.toNat (Route.mk (0 : Int) (0 : Int) [])).stops x_8).legs (mkS x ((findD (x_6.getD x_13.toNat (Route.mk (0 : Int) (0 : Int) [])).driver x_2).getD FK.driver.zero) x_4 (x_6.getD x_13.toNat (Route.mk (0 : Int) (0 : Int)
  [])).stops x_8).pre (legO x_8 false) (legO x_8 true) (mkS x ((findD (x_6.getD x_13.toNat (Route.mk (0 : Int) (0 : Int) [])).driver x_2).getD FK.driver.zero) x_4 (x_6.getD x_13.toNat (Route.mk (0 : Int) (0 : Int) [])).stops x_8).full)
  (x_6.getD x_13.toNat (Route.mk (0 : Int) (0 : Int) [])).served (wrap (x_9 - x_11))).steps) ∧ true = true ∧ (↑x_6.length : Int) = (↑x_6.length : Int) ∧ wrap (x_13 + (1 : Int)) = wrap (x_13 + (1 : Int))) ∧ (x.n = x.n ∧ (x_8.id = x_8.id ∧
  x_8.size = x_8.size ∧ x_8.pp = x_8.pp ∧ x_8.pf = x_8.pf ∧ x_8.pt = x_8.pt ∧ x_8.ps = x_8.ps ∧ x_8.dp = x_8.dp ∧ x_8.df = x_8.df ∧ x_8.dt = x_8.dt ∧ x_8.ds = x_8.ds) ∧ ((0 : Int) = (0 : Int) ∧ (0 : Int) = (0 : Int) ∧ (0 : Int) = (0 : Int) ∧
  (0 : Int) = (0 : Int)) ∧ (hspot (bestS (SearchD.mk x ((findD (x_6.getD x_13.toNat (Route.mk (0 : Int) (0 : Int) [])).driver x_2).getD FK.driver.zero) (mkS x ((findD (x_6.getD x_13.toNat (Route.mk (0 : Int) (0 : Int) [])).driver x_2).getD
  FK.driver.zero) x_4 (x_6.getD x_13.toNat (Route.mk (0 : Int) (0 : Int) [])).stops x_8).legs (mkS x ((findD (x_6.getD x_13.toNat (Route.mk (0 : Int) (0 : Int) [])).driver x_2).getD FK.driver.zero) x_4 (x_6.getD x_13.toNat (Route.mk (0 : Int)
  (0 : Int) [])).stops x_8).pre (legO x_8 false) (legO x_8 true) (mkS x ((findD (x_6.getD x_13.toNat (Route.mk (0 : Int) (0 : Int) [])).driver x_2).getD FK.driver.zero) x_4 (x_6.getD x_13.toNat (Route.mk (0 : Int) (0 : Int) [])).stops
  x_8).full) (x_6.getD x_13.toNat (Route.mk (0 : Int) (0 : Int) [])).served (wrap (x_9 - x_11)))).driver = (hspot (bestS (SearchD.mk x ((findD (x_6.getD x_13.toNat (Route.mk (0 : Int) (0 : Int) [])).driver x_2).getD FK.driver.zero) (mkS x
  ((findD (x_6.getD x_13.toNat (Route.mk (0 : Int) (0 : Int) [])).driver x_2).getD FK.driver.zero) x_4 (x_6.getD x_13.toNat (Route.mk (0 : Int) (0 : Int) [])).stops x_8).legs (mkS x ((findD (x_6.getD x_13.toNat (Route.mk (0 : Int) (0 : Int)
  [])).driver x_2).getD FK.driver.zero) x_4 (x_6.getD x_13.toNat (Route.mk (0 : Int) (0 : Int) [])).stops x_8).pre (legO x_8 false) (legO x_8 true) (mkS x ((findD (x_6.getD x_13.toNat (Route.mk (0 : Int) (0 : Int) [])).driver x_2).getD
  FK.driver.zero) x_4 (x_6.getD x_13.toNat (Route.mk (0 : Int) (0 : Int) [])).stops x_8).full) (x_6.getD x_13.toNat (Route.mk (0 : Int) (0 : Int) [])).served (wrap (x_9 - x_11)))).driver ∧ (hspot (bestS (SearchD.mk x ((findD (x_6.getD
  x_13.toNat (Route.mk (0 : Int) (0 : Int) [])).driver x_2).getD FK.driver.zero) (mkS x ((findD (x_6.getD x_13.toNat (Route.mk (0 : Int) (0 : Int) [])).driver x_2).getD FK.driver.zero) x_4 (x_6.getD x_13.toNat (Route.mk (0 : Int) (0 : Int)
  [])).stops x_8).legs (mkS x ((findD (x_6.getD x_13.toNat (Route.mk (0 : Int) (0 : Int) [])).driver x_2).getD FK.driver.zero) x_4 (x_6.getD x_13.toNat (Route.mk (0 : Int) (0 : Int) [])).stops x_8).pre (legO x_8 false) (legO x_8 true) (mkS x
  ((findD (x_6.getD x_13.toNat (Route.mk (0 : Int) (0 : Int) [])).driver x_2).getD FK.driver.zero) x_4 (x_6.getD x_13.toNat (Route.mk (0 : Int) (0 : Int) [])).stops x_8).full) (x_6.getD x_13.toNat (Route.mk (0 : Int) (0 : Int) [])).served
  (wrap (x_9 - x_11)))).pick = (hspot (bestS (SearchD.mk x ((findD (x_6.getD x_13.toNat (Route.mk (0 : Int) (0 : Int) [])).driver x_2).getD FK.driver.zero) (mkS x ((findD (x_6.getD x_13.toNat (Route.mk (0 : Int) (0 : Int) [])).driver
  x_2).getD FK.driver.zero) x_4 (x_6.getD x_13.toNat (Route.mk (0 : Int) (0 : Int) [])).stops x_8).legs (mkS x ((findD (x_6.getD x_13.toNat (Route.mk (0 : Int) (0 : Int) [])).driver x_2).getD FK.driver.zero) x_4 (x_6.getD x_13.toNat (Route.mk
  (0 : Int) (0 : Int) [])).stops x_8).pre (legO x_8 false) (legO x_8 true) (mkS x ((findD (x_6.getD x_13.toNat (Route.mk (0 : Int) (0 : Int) [])).driver x_2).getD FK.driver.zero) x_4 (x_6.getD x_13.toNat (Route.mk (0 : Int) (0 : Int)
  [])).stops x_8).full) (x_6.getD x_13.toNat (Route.mk (0 : Int) (0 : Int) [])).served (wrap (x_9 - x_11)))).pick ∧ (hspot (bestS (SearchD.mk x ((findD (x_6.getD x_13.toNat (Route.mk (0 : Int) (0 : Int) [])).driver x_2).getD FK.driver.zero)
  (mkS x ((findD (x_6.getD x_13.toNat (Route.mk (0 : Int) (0 : Int) [])).driver x_2).getD FK.driver.zero) x_4 (x_6.getD x_13.toNat (Route.mk (0 : Int) (0 : Int) [])).stops x_8).legs (mkS x ((findD (x_6.getD x_13.toNat (Route.mk (0 : Int) (0 :
  Int) [])).driver x_2).getD FK.driver.zero) x_4 (x_6.getD x_13.toNat (Route.mk (0 : Int) (0 : Int) [])).stops x_8).pre (legO x_8 false) (legO x_8 true) (mkS x ((findD (x_6.getD x_13.toNat (Route.mk (0 : Int) (0 : Int) [])).driver x_2).getD
  FK.driver.zero) x_4 (x_6.getD x_13.toNat (Route.mk (0 : Int) (0 : Int) [])).stops x_8).full) (x_6.getD x_13.toNat (Route.mk (0 : Int) (0 : Int) [])).served (wrap (x_9 - x_11)))).drop = (hspot (bestS (SearchD.mk x ((findD (x_6.getD
  x_13.toNat (Route.mk (0 : Int) (0 : Int) [])).driver x_2).getD FK.driver.zero) (mkS x ((findD (x_6.getD x_13.toNat (Route.mk (0 : Int) (0 : Int) [])).driver x_2).getD FK.driver.zero) x_4 (x_6.getD x_13.toNat (Route.mk (0 : Int) (0 : Int)
  [])).stops x_8).legs (mkS x ((findD (x_6.getD x_13.toNat (Route.mk (0 : Int) (0 : Int) [])).driver x_2).getD FK.driver.zero) x_4 (x_6.getD x_13.toNat (Route.mk (0 : Int) (0 : Int) [])).stops x_8).pre (legO x_8 false) (legO x_8 true) (mkS x
  ((findD (x_6.getD x_13.toNat (Route.mk (0 : Int) (0 : Int) [])).driver x_2).getD FK.driver.zero) x_4 (x_6.getD x_13.toNat (Route.mk (0 : Int) (0 : Int) [])).stops x_8).full) (x_6.getD x_13.toNat (Route.mk (0 : Int) (0 : Int) [])).served
  (wrap (x_9 - x_11)))).drop ∧ (hspot (bestS (SearchD.mk x ((findD (x_6.getD x_13.toNat (Route.mk (0 : Int) (0 : Int) [])).driver x_2).getD FK.driver.zero) (mkS x ((findD (x_6.getD x_13.toNat (Route.mk (0 : Int) (0 : Int) [])).driver
  x_2).getD FK.driver.zero) x_4 (x_6.getD x_13.toNat (Route.mk (0 : Int) (0 : Int) [])).stops x_8).legs (mkS x ((findD (x_6.getD x_13.toNat (Route.mk (0 : Int) (0 : Int) [])).driver x_2).getD FK.driver.zero) x_4 (x_6.getD x_13.toNat (Route.mk
  (0 : Int) (0 : Int) [])).stops x_8).pre (legO x_8 false) (legO x_8 true) (mkS x ((findD (x_6.getD x_13.toNat (Route.mk (0 : Int) (0 : Int) [])).driver x_2).getD FK.driver.zero) x_4 (x_6.getD x_13.toNat (Route.mk (0 : Int) (0 : Int)
  [])).stops x_8).full) (x_6.getD x_13.toNat (Route.mk (0 : Int) (0 : Int) [])).served (wrap (x_9 - x_11)))).cost = (hspot (bestS (SearchD.mk x ((findD (x_6.getD x_13.toNat (Route.mk (0 : Int) (0 : Int) [])).driver x_2).getD FK.driver.zero)
  (mkS x ((findD (x_6.getD x_13.toNat (Route.mk (0 : Int) (0 : Int) [])).driver x_2).getD FK.driver.zero) x_4 (x_6.getD x_13.toNat (Route.mk (0 : Int) (0 : Int) [])).stops x_8).legs (mkS x ((findD (x_6.getD x_13.toNat (Route.mk (0 : Int) (0 :
  Int) [])).driver x_2).getD FK.driver.zero) x_4 (x_6.getD x_13.toNat (Route.mk (0 : Int) (0 : Int) [])).stops x_8).pre (legO x_8 false) (legO x_8 true) (mkS x ((findD (x_6.getD x_13.toNat (Route.mk (0 : Int) (0 : Int) [])).driver x_2).getD
  FK.driver.zero) x_4 (x_6.getD x_13.toNat (Route.mk (0 : Int) (0 : Int) [])).stops x_8).full) (x_6.getD x_13.toNat (Route.mk (0 : Int) (0 : Int) [])).served (wrap (x_9 - x_11)))).cost) ∧ x.l = x.l ∧ x_6 = x_6 ∧ x_4 = x_4 ∧ x_2 = x_2) ∧ inv
  (wrap (x_11 + (bestS (SearchD.mk x ((findD (x_6.getD x_13.toNat (Route.mk (0 : Int) (0 : Int) [])).driver x_2).getD FK.driver.zero) (mkS x ((findD (x_6.getD x_13.toNat (Route.mk (0 : Int) (0 : Int) [])).driver x_2).getD FK.driver.zero) x_4
  (x_6.getD x_13.toNat (Route.mk (0 : Int) (0 : Int) [])).stops x_8).legs (mkS x ((findD (x_6.getD x_13.toNat (Route.mk (0 : Int) (0 : Int) [])).driver x_2).getD FK.driver.zero) x_4 (x_6.getD x_13.toNat (Route.mk (0 : Int) (0 : Int)
  [])).stops x_8).pre (legO x_8 false) (legO x_8 true) (mkS x ((findD (x_6.getD x_13.toNat (Route.mk (0 : Int) (0 : Int) [])).driver x_2).getD FK.driver.zero) x_4 (x_6.getD x_13.toNat (Route.mk (0 : Int) (0 : Int) [])).stops x_8).full)
  (x_6.getD x_13.toNat (Route.mk (0 : Int) (0 : Int) [])).served (wrap (x_9 - x_11))).steps)) true (wrap (x_13 + (1 : Int))) (hspot (bestS (SearchD.mk x ((findD (x_6.getD x_13.toNat (Route.mk (0 : Int) (0 : Int) [])).driver x_2).getD
  FK.driver.zero) (mkS x ((findD (x_6.getD x_13.toNat (Route.mk (0 : Int) (0 : Int) [])).driver x_2).getD FK.driver.zero) x_4 (x_6.getD x_13.toNat (Route.mk (0 : Int) (0 : Int) [])).stops x_8).legs (mkS x ((findD (x_6.getD x_13.toNat
  (Route.mk (0 : Int) (0 : Int) [])).driver x_2).getD FK.driver.zero) x_4 (x_6.getD x_13.toNat (Route.mk (0 : Int) (0 : Int) [])).stops x_8).pre (legO x_8 false) (legO x_8 true) (mkS x ((findD (x_6.getD x_13.toNat (Route.mk (0 : Int) (0 :
  Int) [])).driver x_2).getD FK.driver.zero) x_4 (x_6.getD x_13.toNat (Route.mk (0 : Int) (0 : Int) [])).stops x_8).full) (x_6.getD x_13.toNat (Route.mk (0 : Int) (0 : Int) [])).served (wrap (x_9 - x_11)))).driver (hspot (bestS (SearchD.mk x
  ((findD (x_6.getD x_13.toNat (Route.mk (0 : Int) (0 : Int) [])).driver x_2).getD FK.driver.zero) (mkS x ((findD (x_6.getD x_13.toNat (Route.mk (0 : Int) (0 : Int) [])).driver x_2).getD FK.driver.zero) x_4 (x_6.getD x_13.toNat (Route.mk (0 :
  Int) (0 : Int) [])).stops x_8).legs (mkS x ((findD (x_6.getD x_13.toNat (Route.mk (0 : Int) (0 : Int) [])).driver x_2).getD FK.driver.zero) x_4 (x_6.getD x_13.toNat (Route.mk (0 : Int) (0 : Int) [])).stops x_8).pre (legO x_8 false) (legO
  x_8 true) (mkS x ((findD (x_6.getD x_13.toNat (Route.mk (0 : Int) (0 : Int) [])).driver x_2).getD FK.driver.zero) x_4 (x_6.getD x_13.toNat (Route.mk (0 : Int) (0 : Int) [])).stops x_8).full) (x_6.getD x_13.toNat (Route.mk (0 : Int) (0 :
  Int) [])).served (wrap (x_9 - x_11)))).pick (hspot (bestS (SearchD.mk x ((findD (x_6.getD x_13.toNat (Route.mk (0 : Int) (0 : Int) [])).driver x_2).getD FK.driver.zero) (mkS x ((findD (x_6.getD x_13.toNat (Route.mk (0 : Int) (0 : Int)
  [])).driver x_2).getD FK.driver.zero) x_4 (x_6.getD x_13.toNat (Route.mk (0 : Int) (0 : Int) [])).stops x_8).legs (mkS x ((findD (x_6.getD x_13.toNat (Route.mk (0 : Int) (0 : Int) [])).driver x_2).getD FK.driver.zero) x_4 (x_6.getD
  x_13.toNat (Route.mk (0 : Int) (0 : Int) [])).stops x_8).pre (legO x_8 false) (legO x_8 true) (mkS x ((findD (x_6.getD x_13.toNat (Route.mk (0 : Int) (0 : Int) [])).driver x_2).getD FK.driver.zero) x_4 (x_6.getD x_13.toNat (Route.mk (0 :
  Int) (0 : Int) [])).stops x_8).full) (x_6.getD x_13.toNat (Route.mk (0 : Int) (0 : Int) [])).served (wrap (x_9 - x_11)))).drop (hspot (bestS (SearchD.mk x ((findD (x_6.getD x_13.toNat (Route.mk (0 : Int) (0 : Int) [])).driver x_2).getD
  FK.driver.zero) (mkS x ((findD (x_6.getD x_13.toNat (Route.mk (0 : Int) (0 : Int) [])).driver x_2).getD FK.driver.zero) x_4 (x_6.getD x_13.toNat (Route.mk (0 : Int) (0 : Int) [])).stops x_8).legs (mkS x ((findD (x_6.getD x_13.toNat
  (Route.mk (0 : Int) (0 : Int) [])).driver x_2).getD FK.driver.zero) x_4 (x_6.getD x_13.toNat (Route.mk (0 : Int) (0 : Int) [])).stops x_8).pre (legO x_8 false) (legO x_8 true) (mkS x ((findD (x_6.getD x_13.toNat (Route.mk (0 : Int) (0 :
  Int) [])).driver x_2).getD FK.driver.zero) x_4 (x_6.getD x_13.toNat (Route.mk (0 : Int) (0 : Int) [])).stops x_8).full) (x_6.getD x_13.toNat (Route.mk (0 : Int) (0 : Int) [])).served (wrap (x_9 - x_11)))).cost ∧ μ (wrap (x_11 + (bestS
  (SearchD.mk x ((findD (x_6.getD x_13.toNat (Route.mk (0 : Int) (0 : Int) [])).driver x_2).getD FK.driver.zero) (mkS x ((findD (x_6.getD x_13.toNat (Route.mk (0 : Int) (0 : Int) [])).driver x_2).getD FK.driver.zero) x_4 (x_6.getD x_13.toNat
  (Route.mk (0 : Int) (0 : Int) [])).stops x_8).legs (mkS x ((findD (x_6.getD x_13.toNat (Route.mk (0 : Int) (0 : Int) [])).driver x_2).getD FK.driver.zero) x_4 (x_6.getD x_13.toNat (Route.mk (0 : Int) (0 : Int) [])).stops x_8).pre (legO x_8
  false) (legO x_8 true) (mkS x ((findD (x_6.getD x_13.toNat (Route.mk (0 : Int) (0 : Int) [])).driver x_2).getD FK.driver.zero) x_4 (x_6.getD x_13.toNat (Route.mk (0 : Int) (0 : Int) [])).stops x_8).full) (x_6.getD x_13.toNat (Route.mk (0 :
  Int) (0 : Int) [])).served (wrap (x_9 - x_11))).steps)) true (wrap (x_13 + (1 : Int))) (hspot (bestS (SearchD.mk x ((findD (x_6.getD x_13.toNat (Route.mk (0 : Int) (0 : Int) [])).driver x_2).getD FK.driver.zero) (mkS x ((findD (x_6.getD
  x_13.toNat (Route.mk (0 : Int) (0 : Int) [])).driver x_2).getD FK.driver.zero) x_4 (x_6.getD x_13.toNat (Route.mk (0 : Int) (0 : Int) [])).stops x_8).legs (mkS x ((findD (x_6.getD x_13.toNat (Route.mk (0 : Int) (0 : Int) [])).driver
  x_2).getD FK.driver.zero) x_4 (x_6.getD x_13.toNat (Route.mk (0 : Int) (0 : Int) [])).stops x_8).pre (legO x_8 false) (legO x_8 true) (mkS x ((findD (x_6.getD x_13.toNat (Route.mk (0 : Int) (0 : Int) [])).driver x_2).getD FK.driver.zero)
  x_4 (x_6.getD x_13.toNat (Route.mk (0 : Int) (0 : Int) [])).stops x_8).full) (x_6.getD x_13.toNat (Route.mk (0 : Int) (0 : Int) [])).served (wrap (x_9 - x_11)))).driver (hspot (bestS (SearchD.mk x ((findD (x_6.getD x_13.toNat (Route.mk (0 :
  Int) (0 : Int) [])).driver x_2).getD FK.driver.zero) (mkS x ((findD (x_6.getD x_13.toNat (Route.mk (0 : Int) (0 : Int) [])).driver x_2).getD FK.driver.zero) x_4 (x_6.getD x_13.toNat (Route.mk (0 : Int) (0 : Int) [])).stops x_8).legs (mkS x
  ((findD (x_6.getD x_13.toNat (Route.mk (0 : Int) (0 : Int) [])).driver x_2).getD FK.driver.zero) x_4 (x_6.getD x_13.toNat (Route.mk (0 : Int) (0 : Int) [])).stops x_8).pre (legO x_8 false) (legO x_8 true) (mkS x ((findD (x_6.getD x_13.toNat
  (Route.mk (0 : Int) (0 : Int) [])).driver x_2).getD FK.driver.zero) x_4 (x_6.getD x_13.toNat (Route.mk (0 : Int) (0 : Int) [])).stops x_8).full) (x_6.getD x_13.toNat (Route.mk (0 : Int) (0 : Int) [])).served (wrap (x_9 - x_11)))).pick
  (hspot (bestS (SearchD.mk x ((findD (x_6.getD x_13.toNat (Route.mk (0 : Int) (0 : Int) [])).driver x_2).getD FK.driver.zero) (mkS x ((findD (x_6.getD x_13.toNat (Route.mk (0 : Int) (0 : Int) [])).driver x_2).getD FK.driver.zero) x_4
  (x_6.getD x_13.toNat (Route.mk (0 : Int) (0 : Int) [])).stops x_8).legs (mkS x ((findD (x_6.getD x_13.toNat (Route.mk (0 : Int) (0 : Int) [])).driver x_2).getD FK.driver.zero) x_4 (x_6.getD x_13.toNat (Route.mk (0 : Int) (0 : Int)
  [])).stops x_8).pre (legO x_8 false) (legO x_8 true) (mkS x ((findD (x_6.getD x_13.toNat (Route.mk (0 : Int) (0 : Int) [])).driver x_2).getD FK.driver.zero) x_4 (x_6.getD x_13.toNat (Route.mk (0 : Int) (0 : Int) [])).stops x_8).full)
  (x_6.getD x_13.toNat (Route.mk (0 : Int) (0 : Int) [])).served (wrap (x_9 - x_11)))).drop (hspot (bestS (SearchD.mk x ((findD (x_6.getD x_13.toNat (Route.mk (0 : Int) (0 : Int) [])).driver x_2).getD FK.driver.zero) (mkS x ((findD (x_6.getD
  x_13.toNat (Route.mk (0 : Int) (0 : Int) [])).driver x_2).getD FK.driver.zero) x_4 (x_6.getD x_13.toNat (Route.mk (0 : Int) (0 : Int) [])).stops x_8).legs (mkS x ((findD (x_6.getD x_13.toNat (Route.mk (0 : Int) (0 : Int) [])).driver
  x_2).getD FK.driver.zero) x_4 (x_6.getD x_13.toNat (Route.mk (0 : Int) (0 : Int) [])).stops x_8).pre (legO x_8 false) (legO x_8 true) (mkS x ((findD (x_6.getD x_13.toNat (Route.mk (0 : Int) (0 : Int) [])).driver x_2).getD FK.driver.zero)
  x_4 (x_6.getD x_13.toNat (Route.mk (0 : Int) (0 : Int) [])).stops x_8).full) (x_6.getD x_13.toNat (Route.mk (0 : Int) (0 : Int) [])).served (wrap (x_9 - x_11)))).cost < μ x_11 x_12 x_13 x_14 x_15 x_16 x_17) ∧ (decide ((hspot (bestS
  (SearchD.mk x ((findD (x_6.getD x_13.toNat (Route.mk (0 : Int) (0 : Int) [])).driver x_2).getD FK.driver.zero) (mkS x ((findD (x_6.getD x_13.toNat (Route.mk (0 : Int) (0 : Int) [])).driver x_2).getD FK.driver.zero) x_4 (x_6.getD x_13.toNat
  (Route.mk (0 : Int) (0 : Int) [])).stops x_8).legs (mkS x ((findD (x_6.getD x_13.toNat (Route.mk (0 : Int) (0 : Int) [])).driver x_2).getD FK.driver.zero) x_4 (x_6.getD x_13.toNat (Route.mk (0 : Int) (0 : Int) [])).stops x_8).pre (legO x_8
  false) (legO x_8 true) (mkS x ((findD (x_6.getD x_13.toNat (Route.mk (0 : Int) (0 : Int) [])).driver x_2).getD FK.driver.zero) x_4 (x_6.getD x_13.toNat (Route.mk (0 : Int) (0 : Int) [])).stops x_8).full) (x_6.getD x_13.toNat (Route.mk (0 :
  Int) (0 : Int) [])).served (wrap (x_9 - x_11)))).cost < x_17) = false → ((x_9 = x_9 ∧ wrap (x_11 + (bestS (SearchD.mk x ((findD (x_6.getD x_13.toNat (Route.mk (0 : Int) (0 : Int) [])).driver x_2).getD FK.driver.zero) (mkS x ((findD
  (x_6.getD x_13.toNat (Route.mk (0 : Int) (0 : Int) [])).driver x_2).getD FK.driver.zero) x_4 (x_6.getD x_13.toNat (Route.mk (0 : Int) (0 : Int) [])).stops x_8).legs (mkS x ((findD (x_6.getD x_13.toNat (Route.mk (0 : Int) (0 : Int)
  [])).driver x_2).getD FK.driver.zero) x_4 (x_6.getD x_13.toNat (Route.mk (0 : Int) (0 : Int) [])).stops x_8).pre (legO x_8 false) (legO x_8 true) (mkS x ((findD (x_6.getD x_13.toNat (Route.mk (0 : Int) (0 : Int) [])).driver x_2).getD
  FK.driver.zero) x_4 (x_6.getD x_13.toNat (Route.mk (0 : Int) (0 : Int) [])).stops x_8).full) (x_6.getD x_13.toNat (Route.mk (0 : Int) (0 : Int) [])).served (wrap (x_9 - x_11))).steps) = wrap (x_11 + (bestS (SearchD.mk x ((findD (x_6.getD
  x_13.toNat (Route.mk (0 : Int) (0 : Int) [])).driver x_2).getD FK.driver.zero) (mkS x ((findD (x_6.getD x_13.toNat (Route.mk (0 : Int) (0 : Int) [])).driver x_2).getD FK.driver.zero) x_4 (x_6.getD x_13.toNat (Route.mk (0 : Int) (0 : Int)
  [])).stops x_8).legs (mkS x ((findD (x_6.getD x_13.toNat (Route.mk (0 : Int) (0 : Int) [])).driver x_2).getD FK.driver.zero) x_4 (x_6.getD x_13.toNat (Route.mk (0 : Int) (0 : Int) [])).stops x_8).pre (legO x_8 false) (legO x_8 true) (mkS x
  ((findD (x_6.getD x_13.toNat (Route.mk (0 : Int) (0 : Int) [])).driver x_2).getD FK.driver.zero) x_4 (x_6.getD x_13.toNat (Route.mk (0 : Int) (0 : Int) [])).stops x_8).full) (x_6.getD x_13.toNat (Route.mk (0 : Int) (0 : Int) [])).served
  (wrap (x_9 - x_11))).steps) ∧ x_12 = x_12 ∧ (↑x_6.length : Int) = (↑x_6.length : Int) ∧ wrap (x_13 + (1 : Int)) = wrap (x_13 + (1 : Int))) ∧ (x.n = x.n ∧ (x_8.id = x_8.id ∧ x_8.size = x_8.size ∧ x_8.pp = x_8.pp ∧ x_8.pf = x_8.pf ∧ x_8.pt =
  x_8.pt ∧ x_8.ps = x_8.ps ∧ x_8.dp = x_8.dp ∧ x_8.df = x_8.df ∧ x_8.dt = x_8.dt ∧ x_8.ds = x_8.ds) ∧ ((0 : Int) = (0 : Int) ∧ (0 : Int) = (0 : Int) ∧ (0 : Int) = (0 : Int) ∧ (0 : Int) = (0 : Int)) ∧ x_14 = x_14 ∧ x_15 = x_15 ∧ x_16 = x_16 ∧
  x_17 = x_17) ∧ x.l = x.l ∧ x_6 = x_6 ∧ x_4 = x_4 ∧ x_2 = x_2) ∧ inv (wrap (x_11 + (bestS (SearchD.mk x ((findD (x_6.getD x_13.toNat (Route.mk (0 : Int) (0 : Int) [])).driver x_2).getD FK.driver.zero) (mkS x ((findD (x_6.getD x_13.toNat
  (Route.mk (0 : Int) (0 : Int) [])).driver x_2).getD FK.driver.zero) x_4 (x_6.getD x_13.toNat (Route.mk (0 : Int) (0 : Int) [])).stops x_8).legs (mkS x ((findD (x_6.getD x_13.toNat (Route.mk (0 : Int) (0 : Int) [])).driver x_2).getD
  FK.driver.zero) x_4 (x_6.getD x_13.toNat (Route.mk (0 : Int) (0 : Int) [])).stops x_8).pre (legO x_8 false) (legO x_8 true) (mkS x ((findD (x_6.getD x_13.toNat (Route.mk (0 : Int) (0 : Int) [])).driver x_2).getD FK.driver.zero) x_4
  (x_6.getD x_13.toNat (Route.mk (0 : Int) (0 : Int) [])).stops x_8).full) (x_6.getD x_13.toNat (Route.mk (0 : Int) (0 : Int) [])).served (wrap (x_9 - x_11))).steps)) x_12 (wrap (x_13 + (1 : Int))) x_14 x_15 x_16 x_17 ∧ μ (wrap (x_11 + (bestS
  (SearchD.mk x ((findD (x_6.getD x_13.toNat (Route.mk (0 : Int) (0 : Int) [])).driver x_2).getD FK.driver.zero) (mkS x ((findD (x_6.getD x_13.toNat (Route.mk (0 : Int) (0 : Int) [])).driver x_2).getD FK.driver.zero) x_4 (x_6.getD x_13.toNat
  (Route.mk (0 : Int) (0 : Int) [])).stops x_8).legs (mkS x ((findD (x_6.getD x_13.toNat (Route.mk (0 : Int) (0 : Int) [])).driver x_2).getD FK.driver.zero) x_4 (x_6.getD x_13.toNat (Route.mk (0 : Int) (0 : Int) [])).stops x_8).pre (legO x_8
  false) (legO x_8 true) (mkS x ((findD (x_6.getD x_13.toNat (Route.mk (0 : Int) (0 : Int) [])).driver x_2).getD FK.driver.zero) x_4 (x_6.getD x_13.toNat (Route.mk (0 : Int) (0 : Int) [])).stops x_8).full) (x_6.getD x_13.toNat (Route.mk (0 :
  Int) (0 : Int) [])).served (wrap (x_9 - x_11))).steps)) x_12 (wrap (x_13 + (1 : Int))) x_14 x_15 x_16 x_17 < μ x_11 x_12 x_13 x_14 x_15 x_16 x_17)) ∧ ((!x_12) = !false → ((x_9 = x_9 ∧ wrap (x_11 + (bestS (SearchD.mk x ((findD (x_6.getD
  x_13.toNat (Route.mk (0 : Int) (0 : Int) [])).driver x_2).getD FK.driver.zero) (mkS x ((findD (x_6.getD x_13.toNat (Route.mk (0 : Int) (0 : Int) [])).driver x_2).getD FK.driver.zero) x_4 (x_6.getD x_13.toNat (Route.mk (0 : Int) (0 : Int)
  [])).stops x_8).legs (mkS x ((findD (x_6.getD x_13.toNat (Route.mk (0 : Int) (0 : Int) [])).driver x_2).getD FK.driver.zero) x_4 (x_6.getD x_13.toNat (Route.mk (0 : Int) (0 : Int) [])).stops x_8).pre (legO x_8 false) (legO x_8 true) (mkS x
  ((findD (x_6.getD x_13.toNat (Route.mk (0 : Int) (0 : Int) [])).driver x_2).getD FK.driver.zero) x_4 (x_6.getD x_13.toNat (Route.mk (0 : Int) (0 : Int) [])).stops x_8).full) (x_6.getD x_13.toNat (Route.mk (0 : Int) (0 : Int) [])).served
  (wrap (x_9 - x_11))).steps) = wrap (x_11 + (bestS (SearchD.mk x ((findD (x_6.getD x_13.toNat (Route.mk (0 : Int) (0 : Int) [])).driver x_2).getD FK.driver.zero) (mkS x ((findD (x_6.getD x_13.toNat (Route.mk (0 : Int) (0 : Int) [])).driver
  x_2).getD FK.driver.zero) x_4 (x_6.getD x_13.toNat (Route.mk (0 : Int) (0 : Int) [])).stops x_8).legs (mkS x ((findD (x_6.getD x_13.toNat (Route.mk (0 : Int) (0 : Int) [])).driver x_2).getD FK.driver.zero) x_4 (x_6.getD x_13.toNat (Route.mk
  (0 : Int) (0 : Int) [])).stops x_8).pre (legO x_8 false) (legO x_8 true) (mkS x ((findD (x_6.getD x_13.toNat (Route.mk (0 : Int) (0 : Int) [])).driver x_2).getD FK.driver.zero) x_4 (x_6.getD x_13.toNat (Route.mk (0 : Int) (0 : Int)
  [])).stops x_8).full) (x_6.getD x_13.toNat (Route.mk (0 : Int) (0 : Int) [])).served (wrap (x_9 - x_11))).steps) ∧ true = true ∧ (↑x_6.length : Int) = (↑x_6.length : Int) ∧ wrap (x_13 + (1 : Int)) = wrap (x_13 + (1 : Int))) ∧ (x.n = x.n ∧
  (x_8.id = x_8.id ∧ x_8.size = x_8.size ∧ x_8.pp = x_8.pp ∧ x_8.pf = x_8.pf ∧ x_8.pt = x_8.pt ∧ x_8.ps = x_8.ps ∧ x_8.dp = x_8.dp ∧ x_8.df = x_8.df ∧ x_8.dt = x_8.dt ∧ x_8.ds = x_8.ds) ∧ ((0 : Int) = (0 : Int) ∧ (0 : Int) = (0 : Int) ∧ (0 :
  Int) = (0 : Int) ∧ (0 : Int) = (0 : Int)) ∧ (hspot (bestS (SearchD.mk x ((findD (x_6.getD x_13.toNat (Route.mk (0 : Int) (0 : Int) [])).driver x_2).getD FK.driver.zero) (mkS x ((findD (x_6.getD x_13.toNat (Route.mk (0 : Int) (0 : Int)
  [])).driver x_2).getD FK.driver.zero) x_4 (x_6.getD x_13.toNat (Route.mk (0 : Int) (0 : Int) [])).stops x_8).legs (mkS x ((findD (x_6.getD x_13.toNat (Route.mk (0 : Int) (0 : Int) [])).driver x_2).getD FK.driver.zero) x_4 (x_6.getD
  x_13.toNat (Route.mk (0 : Int) (0 : Int) [])).stops x_8).pre (legO x_8 false) (legO x_8 true) (mkS x ((findD (x_6.getD x_13.toNat (Route.mk (0 : Int) (0 : Int) [])).driver x_2).getD FK.driver.zero) x_4 (x_6.getD x_13.toNat (Route.mk (0 :
  Int) (0 : Int) [])).stops x_8).full) (x_6.getD x_13.toNat (Route.mk (0 : Int) (0 : Int) [])).served (wrap (x_9 - x_11)))).driver = (hspot (bestS (SearchD.mk x ((findD (x_6.getD x_13.toNat (Route.mk (0 : Int) (0 : Int) [])).driver x_2).getD
  FK.driver.zero) (mkS x ((findD (x_6.getD x_13.toNat (Route.mk (0 : Int) (0 : Int) [])).driver x_2).getD FK.driver.zero) x_4 (x_6.getD x_13.toNat (Route.mk (0 : Int) (0 : Int) [])).stops x_8).legs (mkS x ((findD (x_6.getD x_13.toNat
  (Route.mk (0 : Int) (0 : Int) [])).driver x_2).getD FK.driver.zero) x_4 (x_6.getD x_13.toNat (Route.mk (0 : Int) (0 : Int) [])).stops x_8).pre (legO x_8 false) (legO x_8 true) (mkS x ((findD (x_6.getD x_13.toNat (Route.mk (0 : Int) (0 :
  Int) [])).driver x_2).getD FK.driver.zero) x_4 (x_6.getD x_13.toNat (Route.mk (0 : Int) (0 : Int) [])).stops x_8).full) (x_6.getD x_13.toNat (Route.mk (0 : Int) (0 : Int) [])).served (wrap (x_9 - x_11)))).driver ∧ (hspot (bestS (SearchD.mk
  x ((findD (x_6.getD x_13.toNat (Route.mk (0 : Int) (0 : Int) [])).driver x_2).getD FK.driver.zero) (mkS x ((findD (x_6.getD x_13.toNat (Route.mk (0 : Int) (0 : Int) [])).driver x_2).getD FK.driver.zero) x_4 (x_6.getD x_13.toNat (Route.mk (0
  : Int) (0 : Int) [])).stops x_8).legs (mkS x ((findD (x_6.getD x_13.toNat (Route.mk (0 : Int) (0 : Int) [])).driver x_2).getD FK.driver.zero) x_4 (x_6.getD x_13.toNat (Route.mk (0 : Int) (0 : Int) [])).stops x_8).pre (legO x_8 false) (legO
  x_8 true) (mkS x ((findD (x_6.getD x_13.toNat (Route.mk (0 : Int) (0 : Int) [])).driver x_2).getD FK.driver.zero) x_4 (x_6.getD x_13.toNat (Route.mk (0 : Int) (0 : Int) [])).stops x_8).full) (x_6.getD x_13.toNat (Route.mk (0 : Int) (0 :
  Int) [])).served (wrap (x_9 - x_11)))).pick = (hspot (bestS (SearchD.mk x ((findD (x_6.getD x_13.toNat (Route.mk (0 : Int) (0 : Int) [])).driver x_2).getD FK.driver.zero) (mkS x ((findD (x_6.getD x_13.toNat (Route.mk (0 : Int) (0 : Int)
  [])).driver x_2).getD FK.driver.zero) x_4 (x_6.getD x_13.toNat (Route.mk (0 : Int) (0 : Int) [])).stops x_8).legs (mkS x ((findD (x_6.getD x_13.toNat (Route.mk (0 : Int) (0 : Int) [])).driver x_2).getD FK.driver.zero) x_4 (x_6.getD
  x_13.toNat (Route.mk (0 : Int) (0 : Int) [])).stops x_8).pre (legO x_8 false) (legO x_8 true) (mkS x ((findD (x_6.getD x_13.toNat (Route.mk (0 : Int) (0 : Int) [])).driver x_2).getD FK.driver.zero) x_4 (x_6.getD x_13.toNat (Route.mk (0 :
  Int) (0 : Int) [])).stops x_8).full) (x_6.getD x_13.toNat (Route.mk (0 : Int) (0 : Int) [])).served (wrap (x_9 - x_11)))).pick ∧ (hspot (bestS (SearchD.mk x ((findD (x_6.getD x_13.toNat (Route.mk (0 : Int) (0 : Int) [])).driver x_2).getD
  FK.driver.zero) (mkS x ((findD (x_6.getD x_13.toNat (Route.mk (0 : Int) (0 : Int) [])).driver x_2).getD FK.driver.zero) x_4 (x_6.getD x_13.toNat (Route.mk (0 : Int) (0 : Int) [])).stops x_8).legs (mkS x ((findD (x_6.getD x_13.toNat
  (Route.mk (0 : Int) (0 : Int) [])).driver x_2).getD FK.driver.zero) x_4 (x_6.getD x_13.toNat (Route.mk (0 : Int) (0 : Int) [])).stops x_8).pre (legO x_8 false) (legO x_8 true) (mkS x ((findD (x_6.getD x_13.toNat (Route.mk (0 : Int) (0 :
  Int) [])).driver x_2).getD FK.driver.zero) x_4 (x_6.getD x_13.toNat (Route.mk (0 : Int) (0 : Int) [])).stops x_8).full) (x_6.getD x_13.toNat (Route.mk (0 : Int) (0 : Int) [])).served (wrap (x_9 - x_11)))).drop = (hspot (bestS (SearchD.mk x
  ((findD (x_6.getD x_13.toNat (Route.mk (0 : Int) (0 : Int) [])).driver x_2).getD FK.driver.zero) (mkS x ((findD (x_6.getD x_13.toNat (Route.mk (0 : Int) (0 : Int) [])).driver x_2).getD FK.driver.zero) x_4 (x_6.getD x_13.toNat (Route.mk (0 :
  Int) (0 : Int) [])).stops x_8).legs (mkS x ((findD (x_6.getD x_13.toNat (Route.mk (0 : Int) (0 : Int) [])).driver x_2).getD FK.driver.zero) x_4 (x_6.getD x_13.toNat (Route.mk (0 : Int) (0 : Int) [])).stops x_8).pre (legO x_8 false) (legO
  x_8 true) (mkS x ((findD (x_6.getD x_13.toNat (Route.mk (0 : Int) (0 : Int) [])).driver x_2).getD FK.driver.zero) x_4 (x_6.getD x_13.toNat (Route.mk (0 : Int) (0 : Int) [])).stops x_8).full) (x_6.getD x_13.toNat (Route.mk (0 : Int) (0 :
  Int) [])).served (wrap (x_9 - x_11)))).drop ∧ (hspot (bestS (SearchD.mk x ((findD (x_6.getD x_13.toNat (Route.mk (0 : Int) (0 : Int) [])).driver x_2).getD FK.driver.zero) (mkS x ((findD (x_6.getD x_13.toNat (Route.mk (0 : Int) (0 : Int)
  [])).driver x_2).getD FK.driver.zero) x_4 (x_6.getD x_13.toNat (Route.mk (0 : Int) (0 : Int) [])).stops x_8).legs (mkS x ((findD (x_6.getD x_13.toNat (Route.mk (0 : Int) (0 : Int) [])).driver x_2).getD FK.driver.zero) x_4 (x_6.getD
  x_13.toNat (Route.mk (0 : Int) (0 : Int) [])).stops x_8).pre (legO x_8 false) (legO x_8 true) (mkS x ((findD (x_6.getD x_13.toNat (Route.mk (0 : Int) (0 : Int) [])).driver x_2).getD FK.driver.zero) x_4 (x_6.getD x_13.toNat (Route.mk (0 :
  Int) (0 : Int) [])).stops x_8).full) (x_6.getD x_13.toNat (Route.mk (0 : Int) (0 : Int) [])).served (wrap (x_9 - x_11)))).cost = (hspot (bestS (SearchD.mk x ((findD (x_6.getD x_13.toNat (Route.mk (0 : Int) (0 : Int) [])).driver x_2).getD
  FK.driver.zero) (mkS x ((findD (x_6.getD x_13.toNat (Route.mk (0 : Int) (0 : Int) [])).driver x_2).getD FK.driver.zero) x_4 (x_6.getD x_13.toNat (Route.mk (0 : Int) (0 : Int) [])).stops x_8).legs (mkS x ((findD (x_6.getD x_13.toNat
  (Route.mk (0 : Int) (0 : Int) [])).driver x_2).getD FK.driver.zero) x_4 (x_6.getD x_13.toNat (Route.mk (0 : Int) (0 : Int) [])).stops x_8).pre (legO x_8 false) (legO x_8 true) (mkS x ((findD (x_6.getD x_13.toNat (Route.mk (0 : Int) (0 :
  Int) [])).driver x_2).getD FK.driver.zero) x_4 (x_6.getD x_13.toNat (Route.mk (0 : Int) (0 : Int) [])).stops x_8).full) (x_6.getD x_13.toNat (Route.mk (0 : Int) (0 : Int) [])).served (wrap (x_9 - x_11)))).cost) ∧ x.l = x.l ∧ x_6 = x_6 ∧ x_4
  = x_4 ∧ x_2 = x_2) ∧ inv (wrap (x_11 + (bestS (SearchD.mk x ((findD (x_6.getD x_13.toNat (Route.mk (0 : Int) (0 : Int) [])).driver x_2).getD FK.driver.zero) (mkS x ((findD (x_6.getD x_13.toNat (Route.mk (0 : Int) (0 : Int) [])).driver
  x_2).getD FK.driver.zero) x_4 (x_6.getD x_13.toNat (Route.mk (0 : Int) (0 : Int) [])).stops x_8).legs (mkS x ((findD (x_6.getD x_13.toNat (Route.mk (0 : Int) (0 : Int) [])).driver x_2).getD FK.driver.zero) x_4 (x_6.getD x_13.toNat (Route.mk
  (0 : Int) (0 : Int) [])).stops x_8).pre (legO x_8 false) (legO x_8 true) (mkS x ((findD (x_6.getD x_13.toNat (Route.mk (0 : Int) (0 : Int) [])).driver x_2).getD FK.driver.zero) x_4 (x_6.getD x_13.toNat (Route.mk (0 : Int) (0 : Int)
  [])).stops x_8).full) (x_6.getD x_13.toNat (Route.mk (0 : Int) (0 : Int) [])).served (wrap (x_9 - x_11))).steps)) true (wrap (x_13 + (1 : Int))) (hspot (bestS (SearchD.mk x ((findD (x_6.getD x_13.toNat (Route.mk (0 : Int) (0 : Int)
  [])).driver x_2).getD FK.driver.zero) (mkS x ((findD (x_6.getD x_13.toNat (Route.mk (0 : Int) (0 : Int) [])).driver x_2).getD FK.driver.zero) x_4 (x_6.getD x_13.toNat (Route.mk (0 : Int) (0 : Int) [])).stops x_8).legs (mkS x ((findD
  (x_6.getD x_13.toNat (Route.mk (0 : Int) (0 : Int) [])).driver x_2).getD FK.driver.zero) x_4 (x_6.getD x_13.toNat (Route.mk (0 : Int) (0 : Int) [])).stops x_8).pre (legO x_8 false) (legO x_8 true) (mkS x ((findD (x_6.getD x_13.toNat
  (Route.mk (0 : Int) (0 : Int) [])).driver x_2).getD FK.driver.zero) x_4 (x_6.getD x_13.toNat (Route.mk (0 : Int) (0 : Int) [])).stops x_8).full) (x_6.getD x_13.toNat (Route.mk (0 : Int) (0 : Int) [])).served (wrap (x_9 - x_11)))).driver
  (hspot (bestS (SearchD.mk x ((findD (x_6.getD x_13.toNat (Route.mk (0 : Int) (0 : Int) [])).driver x_2).getD FK.driver.zero) (mkS x ((findD (x_6.getD x_13.toNat (Route.mk (0 : Int) (0 : Int) [])).driver x_2).getD FK.driver.zero) x_4
  (x_6.getD x_13.toNat (Route.mk (0 : Int) (0 : Int) [])).stops x_8).legs (mkS x ((findD (x_6.getD x_13.toNat (Route.mk (0 : Int) (0 : Int) [])).driver x_2).getD FK.driver.zero) x_4 (x_6.getD x_13.toNat (Route.mk (0 : Int) (0 : Int)
  [])).stops x_8).pre (legO x_8 false) (legO x_8 true) (mkS x ((findD (x_6.getD x_13.toNat (Route.mk (0 : Int) (0 : Int) [])).driver x_2).getD FK.driver.zero) x_4 (x_6.getD x_13.toNat (Route.mk (0 : Int) (0 : Int) [])).stops x_8).full)
  (x_6.getD x_13.toNat (Route.mk (0 : Int) (0 : Int) [])).served (wrap (x_9 - x_11)))).pick (hspot (bestS (SearchD.mk x ((findD (x_6.getD x_13.toNat (Route.mk (0 : Int) (0 : Int) [])).driver x_2).getD FK.driver.zero) (mkS x ((findD (x_6.getD
  x_13.toNat (Route.mk (0 : Int) (0 : Int) [])).driver x_2).getD FK.driver.zero) x_4 (x_6.getD x_13.toNat (Route.mk (0 : Int) (0 : Int) [])).stops x_8).legs (mkS x ((findD (x_6.getD x_13.toNat (Route.mk (0 : Int) (0 : Int) [])).driver
  x_2).getD FK.driver.zero) x_4 (x_6.getD x_13.toNat (Route.mk (0 : Int) (0 : Int) [])).stops x_8).pre (legO x_8 false) (legO x_8 true) (mkS x ((findD (x_6.getD x_13.toNat (Route.mk (0 : Int) (0 : Int) [])).driver x_2).getD FK.driver.zero)
  x_4 (x_6.getD x_13.toNat (Route.mk (0 : Int) (0 : Int) [])).stops x_8).full) (x_6.getD x_13.toNat (Route.mk (0 : Int) (0 : Int) [])).served (wrap (x_9 - x_11)))).drop (hspot (bestS (SearchD.mk x ((findD (x_6.getD x_13.toNat (Route.mk (0 :
  Int) (0 : Int) [])).driver x_2).getD FK.driver.zero) (mkS x ((findD (x_6.getD x_13.toNat (Route.mk (0 : Int) (0 : Int) [])).driver x_2).getD FK.driver.zero) x_4 (x_6.getD x_13.toNat (Route.mk (0 : Int) (0 : Int) [])).stops x_8).legs (mkS x
  ((findD (x_6.getD x_13.toNat (Route.mk (0 : Int) (0 : Int) [])).driver x_2).getD FK.driver.zero) x_4 (x_6.getD x_13.toNat (Route.mk (0 : Int) (0 : Int) [])).stops x_8).pre (legO x_8 false) (legO x_8 true) (mkS x ((findD (x_6.getD x_13.toNat
  (Route.mk (0 : Int) (0 : Int) [])).driver x_2).getD FK.driver.zero) x_4 (x_6.getD x_13.toNat (Route.mk (0 : Int) (0 : Int) [])).stops x_8).full) (x_6.getD x_13.toNat (Route.mk (0 : Int) (0 : Int) [])).served (wrap (x_9 - x_11)))).cost ∧ μ
  (wrap (x_11 + (bestS (SearchD.mk x ((findD (x_6.getD x_13.toNat (Route.mk (0 : Int) (0 : Int) [])).driver x_2).getD FK.driver.zero) (mkS x ((findD (x_6.getD x_13.toNat (Route.mk (0 : Int) (0 : Int) [])).driver x_2).getD FK.driver.zero) x_4
  (x_6.getD x_13.toNat (Route.mk (0 : Int) (0 : Int) [])).stops x_8).legs (mkS x ((findD (x_6.getD x_13.toNat (Route.mk (0 : Int) (0 : Int) [])).driver x_2).getD FK.driver.zero) x_4 (x_6.getD x_13.toNat (Route.mk (0 : Int) (0 : Int)
  [])).stops x_8).pre (legO x_8 false) (legO x_8 true) (mkS x ((findD (x_6.getD x_13.toNat (Route.mk (0 : Int) (0 : Int) [])).driver x_2).getD FK.driver.zero) x_4 (x_6.getD x_13.toNat (Route.mk (0 : Int) (0 : Int) [])).stops x_8).full)
  (x_6.getD x_13.toNat (Route.mk (0 : Int) (0 : Int) [])).served (wrap (x_9 - x_11))).steps)) true (wrap (x_13 + (1 : Int))) (hspot (bestS (SearchD.mk x ((findD (x_6.getD x_13.toNat (Route.mk (0 : Int) (0 : Int) [])).driver x_2).getD
  FK.driver.zero) (mkS x ((findD (x_6.getD x_13.toNat (Route.mk (0 : Int) (0 : Int) [])).driver x_2).getD FK.driver.zero) x_4 (x_6.getD x_13.toNat (Route.mk (0 : Int) (0 : Int) [])).stops x_8).legs (mkS x ((findD (x_6.getD x_13.toNat
  (Route.mk (0 : Int) (0 : Int) [])).driver x_2).getD FK.driver.zero) x_4 (x_6.getD x_13.toNat (Route.mk (0 : Int) (0 : Int) [])).stops x_8).pre (legO x_8 false) (legO x_8 true) (mkS x ((findD (x_6.getD x_13.toNat (Route.mk (0 : Int) (0 :
  Int) [])).driver x_2).getD FK.driver.zero) x_4 (x_6.getD x_13.toNat (Route.mk (0 : Int) (0 : Int) [])).stops x_8).full) (x_6.getD x_13.toNat (Route.mk (0 : Int) (0 : Int) [])).served (wrap (x_9 - x_11)))).driver (hspot (bestS (SearchD.mk x
  ((findD (x_6.getD x_13.toNat (Route.mk (0 : Int) (0 : Int) [])).driver x_2).getD FK.driver.zero) (mkS x ((findD (x_6.getD x_13.toNat (Route.mk (0 : Int) (0 : Int) [])).driver x_2).getD FK.driver.zero) x_4 (x_6.getD x_13.toNat (Route.mk (0 :
  Int) (0 : Int) [])).stops x_8).legs (mkS x ((findD (x_6.getD x_13.toNat (Route.mk (0 : Int) (0 : Int) [])).driver x_2).getD FK.driver.zero) x_4 (x_6.getD x_13.toNat (Route.mk (0 : Int) (0 : Int) [])).stops x_8).pre (legO x_8 false) (legO
  x_8 true) (mkS x ((findD (x_6.getD x_13.toNat (Route.mk (0 : Int) (0 : Int) [])).driver x_2).getD FK.driver.zero) x_4 (x_6.getD x_13.toNat (Route.mk (0 : Int) (0 : Int) [])).stops x_8).full) (x_6.getD x_13.toNat (Route.mk (0 : Int) (0 :
  Int) [])).served (wrap (x_9 - x_11)))).pick (hspot (bestS (SearchD.mk x ((findD (x_6.getD x_13.toNat (Route.mk (0 : Int) (0 : Int) [])).driver x_2).getD FK.driver.zero) (mkS x ((findD (x_6.getD x_13.toNat (Route.mk (0 : Int) (0 : Int)
  [])).driver x_2).getD FK.driver.zero) x_4 (x_6.getD x_13.toNat (Route.mk (0 : Int) (0 : Int) [])).stops x_8).legs (mkS x ((findD (x_6.getD x_13.toNat (Route.mk (0 : Int) (0 : Int) [])).driver x_2).getD FK.driver.zero) x_4 (x_6.getD
  x_13.toNat (Route.mk (0 : Int) (0 : Int) [])).stops x_8).pre (legO x_8 false) (legO x_8 true) (mkS x ((findD (x_6.getD x_13.toNat (Route.mk (0 : Int) (0 : Int) [])).driver x_2).getD FK.driver.zero) x_4 (x_6.getD x_13.toNat (Route.mk (0 :
  Int) (0 : Int) [])).stops x_8).full) (x_6.getD x_13.toNat (Route.mk (0 : Int) (0 : Int) [])).served (wrap (x_9 - x_11)))).drop (hspot (bestS (SearchD.mk x ((findD (x_6.getD x_13.toNat (Route.mk (0 : Int) (0 : Int) [])).driver x_2).getD
  FK.driver.zero) (mkS x ((findD (x_6.getD x_13.toNat (Route.mk (0 : Int) (0 : Int) [])).driver x_2).getD FK.driver.zero) x_4 (x_6.getD x_13.toNat (Route.mk (0 : Int) (0 : Int) [])).stops x_8).legs (mkS x ((findD (x_6.getD x_13.toNat
  (Route.mk (0 : Int) (0 : Int) [])).driver x_2).getD FK.driver.zero) x_4 (x_6.getD x_13.toNat (Route.mk (0 : Int) (0 : Int) [])).stops x_8).pre (legO x_8 false) (legO x_8 true) (mkS x ((findD (x_6.getD x_13.toNat (Route.mk (0 : Int) (0 :
  Int) [])).driver x_2).getD FK.driver.zero) x_4 (x_6.getD x_13.toNat (Route.mk (0 : Int) (0 : Int) [])).stops x_8).full) (x_6.getD x_13.toNat (Route.mk (0 : Int) (0 : Int) [])).served (wrap (x_9 - x_11)))).cost < μ x_11 x_12 x_13 x_14 x_15
  x_16 x_17)) ∧ ((bestS (SearchD.mk x ((findD (x_6.getD x_13.toNat (Route.mk (0 : Int) (0 : Int) [])).driver x_2).getD FK.driver.zero) (mkS x ((findD (x_6.getD x_13.toNat (Route.mk (0 : Int) (0 : Int) [])).driver x_2).getD FK.driver.zero) x_4
  (x_6.getD x_13.toNat (Route.mk (0 : Int) (0 : Int) [])).stops x_8).legs (mkS x ((findD (x_6.getD x_13.toNat (Route.mk (0 : Int) (0 : Int) [])).driver x_2).getD FK.driver.zero) x_4 (x_6.getD x_13.toNat (Route.mk (0 : Int) (0 : Int)
  [])).stops x_8).pre (legO x_8 false) (legO x_8 true) (mkS x ((findD (x_6.getD x_13.toNat (Route.mk (0 : Int) (0 : Int) [])).driver x_2).getD FK.driver.zero) x_4 (x_6.getD x_13.toNat (Route.mk (0 : Int) (0 : Int) [])).stops x_8).full)
  (x_6.getD x_13.toNat (Route.mk (0 : Int) (0 : Int) [])).served (wrap (x_9 - x_11))).found = !true → ((x_9 = x_9 ∧ wrap (x_11 + (bestS (SearchD.mk x ((findD (x_6.getD x_13.toNat (Route.mk (0 : Int) (0 : Int) [])).driver x_2).getD
  FK.driver.zero) (mkS x ((findD (x_6.getD x_13.toNat (Route.mk (0 : Int) (0 : Int) [])).driver x_2).getD FK.driver.zero) x_4 (x_6.getD x_13.toNat (Route.mk (0 : Int) (0 : Int) [])).stops x_8).legs (mkS x ((findD (x_6.getD x_13.toNat
  (Route.mk (0 : Int) (0 : Int) [])).driver x_2).getD FK.driver.zero) x_4 (x_6.getD x_13.toNat (Route.mk (0 : Int) (0 : Int) [])).stops x_8).pre (legO x_8 false) (legO x_8 true) (mkS x ((findD (x_6.getD x_13.toNat (Route.mk (0 : Int) (0 :
  Int) [])).driver x_2).getD FK.driver.zero) x_4 (x_6.getD x_13.toNat (Route.mk (0 : Int) (0 : Int) [])).stops x_8).full) (x_6.getD x_13.toNat (Route.mk (0 : Int) (0 : Int) [])).served (wrap (x_9 - x_11))).steps) = wrap (x_11 + (bestS
  (SearchD.mk x ((findD (x_6.getD x_13.toNat (Route.mk (0 : Int) (0 : Int) [])).driver x_2).getD FK.driver.zero) (mkS x ((findD (x_6.getD x_13.toNat (Route.mk (0 : Int) (0 : Int) [])).driver x_2).getD FK.driver.zero) x_4 (x_6.getD x_13.toNat
  (Route.mk (0 : Int) (0 : Int) [])).stops x_8).legs (mkS x ((findD (x_6.getD x_13.toNat (Route.mk (0 : Int) (0 : Int) [])).driver x_2).getD FK.driver.zero) x_4 (x_6.getD x_13.toNat (Route.mk (0 : Int) (0 : Int) [])).stops x_8).pre (legO x_8
  false) (legO x_8 true) (mkS x ((findD (x_6.getD x_13.toNat (Route.mk (0 : Int) (0 : Int) [])).driver x_2).getD FK.driver.zero) x_4 (x_6.getD x_13.toNat (Route.mk (0 : Int) (0 : Int) [])).stops x_8).full) (x_6.getD x_13.toNat (Route.mk (0 :
  Int) (0 : Int) [])).served (wrap (x_9 - x_11))).steps) ∧ x_12 = x_12 ∧ (↑x_6.length : Int) = (↑x_6.length : Int) ∧ wrap (x_13 + (1 : Int)) = wrap (x_13 + (1 : Int))) ∧ (x.n = x.n ∧ (x_8.id = x_8.id ∧ x_8.size = x_8.size ∧ x_8.pp = x_8.pp ∧
  x_8.pf = x_8.pf ∧ x_8.pt = x_8.pt ∧ x_8.ps = x_8.ps ∧ x_8.dp = x_8.dp ∧ x_8.df = x_8.df ∧ x_8.dt = x_8.dt ∧ x_8.ds = x_8.ds) ∧ ((0 : Int) = (0 : Int) ∧ (0 : Int) = (0 : Int) ∧ (0 : Int) = (0 : Int) ∧ (0 : Int) = (0 : Int)) ∧ x_14 = x_14 ∧
  x_15 = x_15 ∧ x_16 = x_16 ∧ x_17 = x_17) ∧ x.l = x.l ∧ x_6 = x_6 ∧ x_4 = x_4 ∧ x_2 = x_2) ∧ inv (wrap (x_11 + (bestS (SearchD.mk x ((findD (x_6.getD x_13.toNat (Route.mk (0 : Int) (0 : Int) [])).driver x_2).getD FK.driver.zero) (mkS x
  ((findD (x_6.getD x_13.toNat (Route.mk (0 : Int) (0 : Int) [])).driver x_2).getD FK.driver.zero) x_4 (x_6.getD x_13.toNat (Route.mk (0 : Int) (0 : Int) [])).stops x_8).legs (mkS x ((findD (x_6.getD x_13.toNat (Route.mk (0 : Int) (0 : Int)
  [])).driver x_2).getD FK.driver.zero) x_4 (x_6.getD x_13.toNat (Route.mk (0 : Int) (0 : Int) [])).stops x_8).pre (legO x_8 false) (legO x_8 true) (mkS x ((findD (x_6.getD x_13.toNat (Route.mk (0 : Int) (0 : Int) [])).driver x_2).getD
  FK.driver.zero) x_4 (x_6.getD x_13.toNat (Route.mk (0 : Int) (0 : Int) [])).stops x_8).full) (x_6.getD x_13.toNat (Route.mk (0 : Int) (0 : Int) [])).served (wrap (x_9 - x_11))).steps)) x_12 (wrap (x_13 + (1 : Int))) x_14 x_15 x_16 x_17 ∧ μ
  (wrap (x_11 + (bestS (SearchD.mk x ((findD (x_6.getD x_13.toNat (Route.mk (0 : Int) (0 : Int) [])).driver x_2).getD FK.driver.zero) (mkS x ((findD (x_6.getD x_13.toNat (Route.mk (0 : Int) (0 : Int) [])).driver x_2).getD FK.driver.zero) x_4
  (x_6.getD x_13.toNat (Route.mk (0 : Int) (0 : Int) [])).stops x_8).legs (mkS x ((findD (x_6.getD x_13.toNat (Route.mk (0 : Int) (0 : Int) [])).driver x_2).getD FK.driver.zero) x_4 (x_6.getD x_13.toNat (Route.mk (0 : Int) (0 : Int)
  [])).stops x_8).pre (legO x_8 false) (legO x_8 true) (mkS x ((findD (x_6.getD x_13.toNat (Route.mk (0 : Int) (0 : Int) [])).driver x_2).getD FK.driver.zero) x_4 (x_6.getD x_13.toNat (Route.mk (0 : Int) (0 : Int) [])).stops x_8).full)
  (x_6.getD x_13.toNat (Route.mk (0 : Int) (0 : Int) [])).served (wrap (x_9 - x_11))).steps)) x_12 (wrap (x_13 + (1 : Int))) x_14 x_15 x_16 x_17 < μ x_11 x_12 x_13 x_14 x_15 x_16 x_17))) ∧ (((findD (x_6.getD x_13.toNat (Route.mk (0 : Int) (0
  : Int) [])).driver x_2).getD FK.driver.zero).retired = !false → ((x_9 = x_9 ∧ x_11 = x_11 ∧ x_12 = x_12 ∧ (↑x_6.length : Int) = (↑x_6.length : Int) ∧ wrap (x_13 + (1 : Int)) = wrap (x_13 + (1 : Int))) ∧ (x.n = x.n ∧ (x_8.id = x_8.id ∧
  x_8.size = x_8.size ∧ x_8.pp = x_8.pp ∧ x_8.pf = x_8.pf ∧ x_8.pt = x_8.pt ∧ x_8.ps = x_8.ps ∧ x_8.dp = x_8.dp ∧ x_8.df = x_8.df ∧ x_8.dt = x_8.dt ∧ x_8.ds = x_8.ds) ∧ ((0 : Int) = (0 : Int) ∧ (0 : Int) = (0 : Int) ∧ (0 : Int) = (0 : Int) ∧
  (0 : Int) = (0 : Int)) ∧ x_14 = x_14 ∧ x_15 = x_15 ∧ x_16 = x_16 ∧ x_17 = x_17) ∧ x.l = x.l ∧ x_6 = x_6 ∧ x_4 = x_4 ∧ x_2 = x_2) ∧ inv x_11 x_12 (wrap (x_13 + (1 : Int))) x_14 x_15 x_16 x_17 ∧ μ x_11 x_12 (wrap (x_13 + (1 : Int))) x_14 x_15
  x_16 x_17 < μ x_11 x_12 x_13 x_14 x_15 x_16 x_17)) ∧ (decide (x_13 < (↑x_6.length : Int)) = false → ((!x_12) = true → ((0 : Int) = (hspot (tellH (lookP (some x) x_2 x_4 x_6 x_8 x_9)).fst).driver ∧ (0 : Int) = (hspot (tellH (lookP (some x)
  x_2 x_4 x_6 x_8 x_9)).fst).pick ∧ (0 : Int) = (hspot (tellH (lookP (some x) x_2 x_4 x_6 x_8 x_9)).fst).drop ∧ (0 : Int) = (hspot (tellH (lookP (some x) x_2 x_4 x_6 x_8 x_9)).fst).cost) ∧ x_11 = (tellH (lookP (some x) x_2 x_4 x_6 x_8
  x_9)).fst.steps ∧ (20 : Int) = (tellH (lookP (some x) x_2 x_4 x_6 x_8 x_9)).snd) ∧ ((!x_12) = false → (x_14 = (hspot (tellH (lookP (some x) x_2 x_4 x_6 x_8 x_9)).fst).driver ∧ x_15 = (hspot (tellH (lookP (some x) x_2 x_4 x_6 x_8
  x_9)).fst).pick ∧ x_16 = (hspot (tellH (lookP (some x) x_2 x_4 x_6 x_8 x_9)).fst).drop ∧ x_17 = (hspot (tellH (lookP (some x) x_2 x_4 x_6 x_8 x_9)).fst).cost) ∧ x_11 = (tellH (lookP (some x) x_2 x_4 x_6 x_8 x_9)).fst.steps ∧ (0 : Int) =
  (tellH (lookP (some x) x_2 x_4 x_6 x_8 x_9)).snd))
theorem look_told (hc : CsOk Try.prog look_cs) (h : look_vc) : Told Try.prog 35 look_con := told (A := look_la) tabOk mixed hc Try.func35 (by kernel_rfl) (by kernel_rfl) h
def cheap_vc : Prop :=
  (∀ (x : List Driver), LenOk x.length → ∀ (x_2 : List Order), LenOk x_2.length → ∀ (x_4 : List Route), (LenOk x_4.length ∧ ∀ (r : Route), List.Mem r x_4 → LenOk r.stops.length) → ∀ (x_6 : Order) (x_7 : Int), (∀ (x : MapD), none = some x →
  MapOk x) → (∀ (x : MapD), none = some x → MapOk x) ∧ ((!good (cfauR (makeP none x x_2 x_4))) = false → (∀ (x : MapD), none = some x → MapOk x) ∧ ((!askedP none x_2 x_6 x_7) = true → ((0 : Int) = (hspot (cheapP none x x_2 x_4 x_6
  x_7).fst).driver ∧ (0 : Int) = (hspot (cheapP none x x_2 x_4 x_6 x_7).fst).pick ∧ (0 : Int) = (hspot (cheapP none x x_2 x_4 x_6 x_7).fst).drop ∧ (0 : Int) = (hspot (cheapP none x x_2 x_4 x_6 x_7).fst).cost) ∧ (0 : Int) = (cheapP none x x_2
  x_4 x_6 x_7).fst.steps ∧ (1 : Int) = (cheapP none x x_2 x_4 x_6 x_7).snd) ∧ ((!askedP none x_2 x_6 x_7) = false → LookPre none x_4 x_7 ∧ ((hspot (tellH (lookP none x x_2 x_4 x_6 x_7)).fst).driver = (hspot (cheapP none x x_2 x_4 x_6
  x_7).fst).driver ∧ (hspot (tellH (lookP none x x_2 x_4 x_6 x_7)).fst).pick = (hspot (cheapP none x x_2 x_4 x_6 x_7).fst).pick ∧ (hspot (tellH (lookP none x x_2 x_4 x_6 x_7)).fst).drop = (hspot (cheapP none x x_2 x_4 x_6 x_7).fst).drop ∧
  (hspot (tellH (lookP none x x_2 x_4 x_6 x_7)).fst).cost = (hspot (cheapP none x x_2 x_4 x_6 x_7).fst).cost) ∧ (tellH (lookP none x x_2 x_4 x_6 x_7)).fst.steps = (cheapP none x x_2 x_4 x_6 x_7).fst.steps ∧ (tellH (lookP none x x_2 x_4 x_6
  x_7)).snd = (cheapP none x x_2 x_4 x_6 x_7).snd)) ∧ ((!good (cfauR (makeP none x x_2 x_4))) = !false → ((0 : Int) = (hspot (cheapP none x x_2 x_4 x_6 x_7).fst).driver ∧ (0 : Int) = (hspot (cheapP none x x_2 x_4 x_6 x_7).fst).pick ∧ (0 :
  Int) = (hspot (cheapP none x x_2 x_4 x_6 x_7).fst).drop ∧ (0 : Int) = (hspot (cheapP none x x_2 x_4 x_6 x_7).fst).cost) ∧ (0 : Int) = (cheapP none x x_2 x_4 x_6 x_7).fst.steps ∧ (1 : Int) = (cheapP none x x_2 x_4 x_6 x_7).snd)) ∧ ∀ (x :
  MapD), LenOk x.l.length → ∀ (x_2 : List Driver), LenOk x_2.length → ∀ (x_4 : List Order), LenOk x_4.length → ∀ (x_6 : List Route), (LenOk x_6.length ∧ ∀ (r : Route), List.Mem r x_6 → LenOk r.stops.length) → ∀ (x_8 : Order) (x_9 : Int), (∀
  (x_10 : MapD), some x = some x_10 → MapOk x_10) → (∀ (x_11 : MapD), some x = some x_11 → MapOk x_11) ∧ ((!good (cfauR (makeP (some x) x_2 x_4 x_6))) = false → (∀ (x_12 : MapD), some x = some x_12 → MapOk x_12) ∧ ((!askedP (some x) x_4 x_8
  x_9) = true → ((0 : Int) = (hspot (cheapP (some x) x_2 x_4 x_6 x_8 x_9).fst).driver ∧ (0 : Int) = (hspot (cheapP (some x) x_2 x_4 x_6 x_8 x_9).fst).pick ∧ (0 : Int) = (hspot (cheapP (some x) x_2 x_4 x_6 x_8 x_9).fst).drop ∧ (0 : Int) =
  (hspot (cheapP (some x) x_2 x_4 x_6 x_8 x_9).fst).cost) ∧ (0 : Int) = (cheapP (some x) x_2 x_4 x_6 x_8 x_9).fst.steps ∧ (1 : Int) = (cheapP (some x) x_2 x_4 x_6 x_8 x_9).snd) ∧ ((!askedP (some x) x_4 x_8 x_9) = false → LookPre (some x) x_6
  x_9 ∧ ((hspot (tellH (lookP (some x) x_2 x_4 x_6 x_8 x_9)).fst).driver = (hspot (cheapP (some x) x_2 x_4 x_6 x_8 x_9).fst).driver ∧ (hspot (tellH (lookP (some x) x_2 x_4 x_6 x_8 x_9)).fst).pick = (hspot (cheapP (some x) x_2 x_4 x_6 x_8
  x_9).fst).pick ∧ (hspot (tellH (lookP (some x) x_2 x_4 x_6 x_8 x_9)).fst).drop = (hspot (cheapP (some x) x_2 x_4 x_6 x_8 x_9).fst).drop ∧ (hspot (tellH (lookP (some x) x_2 x_4 x_6 x_8 x_9)).fst).cost = (hspot (cheapP (some x) x_2 x_4 x_6
  x_8 x_9).fst).cost) ∧ (tellH (lookP (some x) x_2 x_4 x_6 x_8 x_9)).fst.steps = (cheapP (some x) x_2 x_4 x_6 x_8 x_9).fst.steps ∧ (tellH (lookP (some x) x_2 x_4 x_6 x_8 x_9)).snd = (cheapP (some x) x_2 x_4 x_6 x_8 x_9).snd)) ∧ ((!good (cfauR
  (makeP (some x) x_2 x_4 x_6))) = !false → ((0 : Int) = (hspot (cheapP (some x) x_2 x_4 x_6 x_8 x_9).fst).driver ∧ (0 : Int) = (hspot (cheapP (some x) x_2 x_4 x_6 x_8 x_9).fst).pick ∧ (0 : Int) = (hspot (cheapP (some x) x_2 x_4 x_6 x_8
  x_9).fst).drop ∧ (0 : Int) = (hspot (cheapP (some x) x_2 x_4 x_6 x_8 x_9).fst).cost) ∧ (0 : Int) = (cheapP (some x) x_2 x_4 x_6 x_8 x_9).fst.steps ∧ (1 : Int) = (cheapP (some x) x_2 x_4 x_6 x_8 x_9).snd)
theorem cheap_told (hc : CsOk Try.prog cheap_cs) (h : cheap_vc) : Told Try.prog 17 cheap_con := told (A := cheap_la) tabOk mixed hc Try.func17 (by kernel_rfl) (by kernel_rfl) h
end Go.Eng

/- An order's place looked for: the functions that look. -/
set_option linter.unusedVariables false
set_option linter.unusedSimpArgs false
namespace Go.Eng
open Go Go.Proofs
theorem legOf_ok : legOf_vc := by
  unfold legOf_vc
  intro o b
  cases b <;> simp [legO]
theorem legOf_t : Told Try.prog 54 legOf_con := legOf_told csOk_nil legOf_ok
theorem step_ok : step_vc := by
  unfold step_vc
  simp only [bad_false, int0, nilOf, decide_eq_true_eq, decide_eq_false_iff_not, Bool.not_eq_true', Bool.not_eq_false', Bool.not_true, Bool.not_false, Bool.false_eq_true, Bool.true_eq_false, eq_self, true_and, and_true, false_or, or_false, false_implies, true_implies, implies_true, Int.not_lt, Int.not_le, gt_iff_lt, ge_iff_le, ne_eq]
  intro x _ s l hm
  refine ⟨fun y hy => by injection hy with hy; subst hy; exact hm, fun h => ⟨fun h2 => ?_, fun h2 => ?_⟩, fun h => ?_⟩
  · refine ⟨⟨rfl, rfl, rfl, rfl⟩, ?_⟩
    unfold stepS
    dsimp only
    rw [show (stepB x.m s l).2 = true from h, decide_eq_true (show (stepN x.m s l).now ≤ x.d.hi from h2)]
    rfl
  · have : ¬ (wrap ((begin_ ⟨l.lo, l.hi⟩ (wrap (s.now + (mtime (some x.m) s.pos l.pl).1))).1 + l.sv) ≤ x.d.hi) := by omega
    simp [stepS, stepN, stepB, stepT, h, this]
  · simp [stepS, stepN, stepB, stepT, h]
theorem step_t : Told Try.prog 55 step_con := step_told (csOk_cons time_t (csOk_cons begin_t csOk_nil)) step_ok
theorem runS_false {m : MapD} {d : Driver} {s : State} : ∀ (l : List Leg), runS m d (s, false) l = (s, false)
  | [] => rfl
  | l :: ls => by rw [runS]; rfl
theorem runS_true {m : MapD} {d : Driver} {s : State} {l : Leg} {ls : List Leg} : runS m d (s, true) (l :: ls) = runS m d (stepS m d s l) ls := by rw [runS]; rfl
theorem drop_cut {α : Type} (d : α) {l : List α} {k j : Nat} (hk : k < j) (hj : j ≤ l.length) : (l.drop k).take (j - k) = l.getD k d :: (l.drop (k + 1)).take (j - (k + 1)) := by
  have h1 : l.drop k = l.getD k d :: l.drop (k + 1) := by
    rw [List.drop_eq_getElem_cons (by omega : k < l.length)]
    simp [List.getD, (by omega : k < l.length)]
  rw [h1, show j - k = (j - (k + 1)) + 1 by omega, List.take_succ_cons]
theorem price_ok : price_vc := by
  unfold price_vc
  simp only [bad_false, int0, nilOf, decide_eq_true_eq, decide_eq_false_iff_not, Bool.not_eq_true', Bool.not_eq_false', Bool.not_true, Bool.not_false, Bool.false_eq_true, Bool.true_eq_false, eq_self, true_and, and_true, false_or, or_false, false_implies, true_implies, implies_true, Int.not_lt, Int.not_le, gt_iff_lt, ge_iff_le, ne_eq]
  intro x hx i j hp
  obtain ⟨hm, ⟨i0, i1⟩, hj, hpre⟩ := hp
  have hl := hx.2.1.le
  refine ⟨⟨i0, by omega⟩, by omega, hm, ?_⟩
  have fls : ∀ {s : State} {l l' : List Leg}, runS x.m x.d (s, false) l = priceR x i j → runS x.m x.d (s, false) l' = priceR x i j := fun h => by rw [runS_false] at h ⊢; exact h
  refine ⟨fun ok a b c e => runS x.m x.d (⟨a, b, c, e⟩, ok) (x.drop :: x.legs.drop j.toNat) = priceR x i j,
    ⟨fun ok k a b c e => i ≤ k ∧ k ≤ j ∧ runS x.m x.d (⟨a, b, c, e⟩, ok) ((x.legs.drop k.toNat).take (j.toNat - k.toNat) ++ x.drop :: x.legs.drop j.toNat) = priceR x i j, fun _ k _ _ _ _ => (j - k).toNat, ⟨Int.le_refl _, i1, rfl⟩, fun ok k a b c e hI => ⟨fun hk => ⟨fun hok => ?_, fun hok => ?_⟩, fun hk => ?_⟩⟩,
    fun ok a b c e hA => ⟨fun ok a b c e => runS x.m x.d (⟨a, b, c, e⟩, ok) (x.legs.drop j.toNat) = priceR x i j, ⟨fun hok => ?_, fun hok => ?_⟩, fun ok a b c e hB => ?_⟩⟩
  · obtain ⟨k0, k1, hI⟩ := hI
    subst hok
    have w1 : wrap (k + 1) = k + 1 := wrap_id (by omega) (by omega)
    have e1 : (k + 1).toNat = k.toNat + 1 := by omega
    rw [drop_cut (FK.zero .leg) (by omega : k.toNat < j.toNat) (by omega), List.cons_append, runS_true] at hI
    rw [w1]
    refine ⟨⟨by omega, by omega⟩, by omega, hm, ⟨by omega, by omega, ?_⟩, by dsimp only; omega⟩
    rw [e1]
    exact hI
  · obtain ⟨k0, k1, hI⟩ := hI
    subst hok
    exact fls hI
  · obtain ⟨k0, k1, hI⟩ := hI
    have : k = j := by omega
    subst this
    rw [Nat.sub_self, List.take_zero, List.nil_append] at hI
    exact hI
  · subst hok
    rw [runS_true] at hA
    exact ⟨hm, hA⟩
  · subst hok
    exact fls hA
  · have fin : ∀ (ok : Bool) (a b c e : Int), (⟨⟨a, b, c, e⟩, ok⟩ : State × Bool) = priceR x i j →
        ((0 : Int) ≤ (x.legs.length : Int) ∧ (x.legs.length : Int) < (x.pre.length : Int)) ∧ ((x.legs.length : Int)).toNat < x.pre.length ∧
          (ok = true → wrap (e - (x.pre.getD ((x.legs.length : Int)).toNat (FK.zero .state)).way) = (priceS x i j).1 ∧ (!x.full) = (priceS x i j).2) ∧
          (ok = false → wrap (e - (x.pre.getD ((x.legs.length : Int)).toNat (FK.zero .state)).way) = (priceS x i j).1 ∧ false = (priceS x i j).2) := by
      intro ok a b c e h
      have e1 : (priceS x i j).1 = wrap (e - (x.pre.getD x.legs.length sz).way) := by unfold priceS; rw [← h]
      have e2 : (priceS x i j).2 = (ok && !x.full) := by unfold priceS; rw [← h]
      rw [e1, e2, Int.toNat_natCast]
      refine ⟨⟨by omega, by omega⟩, by omega, fun hok => ⟨rfl, by rw [hok, Bool.true_and]⟩, fun hok => ⟨rfl, by rw [hok, Bool.false_and]⟩⟩
    refine ⟨fun ok k a b c e => j ≤ k ∧ k ≤ (x.legs.length : Int) ∧ runS x.m x.d (⟨a, b, c, e⟩, ok) (x.legs.drop k.toNat) = priceR x i j, fun _ k _ _ _ _ => ((x.legs.length : Int) - k).toNat, ⟨Int.le_refl _, hj, hB⟩, fun ok k a b c e hI => ⟨fun hk => ⟨fun hok => ?_, fun hok => ?_⟩, fun hk => ?_⟩⟩
    · obtain ⟨k0, k1, hI⟩ := hI
      subst hok
      have w1 : wrap (k + 1) = k + 1 := wrap_id (by omega) (by omega)
      have e1 : (k + 1).toNat = k.toNat + 1 := by omega
      have hdr : x.legs.drop k.toNat = x.legs.getD k.toNat (FK.zero .leg) :: x.legs.drop (k.toNat + 1) := by
        rw [List.drop_eq_getElem_cons (by omega : k.toNat < x.legs.length)]; simp [List.getD, (by omega : k.toNat < x.legs.length)]
      rw [hdr, runS_true] at hI
      rw [w1]
      refine ⟨⟨by omega, by omega⟩, by omega, hm, ⟨by omega, by omega, ?_⟩, by dsimp only; omega⟩
      rw [e1]
      exact hI
    · obtain ⟨k0, k1, hI⟩ := hI
      subst hok
      rw [runS_false] at hI
      exact fin _ _ _ _ _ hI
    · obtain ⟨k0, k1, hI⟩ := hI
      have e1 : k.toNat = x.legs.length := by omega
      rw [e1, List.drop_length, runS] at hI
      exact fin _ _ _ _ _ hI
theorem price_t : Told Try.prog 56 price_con := price_told (csOk_cons step_t csOk_nil) price_ok
theorem rowP_length {i : Int} : ∀ (k : Nat) (j : Int), (rowP i k j).length = k
  | 0, _ => rfl
  | k + 1, j => by simp [rowP, rowP_length k]
theorem pairsP_length : ∀ (k : Nat) (i : Int), (pairsP k i).length ≤ k * k
  | 0, _ => Nat.le_refl _
  | k + 1, i => by
    have := pairsP_length k (i + 1)
    rw [pairsP, List.length_append, rowP_length, Nat.succ_mul, Nat.mul_succ]
    omega
theorem rowP_next {i j n : Int} (h : j ≤ n) : rowP i (n + 1 - j).toNat j = (i, j) :: rowP i (n + 1 - (j + 1)).toNat (j + 1) := by
  rw [show (n + 1 - j).toNat = (n + 1 - (j + 1)).toNat + 1 by omega, rowP]
theorem pairsP_next {i n : Int} (h : i ≤ n) : pairsP (n + 1 - i).toNat i = rowP i (n + 1 - i).toNat i ++ pairsP (n + 1 - (i + 1)).toNat (i + 1) := by
  rw [show (n + 1 - i).toNat = (n + 1 - (i + 1)).toNat + 1 by omega, pairsP]
theorem sbest_ok : sbest_vc := by
  unfold sbest_vc
  simp only [bad_false, int0, nilOf, decide_eq_true_eq, decide_eq_false_iff_not, Bool.not_eq_true', Bool.not_eq_false', Bool.not_true, Bool.not_false, Bool.false_eq_true, Bool.true_eq_false, eq_self, true_and, and_true, false_or, or_false, false_implies, true_implies, implies_true, Int.not_lt, Int.not_le, gt_iff_lt, ge_iff_le, ne_eq]
  intro x hx s b hp
  obtain ⟨hm, s0, hl, hpre⟩ := hp
  have hR : bestS x s b = huntGo x.d.id (priceS x) b (pairsP ((x.legs.length : Int) + 1 - s).toNat s) hz := rfl
  generalize bestS x s b = R at *
  have hlen0 : (pairsP ((x.legs.length : Int) + 1 - s).toNat s).length ≤ 1001 * 1001 := by
    refine Nat.le_trans (pairsP_length _ _) (Nat.mul_le_mul ?_ ?_) <;> omega
  refine ⟨fun st f i d p q c => 0 ≤ i ∧ 0 ≤ st ∧ st + (pairsP ((x.legs.length : Int) + 1 - i).toNat i).length ≤ 4000000 ∧ huntGo x.d.id (priceS x) b (pairsP ((x.legs.length : Int) + 1 - i).toNat i) ⟨d, p, q, c, f, st⟩ = R, fun _ _ i _ _ _ _ => ((x.legs.length : Int) + 1 - i).toNat, ⟨s0, Int.le_refl _, by omega, hR.symm⟩, fun st f i d p q c hI => ⟨fun hi => ?_, fun hi => ?_⟩⟩
  · obtain ⟨i0, t0, t1, hI⟩ := hI
    rw [pairsP_next hi] at hI t1
    refine ⟨fun st f j d p q c => i ≤ j ∧ j ≤ (x.legs.length : Int) + 1 ∧ 0 ≤ st ∧ st + (rowP i ((x.legs.length : Int) + 1 - j).toNat j ++ pairsP ((x.legs.length : Int) + 1 - (i + 1)).toNat (i + 1)).length ≤ 4000000 ∧
      huntGo x.d.id (priceS x) b (rowP i ((x.legs.length : Int) + 1 - j).toNat j ++ pairsP ((x.legs.length : Int) + 1 - (i + 1)).toNat (i + 1)) ⟨d, p, q, c, f, st⟩ = R, fun _ _ j _ _ _ _ => ((x.legs.length : Int) + 1 - j).toNat, ⟨Int.le_refl _, by omega, t0, t1, hI⟩, fun st f j d p q c hJ => ⟨fun hj => ?_, fun hj => ?_⟩⟩
    · obtain ⟨j0, j1, u0, u1, hJ⟩ := hJ
      rw [rowP_next hj, List.cons_append] at hJ u1
      rw [List.length_cons] at u1
      rw [huntGo] at hJ
      have w1 : wrap (st + 1) = st + 1 := wrap_id (by omega) (by omega)
      have w2 : wrap (j + 1) = j + 1 := wrap_id (by omega) (by omega)
      rw [w1, w2]
      refine ⟨fun hb => ?_, fun hb => ⟨⟨hm, ⟨i0, j0⟩, by omega, hpre⟩, fun hok => ⟨fun hf => ⟨fun hc => ?_, fun hc => ?_⟩, fun hf => ?_⟩, fun hok => ?_⟩⟩
      · rw [if_pos (by dsimp only; exact hb)] at hJ
        subst hJ
        exact ⟨⟨rfl, rfl, rfl, rfl⟩, rfl, rfl⟩
      all_goals rw [if_neg (by dsimp only; omega)] at hJ
      · rw [huntStep, if_pos (by simp [hok, hc])] at hJ
        exact ⟨⟨by omega, by omega, by omega, by omega, hJ⟩, by dsimp only; omega⟩
      · rw [huntStep, if_neg (by simp [hok, hf]; omega)] at hJ
        exact ⟨⟨by omega, by omega, by omega, by omega, hJ⟩, by dsimp only; omega⟩
      · rw [huntStep, if_pos (by simp [hok, hf])] at hJ
        exact ⟨⟨by omega, by omega, by omega, by omega, hJ⟩, by dsimp only; omega⟩
      · rw [huntStep, if_neg (by simp [hok])] at hJ
        exact ⟨⟨by omega, by omega, by omega, by omega, hJ⟩, by dsimp only; omega⟩
    · obtain ⟨j0, j1, u0, u1, hJ⟩ := hJ
      have hz0 : ((x.legs.length : Int) + 1 - j).toNat = 0 := by omega
      rw [hz0, rowP, List.nil_append] at hJ u1
      have w2 : wrap (i + 1) = i + 1 := wrap_id (by omega) (by omega)
      rw [w2]
      exact ⟨⟨by omega, u0, u1, hJ⟩, by dsimp only; omega⟩
  · obtain ⟨i0, t0, t1, hI⟩ := hI
    have hz0 : ((x.legs.length : Int) + 1 - i).toNat = 0 := by omega
    rw [hz0, pairsP, huntGo] at hI
    subst hI
    exact ⟨⟨rfl, rfl, rfl, rfl⟩, rfl, rfl⟩
theorem sbest_t : Told Try.prog 32 sbest_con := sbest_told (csOk_cons price_t csOk_nil) sbest_ok
theorem preGo_length {m : MapD} {d : Driver} {os : List Order} : ∀ (l : List Stop) (s : State), (preGo m d os s l).length = l.length
  | [], _ => rfl
  | t :: l, s => by simp [preGo, preGo_length l]
theorem made_ok : made_vc := by
  unfold made_vc
  simp only [bad_false, int0, nilOf, decide_eq_true_eq, decide_eq_false_iff_not, Bool.not_eq_true', Bool.not_eq_false', Bool.not_true, Bool.not_false, Bool.false_eq_true, Bool.true_eq_false, eq_self, true_and, and_true, false_or, or_false, false_implies, true_implies, implies_true, Int.not_lt, Int.not_le, gt_iff_lt, ge_iff_le, ne_eq]
  intro m hml d os hos ss hss o hp
  obtain ⟨hm, hl⟩ := hp
  refine ⟨by simp, fun k L Q a b c e => 0 ≤ k ∧ k ≤ ss.length ∧ L = (ss.take k.toNat).map (legT os) ∧ Q.length = k.toNat + 1 ∧ Q ++ preGo m d os ⟨a, b, c, e⟩ (ss.drop k.toNat) = start d :: preGo m d os (start d) ss, fun k _ _ _ _ _ _ => ss.length - k.toNat,
    ⟨Int.le_refl _, by omega, rfl, rfl, rfl⟩, fun k L Q a b c e hI => ⟨fun hk => ?_, fun hk => ?_⟩⟩
  · obtain ⟨k0, k1, hL, hQ, hI⟩ := hI
    have w1 : wrap (k + 1) = k + 1 := wrap_id (by omega) (by omega)
    have hkl : k.toNat < ss.length := by omega
    have hLl : L.length = k.toNat := by rw [hL]; simp; omega
    have e1 : (k + 1).toNat = k.toNat + 1 := by omega
    have hdr : ss.drop k.toNat = ss.getD k.toNat (FK.zero .stop) :: ss.drop (k.toNat + 1) := by
      rw [List.drop_eq_getElem_cons hkl]; simp [List.getD, hkl]
    have htk : ss.take (k.toNat + 1) = ss.take k.toNat ++ [ss.getD k.toNat (FK.zero .stop)] := by
      rw [List.take_add_one]; simp [List.getD, hkl]
    rw [w1]
    rw [hdr, preGo] at hI
    refine ⟨⟨k0, hk⟩, hkl, hm, by rw [hLl]; simp; omega, by rw [hQ]; simp; omega, ⟨by omega, by omega, ?_, ?_, ?_⟩, ?_⟩
    all_goals try rw [e1]
    · rw [htk, List.map_append, hL]; rfl
    · simp [hQ]
    · rw [List.append_assoc]
      exact hI
    · dsimp only; omega
  · obtain ⟨k0, k1, hL, hQ, hI⟩ := hI
    have e1 : k.toNat = ss.length := by omega
    rw [e1, List.drop_length, preGo, List.append_nil] at hI
    rw [e1, List.take_length] at hL
    exact ⟨rfl, hI, hL⟩
theorem made_t : Told Try.prog 31 made_con := made_told (csOk_cons legOf_t (csOk_cons find_t (csOk_cons step_t csOk_nil))) made_ok
theorem asked_ok : asked_vc := by
  have key : ∀ (m : Option MapD) (os : List Order) (o : Order) (b : Int), (∀ x, m = some x → MapOk x) → (∀ x, m = some x → MapOk x) ∧ (orderE m o = 0 → ((findO os o.id).isSome = false → (0 ≤ b → decide (b ≤ 100000) = askedP m os o b) ∧ (b < 0 → false = askedP m os o b)) ∧ ((findO os o.id).isSome = true → false = askedP m os o b)) ∧ (¬ orderE m o = 0 → false = askedP m os o b) := by
    intro m os o b hm
    refine ⟨hm, fun h => ⟨fun h1 => ⟨fun h2 => ?_, fun h2 => ?_⟩, fun h1 => ?_⟩, fun h => ?_⟩
    · simp [askedP, h, h1, h2]
    · have : ¬ (0 ≤ b) := by omega
      simp [askedP, this]
    · simp [askedP, h1]
    · simp [askedP, h]
  unfold asked_vc
  simp only [bad_false, int0, nilOf, decide_eq_true_eq, decide_eq_false_iff_not, Bool.not_eq_true', Bool.not_eq_false', Bool.not_true, Bool.not_false, Bool.false_eq_true, Bool.true_eq_false, eq_self, true_and, and_true, false_or, or_false, false_implies, true_implies, implies_true, Int.not_lt, Int.not_le, gt_iff_lt, ge_iff_le, ne_eq]
  exact ⟨fun os _ o b hm => key none os o b hm, fun m _ os _ o b hm => key (some m) os o b hm⟩
theorem asked_t : Told Try.prog 29 asked_con := asked_told (csOk_cons find_t (csOk_cons order_t csOk_nil)) asked_ok
end Go.Eng

/- An order's place looked for on a route, in a plan. -/
set_option linter.unusedVariables false
set_option linter.unusedSimpArgs false
namespace Go.Eng
open Go Go.Proofs
theorem ibest_ok : ibest_vc := by
  have bad : ∀ (m : Option MapD) (d : Driver) (os : List Order) (r : Route) (o : Order) (b e : Int), barP m d os r o b = e → e ≠ 0 →
      (0 = (hspot (bestP m d os r o b).1).driver ∧ 0 = (hspot (bestP m d os r o b).1).pick ∧ 0 = (hspot (bestP m d os r o b).1).drop ∧ 0 = (hspot (bestP m d os r o b).1).cost) ∧ 0 = (bestP m d os r o b).1.steps ∧ e = (bestP m d os r o b).2 := by
    intro m d os r o b e h he
    have : bestP m d os r o b = (hz, e) := by unfold bestP; rw [if_pos (by rw [h]; exact he), h]
    rw [this]
    exact ⟨⟨rfl, rfl, rfl, rfl⟩, rfl, rfl⟩
  unfold ibest_vc
  simp only [bad_false, int0, nilOf, decide_eq_true_eq, decide_eq_false_iff_not, Bool.not_eq_true', Bool.not_eq_false', Bool.not_true, Bool.not_false, Bool.false_eq_true, Bool.true_eq_false, eq_self, true_and, and_true, false_or, or_false, false_implies, true_implies, implies_true, Int.not_lt, Int.not_le, gt_iff_lt, ge_iff_le, ne_eq]
  refine ⟨fun d os _ r _ o b hm => ⟨hm, fun ha => ⟨fun hd => ⟨fun hs => ⟨fun hl => bad _ _ _ _ _ _ 1 ?_ (by decide), fun hl => ⟨hm, fun hg => bad _ _ _ _ _ _ 1 ?_ (by decide), fun hg => ⟨fun hr => bad _ _ _ _ _ _ 23 ?_ (by decide), fun hr => ⟨fun h78 => bad _ _ _ _ _ _ 10 ?_ (by decide), fun h78 => ?_⟩⟩⟩⟩, fun hs => bad _ _ _ _ _ _ 1 ?_ (by decide)⟩, fun hd => bad _ _ _ _ _ _ 1 ?_ (by decide)⟩, fun ha => bad _ _ _ _ _ _ 1 ?_ (by decide)⟩,
    fun x _ d os _ r _ o b hm => ⟨hm, fun ha => ⟨fun hd => ⟨fun hs => ⟨fun hl => bad _ _ _ _ _ _ 1 ?_ (by decide), fun hl => ⟨hm, fun hg => bad _ _ _ _ _ _ 1 ?_ (by decide), fun hg => ⟨fun hr => bad _ _ _ _ _ _ 23 ?_ (by decide), fun hr => ⟨fun h78 => bad _ _ _ _ _ _ 10 ?_ (by decide), fun h78 => ?_⟩⟩⟩⟩, fun hs => bad _ _ _ _ _ _ 1 ?_ (by decide)⟩, fun hd => bad _ _ _ _ _ _ 1 ?_ (by decide)⟩, fun ha => bad _ _ _ _ _ _ 1 ?_ (by decide)⟩⟩
  · unfold barP; simp [hl]
  · unfold barP; simp [hg]
  · unfold barP; simp [ha, hd, Int.not_lt.2 hs, Int.not_lt.2 hl, hg, hr]
  · unfold barP; simp [ha, hd, Int.not_lt.2 hs, Int.not_lt.2 hl, hg, hr, h78]
  · simp [drive, fauR, good] at hg
  · unfold barP; simp [hs]
  · unfold barP; simp [hd]
  · unfold barP; simp [ha]
  · unfold barP; simp [hl]
  · unfold barP; simp [hg]
  · unfold barP; simp [ha, hd, Int.not_lt.2 hs, Int.not_lt.2 hl, hg, hr]
  · unfold barP; simp [ha, hd, Int.not_lt.2 hs, Int.not_lt.2 hl, hg, hr, h78]
  · have h0 : barP (some x) d os r o b = 0 := by unfold barP; simp [ha, hd, Int.not_lt.2 hs, Int.not_lt.2 hl, hg, hr, Int.not_lt.2 h78]
    have e : bestP (some x) d os r o b = tellH (bestS (mkS x d os r.stops o) r.served b) := by unfold bestP; rw [if_neg (by rw [h0]; decide)]
    rw [e]
    have hmo := hm x rfl
    refine ⟨⟨hmo, by omega⟩, ⟨hmo, hs, ?_, ?_⟩, fun hf => ?_, fun hf => ?_⟩
    · show (r.stops.map (legT os)).length ≤ 1000
      rw [List.length_map]; omega
    · show (start d :: preGo x d os (start d) r.stops).length = (r.stops.map (legT os)).length + 1
      rw [List.length_map, List.length_cons, preGo_length]
    · have hf : (bestS (mkS x d os r.stops o) r.served b).found = false := hf
      unfold tellH
      rw [if_neg (by rw [hf]; decide)]
      exact ⟨⟨rfl, rfl, rfl, rfl⟩, rfl, rfl⟩
    · have hf : (bestS (mkS x d os r.stops o) r.served b).found = true := hf
      unfold tellH
      rw [if_pos hf]
      exact ⟨⟨rfl, rfl, rfl, rfl⟩, rfl, rfl⟩
  · unfold barP; simp [hs]
  · unfold barP; simp [hd]
  · unfold barP; simp [ha]
theorem ibest_t : Told Try.prog 13 ibest_con := ibest_told (csOk_cons asked_t (csOk_cons drive_t (csOk_cons goodF_t (csOk_cons made_t (csOk_cons sbest_t csOk_nil))))) ibest_ok
theorem huntStep_steps {id : Int} {pr : Int → Int → Int × Bool} {h : Hunt} {p : Int × Int} : (huntStep id pr h p).steps = h.steps + 1 := by unfold huntStep; split <;> rfl
theorem huntGo_steps {id b : Int} {pr : Int → Int → Int × Bool} : ∀ (L : List (Int × Int)) (h : Hunt), h.steps ≤ (huntGo id pr b L h).steps ∧ (huntGo id pr b L h).steps ≤ h.steps + L.length
  | [], h => ⟨Int.le_refl _, by simp [huntGo]⟩
  | p :: l, h => by
    rw [huntGo]
    split
    · exact ⟨Int.le_refl _, by simp only [List.length_cons]; omega⟩
    · have := huntGo_steps (id := id) (b := b) (pr := pr) l (huntStep id pr h p)
      rw [huntStep_steps] at this
      simp only [List.length_cons]
      omega
theorem places_length {s : Int} {n : Nat} (hs : 0 ≤ s) (hn : n ≤ 78) : (places_ s n).length ≤ 6241 := by
  refine Nat.le_trans (pairsP_length _ _) ?_
  have : ((n : Int) + 1 - s).toNat ≤ 79 := by omega
  exact Nat.le_trans (Nat.mul_le_mul this this) (by decide)
theorem mkS_legs {m : MapD} {d : Driver} {os : List Order} {ss : List Stop} {o : Order} : (mkS m d os ss o).legs.length = ss.length := by simp [mkS]
theorem mkS_pre {m : MapD} {d : Driver} {os : List Order} {ss : List Stop} {o : Order} : (mkS m d os ss o).pre.length = ss.length + 1 := by simp [mkS, preGo_length]
theorem drop_at {α : Type} (d : α) {l : List α} {k : Nat} (hk : k < l.length) : l.drop k = l.getD k d :: l.drop (k + 1) := by
  rw [List.drop_eq_getElem_cons hk]; simp [List.getD, hk]
theorem tell_yes {h : Hunt} (hf : h.found = true) : tellH h = (h, 0) := by unfold tellH; rw [if_pos hf]
theorem tell_no {h : Hunt} (hf : h.found = false) : tellH h = (⟨0, 0, 0, 0, false, h.steps⟩, 20) := by unfold tellH; rw [if_neg (by rw [hf]; decide)]
theorem look_ok : look_vc := by
  unfold look_vc
  simp only [bad_false, int0, nilOf, decide_eq_true_eq, decide_eq_false_iff_not, Bool.not_eq_true', Bool.not_eq_false', Bool.not_true, Bool.not_false, Bool.false_eq_true, Bool.true_eq_false, eq_self, true_and, and_true, false_or, or_false, false_implies, true_implies, implies_true, Int.not_lt, Int.not_le, gt_iff_lt, ge_iff_le, ne_eq]
  refine ⟨fun ds _ os _ p _ o b hp => (by have := hp.is; cases this), fun x _ ds _ os _ p hpl o b hp => ?_⟩
  have hm := hp.map x rfl
  have hb := hp.b
  have hn := hp.few
  have hR : lookP (some x) ds os p o b = lookGo x ds os o b p hz := rfl
  generalize lookP (some x) ds os p o b = R at *
  let INV : Int → Bool → Int → Int → Int → Int → Int → Prop := fun st f k d q r c => 0 ≤ k ∧ k ≤ p.length ∧ 0 ≤ st ∧ st ≤ 6241 * k ∧ lookGo x ds os o b (p.drop k.toNat) ⟨d, q, r, c, f, st⟩ = R
  have stp : ∀ (st : Int) (f : Bool) (k d q r c : Int) (G : Hunt), 0 ≤ k → k < p.length → 0 ≤ st → st ≤ 6241 * k → 0 ≤ G.steps → G.steps ≤ 6241 → lookGo x ds os o b (p.drop (k.toNat + 1)) (huntJoin ⟨d, q, r, c, f, st⟩ G) = R →
      (G.found = true → (f = true → (G.cost < c → INV (wrap (st + G.steps)) true (wrap (k + 1)) G.driver G.pick G.drop G.cost ∧ p.length - (wrap (k + 1)).toNat < p.length - k.toNat) ∧ (c ≤ G.cost → INV (wrap (st + G.steps)) f (wrap (k + 1)) d q r c ∧ p.length - (wrap (k + 1)).toNat < p.length - k.toNat)) ∧
        (f = false → INV (wrap (st + G.steps)) true (wrap (k + 1)) G.driver G.pick G.drop G.cost ∧ p.length - (wrap (k + 1)).toNat < p.length - k.toNat)) ∧
      (G.found = false → INV (wrap (st + G.steps)) f (wrap (k + 1)) d q r c ∧ p.length - (wrap (k + 1)).toNat < p.length - k.toNat) := by
    intro st f k d q r c G k0 k1 t0 t1 g0 g1 h
    have w1 : wrap (k + 1) = k + 1 := wrap_id (by omega) (by omega)
    have w2 : wrap (st + G.steps) = st + G.steps := wrap_id (by omega) (by omega)
    have e1 : (k + 1).toNat = k.toNat + 1 := by omega
    rw [w1, w2]
    refine ⟨fun hf => ⟨fun hf2 => ⟨fun hc => ⟨⟨by omega, by omega, by omega, by omega, ?_⟩, by omega⟩, fun hc => ⟨⟨by omega, by omega, by omega, by omega, ?_⟩, by omega⟩⟩, fun hf2 => ⟨⟨by omega, by omega, by omega, by omega, ?_⟩, by omega⟩⟩, fun hf => ⟨⟨by omega, by omega, by omega, by omega, ?_⟩, by omega⟩⟩
    · rw [huntJoin, if_pos (by simp [hf, hc])] at h
      rw [e1]; exact h
    · rw [huntJoin, if_neg (by simp [hf, hf2]; omega)] at h
      rw [e1]; exact h
    · rw [huntJoin, if_pos (by simp [hf, hf2])] at h
      rw [e1]; exact h
    · rw [huntJoin, if_neg (by simp [hf])] at h
      rw [e1]; exact h
  refine ⟨INV, fun _ _ k _ _ _ _ => p.length - k.toNat, ⟨Int.le_refl _, by omega, Int.le_refl _, by omega, hR.symm⟩, fun st f k d q r c hI => ⟨fun hk => ?_, fun hk => ?_⟩⟩
  · obtain ⟨k0, k1, t0, t1, hI⟩ := hI
    have hkl : k.toNat < p.length := by omega
    have w1 : wrap (k + 1) = k + 1 := wrap_id (by omega) (by omega)
    have e1 : (k + 1).toNat = k.toNat + 1 := by omega
    rw [drop_at (⟨0, 0, []⟩ : Route) hkl, lookGo] at hI
    have hsv := hp.served _ (getD_mem (⟨0, 0, []⟩ : Route) hkl)
    generalize p.getD k.toNat ⟨0, 0, []⟩ = r' at *
    have skip : closedTo (fdD ds r'.driver) r' = true → INV st f (wrap (k + 1)) d q r c ∧ p.length - (wrap (k + 1)).toNat < p.length - k.toNat := by
      intro hc
      rw [if_pos hc] at hI
      rw [w1]
      exact ⟨⟨by omega, by omega, t0, by omega, by rw [e1]; exact hI⟩, by omega⟩
    refine ⟨⟨k0, hk⟩, hkl, fun hr => ⟨fun h78 => skip (by simp [closedTo, h78]), fun h78 => ?_⟩, fun hr => skip ?_⟩
    · have hnc : ¬ closedTo (fdD ds r'.driver) r' = true := by
        have : (fdD ds r'.driver).retired = false := hr
        simp [closedTo, this, Int.not_lt.2 h78]
      rw [if_neg hnc] at hI
      have wb : wrap (b - st) = b - st := wrap_id (by omega) (by omega)
      rw [wb]
      have hst := huntGo_steps (id := (fdD ds r'.driver).id) (b := b - st) (pr := priceS (mkS x (fdD ds r'.driver) os r'.stops o)) (places_ r'.served (mkS x (fdD ds r'.driver) os r'.stops o).legs.length) hz
      have hpl := places_length (s := r'.served) (n := (mkS x (fdD ds r'.driver) os r'.stops o).legs.length) hsv (by rw [mkS_legs]; omega)
      have hz0 : hz.steps = 0 := rfl
      refine ⟨⟨hm, by omega⟩, ⟨hm, hsv, ?_, ?_⟩, stp st f k d q r c (bestS (mkS x (fdD ds r'.driver) os r'.stops o) r'.served (b - st)) k0 hk t0 t1 ?_ ?_ hI⟩
      · show (mkS x (fdD ds r'.driver) os r'.stops o).legs.length ≤ 1000
        rw [mkS_legs]; omega
      · show (mkS x (fdD ds r'.driver) os r'.stops o).pre.length = (mkS x (fdD ds r'.driver) os r'.stops o).legs.length + 1
        rw [mkS_legs, mkS_pre]
      · unfold bestS
        rw [show (mkS x (fdD ds r'.driver) os r'.stops o).d = fdD ds r'.driver from rfl]
        omega
      · unfold bestS
        rw [show (mkS x (fdD ds r'.driver) os r'.stops o).d = fdD ds r'.driver from rfl]
        omega
    · have : (fdD ds r'.driver).retired = true := hr
      simp [closedTo, this]
  · obtain ⟨k0, k1, t0, t1, hI⟩ := hI
    have e1 : k.toNat = p.length := by omega
    rw [e1, List.drop_length, lookGo] at hI
    subst hI
    refine ⟨fun hf => ?_, fun hf => ?_⟩
    · rw [tell_no hf]; exact ⟨⟨rfl, rfl, rfl, rfl⟩, rfl, rfl⟩
    · rw [tell_yes hf]; exact ⟨⟨rfl, rfl, rfl, rfl⟩, rfl, rfl⟩
theorem look_t : Told Try.prog 35 look_con := look_told (csOk_cons cdriver_t (csOk_cons made_t (csOk_cons sbest_t csOk_nil))) look_ok
/-- A plan with a certificate is a right one. -/
theorem good_make {m : Option MapD} {ds : List Driver} {os : List Order} {p : List Route} (h : good (cfauR (makeP m ds os p)) = true) : ∃ x, m = some x ∧ wellP (some x) ds os p = true ∧ good (cfauR (makeGo x ds os 0 p)) = true := by
  cases m with
  | none => simp [makeP, cfauR, good] at h
  | some x =>
    by_cases hw : wellP (some x) ds os p = true
    · refine ⟨x, rfl, hw, ?_⟩
      rw [show makeP (some x) ds os p = makeGo x ds os 0 p by simp [makeP, hw]] at h
      exact h
    · rw [show makeP (some x) ds os p = .error ⟨0, 1⟩ by simp [makeP, hw]] at h
      simp [cfauR, good] at h
theorem asked_iff {m : Option MapD} {os : List Order} {o : Order} {b : Int} : askedP m os o b = true ↔ orderE m o = 0 ∧ (findO os o.id).isSome = false ∧ 0 ≤ b ∧ b ≤ 100000 := by
  simp [askedP, and_assoc]
theorem cheap_ok : cheap_vc := by
  have key : ∀ (m : Option MapD) (ds : List Driver) (os : List Order) (p : List Route) (o : Order) (b : Int), (∀ x, m = some x → MapOk x) →
      (∀ x, m = some x → MapOk x) ∧
      (good (cfauR (makeP m ds os p)) = true → (∀ x, m = some x → MapOk x) ∧ (askedP m os o b = false → (0 = (hspot (cheapP m ds os p o b).1).driver ∧ 0 = (hspot (cheapP m ds os p o b).1).pick ∧ 0 = (hspot (cheapP m ds os p o b).1).drop ∧ 0 = (hspot (cheapP m ds os p o b).1).cost) ∧ 0 = (cheapP m ds os p o b).1.steps ∧ 1 = (cheapP m ds os p o b).2) ∧
        (askedP m os o b = true → LookPre m p b ∧ ((hspot (tellH (lookP m ds os p o b)).1).driver = (hspot (cheapP m ds os p o b).1).driver ∧ (hspot (tellH (lookP m ds os p o b)).1).pick = (hspot (cheapP m ds os p o b).1).pick ∧ (hspot (tellH (lookP m ds os p o b)).1).drop = (hspot (cheapP m ds os p o b).1).drop ∧ (hspot (tellH (lookP m ds os p o b)).1).cost = (hspot (cheapP m ds os p o b).1).cost) ∧
          (tellH (lookP m ds os p o b)).1.steps = (cheapP m ds os p o b).1.steps ∧ (tellH (lookP m ds os p o b)).2 = (cheapP m ds os p o b).2)) ∧
      (good (cfauR (makeP m ds os p)) = false → (0 = (hspot (cheapP m ds os p o b).1).driver ∧ 0 = (hspot (cheapP m ds os p o b).1).pick ∧ 0 = (hspot (cheapP m ds os p o b).1).drop ∧ 0 = (hspot (cheapP m ds os p o b).1).cost) ∧ 0 = (cheapP m ds os p o b).1.steps ∧ 1 = (cheapP m ds os p o b).2) := by
    intro m ds os p o b hm
    refine ⟨hm, fun hg => ⟨hm, fun ha => ?_, fun ha => ?_⟩, fun hg => ?_⟩
    · have : cheapP m ds os p o b = (hz, 1) := by simp [cheapP, ha]
      rw [this]; exact ⟨⟨rfl, rfl, rfl, rfl⟩, rfl, rfl⟩
    · have : cheapP m ds os p o b = tellH (lookP m ds os p o b) := by simp [cheapP, ha, hg]
      rw [this]
      obtain ⟨x, rfl, hw, _⟩ := good_make hg
      have hR := rightP_iff.1 (wellP_iff.1 hw).2.2.2.1
      have hb := asked_iff.1 ha
      have h8 := hR.1
      refine ⟨⟨rfl, hm, hb.2.2, by omega, fun r hr => ?_⟩, ⟨rfl, rfl, rfl, rfl⟩, rfl, rfl⟩
      exact (okR_mem hR.2 r hr).2.2.2.1
    · have : cheapP m ds os p o b = (hz, 1) := by simp [cheapP, hg]
      rw [this]; exact ⟨⟨rfl, rfl, rfl, rfl⟩, rfl, rfl⟩
  unfold cheap_vc
  simp only [bad_false, int0, nilOf, decide_eq_true_eq, decide_eq_false_iff_not, Bool.not_eq_true', Bool.not_eq_false', Bool.not_true, Bool.not_false, Bool.false_eq_true, Bool.true_eq_false, eq_self, true_and, and_true, false_or, or_false, false_implies, true_implies, implies_true, Int.not_lt, Int.not_le, gt_iff_lt, ge_iff_le, ne_eq]
  exact ⟨fun ds _ os _ p _ o b hm => key none ds os p o b hm, fun x _ ds _ os _ p _ o b hm => key (some x) ds os p o b hm⟩
theorem cheap_t : Told Try.prog 17 cheap_con := cheap_told (csOk_cons cmake_t (csOk_cons goodF_t (csOk_cons asked_t (csOk_cons look_t csOk_nil)))) cheap_ok
end Go.Eng

/- Orders that are known have each their own number; what a driver holds. -/
set_option linter.unusedVariables false
set_option linter.unusedSimpArgs false
namespace Go.Eng
open Go Go.Proofs
def Apart (os : List Order) : Prop := os.Pairwise fun a b => a.id ≠ b.id
theorem known_iff {m : Option MapD} {os : List Order} : knownO m os = true ↔ os.length ≤ 40 ∧ (∀ o ∈ os, orderE m o = 0) ∧ Apart os := by
  constructor
  · intro h
    obtain ⟨h1, h2⟩ := known_at h
    refine ⟨h1, fun o ho => ?_, List.pairwise_iff_getElem.2 fun i j hi hj hij => ?_⟩
    · obtain ⟨k, hk, rfl⟩ := List.getElem_of_mem ho
      have := (h2 k hk).1
      rwa [getD_of hk] at this
    · have := (h2 j hj).2
      rw [getD_of hj] at this
      simp only [idFree, List.all_eq_true, Bool.not_eq_true', decide_eq_false_iff_not] at this
      exact this _ (List.mem_take_iff_getElem.2 ⟨i, by omega, rfl⟩)
  · rintro ⟨h1, h2, h3⟩
    simp only [knownO, okAt, Bool.and_eq_true, decide_eq_true_eq, List.all_eq_true, List.mem_range]
    refine ⟨h1, fun k hk => ?_⟩
    rw [getD_of hk]
    refine ⟨h2 _ (List.getElem_mem _), ?_⟩
    simp only [idFree, List.all_eq_true, Bool.not_eq_true', decide_eq_false_iff_not]
    intro p hp
    obtain ⟨i, hi, rfl⟩ := List.mem_take_iff_getElem.1 hp
    exact List.pairwise_iff_getElem.1 h3 i k (by omega) hk (by omega)
end Go.Eng

/- An order's place looked for: the document's own answer. -/
set_option linter.unusedVariables false
set_option linter.unusedSimpArgs false
namespace Go.Eng
open Go Go.Proofs
theorem drive_err {m : MapD} {d : Driver} {os : List Order} {ss : List Stop} {f : Fault} (h : drive (some m) d os ss = .error f) : f.why ≠ 0 := by
  unfold drive at h
  dsimp only at h
  split at h
  · exact driveGo_why h
  · injection h with h; subst h; decide
theorem good_go {m : MapD} {ds : List Driver} {os : List Order} : ∀ (p : List Route) (i : Nat), good (cfauR (makeGo m ds os i p)) = true → ∀ r ∈ p, ∃ d, findD r.driver ds = some d ∧ ∃ v, drive (some m) d os r.stops = .ok v
  | [], i, _ => by simp
  | r :: p, i, h => by
    rw [makeGo] at h
    split at h
    · simp [cfauR, good] at h
    · rename_i d hd
      split at h
      · rename_i f hf
        have := drive_err hf
        simp [cfauR, good, this] at h
      · rename_i v hv
        have h' : good (cfauR (makeGo m ds os (i + 1) p)) = true := by
          split at h
          · rename_i f hf; rw [hf]; exact h
          · rename_i vs hvs; rw [hvs]; rfl
        intro q hq
        rcases List.mem_cons.1 hq with rfl | hq
        · exact ⟨d, hd, v, hv⟩
        · exact good_go p (i + 1) h' q hq
end Go.Eng

/- A map of numbers that are known. -/
set_option linter.unusedVariables false
set_option linter.unusedSimpArgs false
namespace Go.Eng
open Go Go.Proofs
theorem newC_t : Told Try.prog 21 newC_con := by
  refine told_alt (ps := [.c .i, .c (.a (.f .int))]) new_t fun x _ => ⟨trivial, fun a ha h => ?_⟩
  obtain ⟨n, ts, _⟩ := x
  have ha : a = ⟨some (newE n ts ≠ 0), [.c .np, .c (.i (newE n ts))]⟩ ∨ a = ⟨some (newE n ts = 0), [.p true 101 [.i n, .o .int 3 ts], .c (.i 0)]⟩ := by
    have : a ∈ ([⟨some (newE n ts ≠ 0), [.c .np, .c (.i (newE n ts))]⟩, ⟨some (newE n ts = 0), [.p true 101 [.i n, .o .int 3 ts], .c (.i 0)]⟩] : List Alt) := ha
    simpa using this
  rcases ha with rfl | rfl
  · refine ⟨_, List.mem_singleton.2 rfl, ?_⟩
    have h : newE n ts ≠ 0 := h
    rw [decide_eq_false h]
    exact ⟨trivial, rfl⟩
  · refine ⟨_, List.mem_singleton.2 rfl, ?_⟩
    have h : newE n ts = 0 := h
    rw [decide_eq_true h]
    exact ⟨trivial, rfl⟩
theorem mapOkO_none : ∀ (x : MapD), none = some x → MapOk x := fun x h => by cases h
theorem mapOkO_some {n : Int} {ts : List Int} (h : newE n ts = 0) : ∀ (x : MapD), some ⟨n, ts⟩ = some x → MapOk x := fun x hx => by
  injection hx with hx
  subst hx
  exact newE_ok.1 h
end Go.Eng

/- What a drive says of stops that are cut off. -/
set_option linter.unusedVariables false
set_option linter.unusedSimpArgs false
namespace Go.Eng
open Go Go.Proofs
end Go.Eng

/- The statements of places looked for: what is told of them. -/
set_option linter.unusedVariables false
set_option linter.unusedSimpArgs false
namespace Go.Eng
open Go Go.Proofs
def isH (h : Hunt × Int) (s : Spot) (n e : Int) : Bool := decide (h.1.driver = s.driver ∧ h.1.pick = s.pick ∧ h.1.drop = s.drop ∧ h.1.cost = s.cost ∧ h.1.steps = n ∧ h.2 = e)
def lbest_con : Con := ⟨[.q .map tMap, .r (.f .driver), .c (.a (.f .order)), .r .route, .r (.f .order), .c .i, .r (.f .spot), .c .i, .c .i],
  fun m d os r o b s n e => ⟨some (MapOkO m), [⟨none, [.c (.b (isH (bestP m d os r o b) s n e))]⟩]⟩⟩
def lbest_cs : Cons := [(13, ibest_con)]
def lbest_la : List (Nat × LA) := []
def insertRuns_con : Con := yes_con
noncomputable def insertRuns_cs : Cons := [(21, newC_con), (22, lbest_con), (17, cheap_con)]
def insertRuns_la : List (Nat × LA) := []
def insertFits_con : Con := ⟨[.r .world, .r (.f .order)], fun w o => law (pA (.r (SK.enc .world w)) ∧ pA (.r (SK.enc (.f .order) o)))⟩
noncomputable def insertFits_cs : Cons := [(10, maps_con), (17, cheap_con), (5, yes_con), (18, pwith_con), (19, cmake_con), (20, good_con), (14, cost_con)]
def insertFits_la : List (Nat × LA) := [(13, ⟨[2, 5, 8, 11, 13], [.i 16, .frz 11]⟩), (16, ⟨[2, 5, 8, 11, 13, 16], [.i 17]⟩)]
end Go.Eng

/- The conditions of functions, as print.. of the engine told them. -/
set_option linter.unusedVariables false
namespace Go.Eng
open Go Go.Proofs
def insertFits_vc : Prop :=
  ∀ (x : WorldD), (LenOk x.times.length ∧ LenOk x.drivers.length ∧ LenOk x.orders.length ∧ LenOk x.plan.length ∧ ∀ (r : Route), List.Mem r x.plan → LenOk r.stops.length) → ∀ (x_2 : Order), Given (pA (AV.r (SK.world.enc x)) ∧ pA (AV.r ((SK.f
  FK.order).enc x_2))) → (newE x.n x.times ≠ (0 : Int) → ((!true) = true → false = true) ∧ ((!true) = false → (∀ (x : MapD), none = some x → MapOk x) ∧ ((!decide ((cheapP none x.drivers x.orders x.plan x_2 (100000 : Int)).snd = (0 : Int))) =
  true → ((decide ((hspot (cheapP none x.drivers x.orders x.plan x_2 (100000 : Int)).fst).driver = (0 : Int)) && (decide ((hspot (cheapP none x.drivers x.orders x.plan x_2 (100000 : Int)).fst).pick = (0 : Int)) && (decide ((hspot (cheapP none
  x.drivers x.orders x.plan x_2 (100000 : Int)).fst).drop = (0 : Int)) && (decide ((hspot (cheapP none x.drivers x.orders x.plan x_2 (100000 : Int)).fst).cost = (0 : Int)) && true)))) = true → (decide ((cheapP none x.drivers x.orders x.plan
  x_2 (100000 : Int)).snd = (1 : Int)) = false → (decide ((cheapP none x.drivers x.orders x.plan x_2 (100000 : Int)).snd = (20 : Int)) = true → true = true) ∧ (decide ((cheapP none x.drivers x.orders x.plan x_2 (100000 : Int)).snd = (20 :
  Int)) = !true → false = true)) ∧ (decide ((cheapP none x.drivers x.orders x.plan x_2 (100000 : Int)).snd = (1 : Int)) = !false → true = true)) ∧ ((decide ((hspot (cheapP none x.drivers x.orders x.plan x_2 (100000 : Int)).fst).driver = (0 :
  Int)) && (decide ((hspot (cheapP none x.drivers x.orders x.plan x_2 (100000 : Int)).fst).pick = (0 : Int)) && (decide ((hspot (cheapP none x.drivers x.orders x.plan x_2 (100000 : Int)).fst).drop = (0 : Int)) && (decide ((hspot (cheapP none
  x.drivers x.orders x.plan x_2 (100000 : Int)).fst).cost = (0 : Int)) && true)))) = !true → false = true)) ∧ ((!decide ((cheapP none x.drivers x.orders x.plan x_2 (100000 : Int)).snd = (0 : Int))) = false → (True ∧ ((0 : Nat) +
  x.orders.length) * ((8 : Nat) * (10 : Nat)) ≤ (140737488355328 : Nat)) ∧ (True ∧ (([] ++ x.orders).length + [x_2].length) * ((8 : Nat) * (10 : Nat)) ≤ (140737488355328 : Nat)) ∧ (∀ (x : MapD), none = some x → MapOk x) ∧ ((!(withP x.plan
  x_2.id (hspot (cheapP none x.drivers x.orders x.plan x_2 (100000 : Int)).fst)).isSome) = false → ((!good (cfauR (makeP none x.drivers ([] ++ x.orders ++ [x_2]) ((withP x.plan x_2.id (hspot (cheapP none x.drivers x.orders x.plan x_2 (100000
  : Int)).fst)).getD [])))) = false → ((!decide ((↑((withP x.plan x_2.id (hspot (cheapP none x.drivers x.orders x.plan x_2 (100000 : Int)).fst)).getD []).length : Int) = (↑x.plan.length : Int))) = true → false = true) ∧ ((!decide ((↑((withP
  x.plan x_2.id (hspot (cheapP none x.drivers x.orders x.plan x_2 (100000 : Int)).fst)).getD []).length : Int) = (↑x.plan.length : Int))) = false → ∃ (inv : Int → PUnit → Prop), ∃ (μ : Int → PUnit → Nat), (((0 : Int) = (0 : Int) ∧ (x.n = x.n
  ∧ (hspot (cheapP none x.drivers x.orders x.plan x_2 (100000 : Int)).fst).driver = (hspot (cheapP none x.drivers x.orders x.plan x_2 (100000 : Int)).fst).driver ∧ (hspot (cheapP none x.drivers x.orders x.plan x_2 (100000 : Int)).fst).pick =
  (hspot (cheapP none x.drivers x.orders x.plan x_2 (100000 : Int)).fst).pick ∧ (hspot (cheapP none x.drivers x.orders x.plan x_2 (100000 : Int)).fst).drop = (hspot (cheapP none x.drivers x.orders x.plan x_2 (100000 : Int)).fst).drop ∧ (hspot
  (cheapP none x.drivers x.orders x.plan x_2 (100000 : Int)).fst).cost = (hspot (cheapP none x.drivers x.orders x.plan x_2 (100000 : Int)).fst).cost) ∧ x.plan = x.plan ∧ x.orders = x.orders ∧ x.drivers = x.drivers ∧ x.times = x.times ∧ [] ++
  x.orders ++ [x_2] = [] ++ x.orders ++ [x_2] ∧ (withP x.plan x_2.id (hspot (cheapP none x.drivers x.orders x.plan x_2 (100000 : Int)).fst)).getD [] = (withP x.plan x_2.id (hspot (cheapP none x.drivers x.orders x.plan x_2 (100000 :
  Int)).fst)).getD []) ∧ inv (0 : Int) ()) ∧ ∀ (x_10 : Int) (x_11 : PUnit), inv x_10 x_11 → (decide (x_10 < (↑((withP x.plan x_2.id (hspot (cheapP none x.drivers x.orders x.plan x_2 (100000 : Int)).fst)).getD []).length : Int)) = true → ∃
  (inv_1 : Int → Prop), ∃ (μ_1 : Int → Nat), (((x_10 = x_10 ∧ (0 : Int) = (0 : Int)) ∧ (x.n = x.n ∧ (hspot (cheapP none x.drivers x.orders x.plan x_2 (100000 : Int)).fst).driver = (hspot (cheapP none x.drivers x.orders x.plan x_2 (100000 :
  Int)).fst).driver ∧ (hspot (cheapP none x.drivers x.orders x.plan x_2 (100000 : Int)).fst).pick = (hspot (cheapP none x.drivers x.orders x.plan x_2 (100000 : Int)).fst).pick ∧ (hspot (cheapP none x.drivers x.orders x.plan x_2 (100000 :
  Int)).fst).drop = (hspot (cheapP none x.drivers x.orders x.plan x_2 (100000 : Int)).fst).drop ∧ (hspot (cheapP none x.drivers x.orders x.plan x_2 (100000 : Int)).fst).cost = (hspot (cheapP none x.drivers x.orders x.plan x_2 (100000 :
  Int)).fst).cost) ∧ x.plan = x.plan ∧ x.orders = x.orders ∧ x.drivers = x.drivers ∧ x.times = x.times ∧ [] ++ x.orders ++ [x_2] = [] ++ x.orders ++ [x_2] ∧ (withP x.plan x_2.id (hspot (cheapP none x.drivers x.orders x.plan x_2 (100000 :
  Int)).fst)).getD [] = (withP x.plan x_2.id (hspot (cheapP none x.drivers x.orders x.plan x_2 (100000 : Int)).fst)).getD []) ∧ inv_1 (0 : Int)) ∧ ∀ (x_14 : Int), inv_1 x_14 → (decide (x_14 < (↑x.drivers.length : Int)) = true → ((0 : Int) ≤
  x_14 ∧ x_14 < (↑x.drivers.length : Int)) ∧ x_14.toNat < x.drivers.length ∧ ((0 : Int) ≤ x_10 ∧ x_10 < (↑((withP x.plan x_2.id (hspot (cheapP none x.drivers x.orders x.plan x_2 (100000 : Int)).fst)).getD []).length : Int)) ∧ x_10.toNat <
  ((withP x.plan x_2.id (hspot (cheapP none x.drivers x.orders x.plan x_2 (100000 : Int)).fst)).getD []).length ∧ ((!decide ((x.drivers.getD x_14.toNat FK.driver.zero).id = (((withP x.plan x_2.id (hspot (cheapP none x.drivers x.orders x.plan
  x_2 (100000 : Int)).fst)).getD []).getD x_10.toNat (Route.mk (0 : Int) (0 : Int) [])).driver)) = true → ((x_10 = x_10 ∧ wrap (x_14 + (1 : Int)) = wrap (x_14 + (1 : Int))) ∧ (x.n = x.n ∧ (hspot (cheapP none x.drivers x.orders x.plan x_2
  (100000 : Int)).fst).driver = (hspot (cheapP none x.drivers x.orders x.plan x_2 (100000 : Int)).fst).driver ∧ (hspot (cheapP none x.drivers x.orders x.plan x_2 (100000 : Int)).fst).pick = (hspot (cheapP none x.drivers x.orders x.plan x_2
  (100000 : Int)).fst).pick ∧ (hspot (cheapP none x.drivers x.orders x.plan x_2 (100000 : Int)).fst).drop = (hspot (cheapP none x.drivers x.orders x.plan x_2 (100000 : Int)).fst).drop ∧ (hspot (cheapP none x.drivers x.orders x.plan x_2
  (100000 : Int)).fst).cost = (hspot (cheapP none x.drivers x.orders x.plan x_2 (100000 : Int)).fst).cost) ∧ x.plan = x.plan ∧ x.orders = x.orders ∧ x.drivers = x.drivers ∧ x.times = x.times ∧ [] ++ x.orders ++ [x_2] = [] ++ x.orders ++ [x_2]
  ∧ (withP x.plan x_2.id (hspot (cheapP none x.drivers x.orders x.plan x_2 (100000 : Int)).fst)).getD [] = (withP x.plan x_2.id (hspot (cheapP none x.drivers x.orders x.plan x_2 (100000 : Int)).fst)).getD []) ∧ inv_1 (wrap (x_14 + (1 : Int)))
  ∧ μ_1 (wrap (x_14 + (1 : Int))) < μ_1 x_14) ∧ ((!decide ((x.drivers.getD x_14.toNat FK.driver.zero).id = (((withP x.plan x_2.id (hspot (cheapP none x.drivers x.orders x.plan x_2 (100000 : Int)).fst)).getD []).getD x_10.toNat (Route.mk (0 :
  Int) (0 : Int) [])).driver)) = false → ((0 : Int) ≤ x_14 ∧ x_14 < (↑x.drivers.length : Int)) ∧ x_14.toNat < x.drivers.length ∧ ((0 : Int) ≤ x_10 ∧ x_10 < (↑x.plan.length : Int)) ∧ x_10.toNat < x.plan.length ∧ (∀ (x : MapD), none = some x →
  MapOk x) ∧ ((0 : Int) ≤ x_14 ∧ x_14 < (↑x.drivers.length : Int)) ∧ x_14.toNat < x.drivers.length ∧ ((0 : Int) ≤ x_10 ∧ x_10 < (↑((withP x.plan x_2.id (hspot (cheapP none x.drivers x.orders x.plan x_2 (100000 : Int)).fst)).getD []).length :
  Int)) ∧ x_10.toNat < ((withP x.plan x_2.id (hspot (cheapP none x.drivers x.orders x.plan x_2 (100000 : Int)).fst)).getD []).length ∧ (∀ (x : MapD), none = some x → MapOk x) ∧ ((!(cost none (x.drivers.getD x_14.toNat FK.driver.zero) x.orders
  (x.plan.getD x_10.toNat (Route.mk (0 : Int) (0 : Int) [])).stops).snd) = false → ((!(cost none (x.drivers.getD x_14.toNat FK.driver.zero) ([] ++ x.orders ++ [x_2]) (((withP x.plan x_2.id (hspot (cheapP none x.drivers x.orders x.plan x_2
  (100000 : Int)).fst)).getD []).getD x_10.toNat (Route.mk (0 : Int) (0 : Int) [])).stops).snd) = false → ((0 : Int) ≤ x_10 ∧ x_10 < (↑((withP x.plan x_2.id (hspot (cheapP none x.drivers x.orders x.plan x_2 (100000 : Int)).fst)).getD
  []).length : Int)) ∧ x_10.toNat < ((withP x.plan x_2.id (hspot (cheapP none x.drivers x.orders x.plan x_2 (100000 : Int)).fst)).getD []).length ∧ (decide ((((withP x.plan x_2.id (hspot (cheapP none x.drivers x.orders x.plan x_2 (100000 :
  Int)).fst)).getD []).getD x_10.toNat (Route.mk (0 : Int) (0 : Int) [])).driver = (hspot (cheapP none x.drivers x.orders x.plan x_2 (100000 : Int)).fst).driver) = true → ((!decide (wrap ((cost none (x.drivers.getD x_14.toNat FK.driver.zero)
  ([] ++ x.orders ++ [x_2]) (((withP x.plan x_2.id (hspot (cheapP none x.drivers x.orders x.plan x_2 (100000 : Int)).fst)).getD []).getD x_10.toNat (Route.mk (0 : Int) (0 : Int) [])).stops).fst - (cost none (x.drivers.getD x_14.toNat
  FK.driver.zero) x.orders (x.plan.getD x_10.toNat (Route.mk (0 : Int) (0 : Int) [])).stops).fst) = (hspot (cheapP none x.drivers x.orders x.plan x_2 (100000 : Int)).fst).cost)) = false → ((0 : Int) ≤ x_14 ∧ x_14 < (↑x.drivers.length : Int))
  ∧ x_14.toNat < x.drivers.length ∧ ((x.drivers.getD x_14.toNat FK.driver.zero).retired = false → ((0 : Int) ≤ x_10 ∧ x_10 < (↑((withP x.plan x_2.id (hspot (cheapP none x.drivers x.orders x.plan x_2 (100000 : Int)).fst)).getD []).length :
  Int)) ∧ x_10.toNat < ((withP x.plan x_2.id (hspot (cheapP none x.drivers x.orders x.plan x_2 (100000 : Int)).fst)).getD []).length ∧ ((!decide ((((withP x.plan x_2.id (hspot (cheapP none x.drivers x.orders x.plan x_2 (100000 :
  Int)).fst)).getD []).getD x_10.toNat (Route.mk (0 : Int) (0 : Int) [])).driver = (hspot (cheapP none x.drivers x.orders x.plan x_2 (100000 : Int)).fst).driver)) = true → ((!decide ((cost none (x.drivers.getD x_14.toNat FK.driver.zero)
  x.orders (x.plan.getD x_10.toNat (Route.mk (0 : Int) (0 : Int) [])).stops).fst = (cost none (x.drivers.getD x_14.toNat FK.driver.zero) ([] ++ x.orders ++ [x_2]) (((withP x.plan x_2.id (hspot (cheapP none x.drivers x.orders x.plan x_2
  (100000 : Int)).fst)).getD []).getD x_10.toNat (Route.mk (0 : Int) (0 : Int) [])).stops).fst)) = true → false = true) ∧ ((!decide ((cost none (x.drivers.getD x_14.toNat FK.driver.zero) x.orders (x.plan.getD x_10.toNat (Route.mk (0 : Int) (0
  : Int) [])).stops).fst = (cost none (x.drivers.getD x_14.toNat FK.driver.zero) ([] ++ x.orders ++ [x_2]) (((withP x.plan x_2.id (hspot (cheapP none x.drivers x.orders x.plan x_2 (100000 : Int)).fst)).getD []).getD x_10.toNat (Route.mk (0 :
  Int) (0 : Int) [])).stops).fst)) = false → ((x_10 = x_10 ∧ wrap (x_14 + (1 : Int)) = wrap (x_14 + (1 : Int))) ∧ (x.n = x.n ∧ (hspot (cheapP none x.drivers x.orders x.plan x_2 (100000 : Int)).fst).driver = (hspot (cheapP none x.drivers
  x.orders x.plan x_2 (100000 : Int)).fst).driver ∧ (hspot (cheapP none x.drivers x.orders x.plan x_2 (100000 : Int)).fst).pick = (hspot (cheapP none x.drivers x.orders x.plan x_2 (100000 : Int)).fst).pick ∧ (hspot (cheapP none x.drivers
  x.orders x.plan x_2 (100000 : Int)).fst).drop = (hspot (cheapP none x.drivers x.orders x.plan x_2 (100000 : Int)).fst).drop ∧ (hspot (cheapP none x.drivers x.orders x.plan x_2 (100000 : Int)).fst).cost = (hspot (cheapP none x.drivers
  x.orders x.plan x_2 (100000 : Int)).fst).cost) ∧ x.plan = x.plan ∧ x.orders = x.orders ∧ x.drivers = x.drivers ∧ x.times = x.times ∧ [] ++ x.orders ++ [x_2] = [] ++ x.orders ++ [x_2] ∧ (withP x.plan x_2.id (hspot (cheapP none x.drivers
  x.orders x.plan x_2 (100000 : Int)).fst)).getD [] = (withP x.plan x_2.id (hspot (cheapP none x.drivers x.orders x.plan x_2 (100000 : Int)).fst)).getD []) ∧ inv_1 (wrap (x_14 + (1 : Int))) ∧ μ_1 (wrap (x_14 + (1 : Int))) < μ_1 x_14)) ∧
  ((!decide ((((withP x.plan x_2.id (hspot (cheapP none x.drivers x.orders x.plan x_2 (100000 : Int)).fst)).getD []).getD x_10.toNat (Route.mk (0 : Int) (0 : Int) [])).driver = (hspot (cheapP none x.drivers x.orders x.plan x_2 (100000 :
  Int)).fst).driver)) = !true → ((x_10 = x_10 ∧ wrap (x_14 + (1 : Int)) = wrap (x_14 + (1 : Int))) ∧ (x.n = x.n ∧ (hspot (cheapP none x.drivers x.orders x.plan x_2 (100000 : Int)).fst).driver = (hspot (cheapP none x.drivers x.orders x.plan
  x_2 (100000 : Int)).fst).driver ∧ (hspot (cheapP none x.drivers x.orders x.plan x_2 (100000 : Int)).fst).pick = (hspot (cheapP none x.drivers x.orders x.plan x_2 (100000 : Int)).fst).pick ∧ (hspot (cheapP none x.drivers x.orders x.plan x_2
  (100000 : Int)).fst).drop = (hspot (cheapP none x.drivers x.orders x.plan x_2 (100000 : Int)).fst).drop ∧ (hspot (cheapP none x.drivers x.orders x.plan x_2 (100000 : Int)).fst).cost = (hspot (cheapP none x.drivers x.orders x.plan x_2
  (100000 : Int)).fst).cost) ∧ x.plan = x.plan ∧ x.orders = x.orders ∧ x.drivers = x.drivers ∧ x.times = x.times ∧ [] ++ x.orders ++ [x_2] = [] ++ x.orders ++ [x_2] ∧ (withP x.plan x_2.id (hspot (cheapP none x.drivers x.orders x.plan x_2
  (100000 : Int)).fst)).getD [] = (withP x.plan x_2.id (hspot (cheapP none x.drivers x.orders x.plan x_2 (100000 : Int)).fst)).getD []) ∧ inv_1 (wrap (x_14 + (1 : Int))) ∧ μ_1 (wrap (x_14 + (1 : Int))) < μ_1 x_14)) ∧ ((x.drivers.getD
  x_14.toNat FK.driver.zero).retired = !false → false = true)) ∧ ((!decide (wrap ((cost none (x.drivers.getD x_14.toNat FK.driver.zero) ([] ++ x.orders ++ [x_2]) (((withP x.plan x_2.id (hspot (cheapP none x.drivers x.orders x.plan x_2 (100000
  : Int)).fst)).getD []).getD x_10.toNat (Route.mk (0 : Int) (0 : Int) [])).stops).fst - (cost none (x.drivers.getD x_14.toNat FK.driver.zero) x.orders (x.plan.getD x_10.toNat (Route.mk (0 : Int) (0 : Int) [])).stops).fst) = (hspot (cheapP
  none x.drivers x.orders x.plan x_2 (100000 : Int)).fst).cost)) = !false → false = true)) ∧ (decide ((((withP x.plan x_2.id (hspot (cheapP none x.drivers x.orders x.plan x_2 (100000 : Int)).fst)).getD []).getD x_10.toNat (Route.mk (0 : Int)
  (0 : Int) [])).driver = (hspot (cheapP none x.drivers x.orders x.plan x_2 (100000 : Int)).fst).driver) = !true → ((0 : Int) ≤ x_10 ∧ x_10 < (↑((withP x.plan x_2.id (hspot (cheapP none x.drivers x.orders x.plan x_2 (100000 : Int)).fst)).getD
  []).length : Int)) ∧ x_10.toNat < ((withP x.plan x_2.id (hspot (cheapP none x.drivers x.orders x.plan x_2 (100000 : Int)).fst)).getD []).length ∧ ((!decide ((((withP x.plan x_2.id (hspot (cheapP none x.drivers x.orders x.plan x_2 (100000 :
  Int)).fst)).getD []).getD x_10.toNat (Route.mk (0 : Int) (0 : Int) [])).driver = (hspot (cheapP none x.drivers x.orders x.plan x_2 (100000 : Int)).fst).driver)) = true → ((!decide ((cost none (x.drivers.getD x_14.toNat FK.driver.zero)
  x.orders (x.plan.getD x_10.toNat (Route.mk (0 : Int) (0 : Int) [])).stops).fst = (cost none (x.drivers.getD x_14.toNat FK.driver.zero) ([] ++ x.orders ++ [x_2]) (((withP x.plan x_2.id (hspot (cheapP none x.drivers x.orders x.plan x_2
  (100000 : Int)).fst)).getD []).getD x_10.toNat (Route.mk (0 : Int) (0 : Int) [])).stops).fst)) = true → false = true) ∧ ((!decide ((cost none (x.drivers.getD x_14.toNat FK.driver.zero) x.orders (x.plan.getD x_10.toNat (Route.mk (0 : Int) (0
  : Int) [])).stops).fst = (cost none (x.drivers.getD x_14.toNat FK.driver.zero) ([] ++ x.orders ++ [x_2]) (((withP x.plan x_2.id (hspot (cheapP none x.drivers x.orders x.plan x_2 (100000 : Int)).fst)).getD []).getD x_10.toNat (Route.mk (0 :
  Int) (0 : Int) [])).stops).fst)) = false → ((x_10 = x_10 ∧ wrap (x_14 + (1 : Int)) = wrap (x_14 + (1 : Int))) ∧ (x.n = x.n ∧ (hspot (cheapP none x.drivers x.orders x.plan x_2 (100000 : Int)).fst).driver = (hspot (cheapP none x.drivers
  x.orders x.plan x_2 (100000 : Int)).fst).driver ∧ (hspot (cheapP none x.drivers x.orders x.plan x_2 (100000 : Int)).fst).pick = (hspot (cheapP none x.drivers x.orders x.plan x_2 (100000 : Int)).fst).pick ∧ (hspot (cheapP none x.drivers
  x.orders x.plan x_2 (100000 : Int)).fst).drop = (hspot (cheapP none x.drivers x.orders x.plan x_2 (100000 : Int)).fst).drop ∧ (hspot (cheapP none x.drivers x.orders x.plan x_2 (100000 : Int)).fst).cost = (hspot (cheapP none x.drivers
  x.orders x.plan x_2 (100000 : Int)).fst).cost) ∧ x.plan = x.plan ∧ x.orders = x.orders ∧ x.drivers = x.drivers ∧ x.times = x.times ∧ [] ++ x.orders ++ [x_2] = [] ++ x.orders ++ [x_2] ∧ (withP x.plan x_2.id (hspot (cheapP none x.drivers
  x.orders x.plan x_2 (100000 : Int)).fst)).getD [] = (withP x.plan x_2.id (hspot (cheapP none x.drivers x.orders x.plan x_2 (100000 : Int)).fst)).getD []) ∧ inv_1 (wrap (x_14 + (1 : Int))) ∧ μ_1 (wrap (x_14 + (1 : Int))) < μ_1 x_14)) ∧
  ((!decide ((((withP x.plan x_2.id (hspot (cheapP none x.drivers x.orders x.plan x_2 (100000 : Int)).fst)).getD []).getD x_10.toNat (Route.mk (0 : Int) (0 : Int) [])).driver = (hspot (cheapP none x.drivers x.orders x.plan x_2 (100000 :
  Int)).fst).driver)) = !true → ((x_10 = x_10 ∧ wrap (x_14 + (1 : Int)) = wrap (x_14 + (1 : Int))) ∧ (x.n = x.n ∧ (hspot (cheapP none x.drivers x.orders x.plan x_2 (100000 : Int)).fst).driver = (hspot (cheapP none x.drivers x.orders x.plan
  x_2 (100000 : Int)).fst).driver ∧ (hspot (cheapP none x.drivers x.orders x.plan x_2 (100000 : Int)).fst).pick = (hspot (cheapP none x.drivers x.orders x.plan x_2 (100000 : Int)).fst).pick ∧ (hspot (cheapP none x.drivers x.orders x.plan x_2
  (100000 : Int)).fst).drop = (hspot (cheapP none x.drivers x.orders x.plan x_2 (100000 : Int)).fst).drop ∧ (hspot (cheapP none x.drivers x.orders x.plan x_2 (100000 : Int)).fst).cost = (hspot (cheapP none x.drivers x.orders x.plan x_2
  (100000 : Int)).fst).cost) ∧ x.plan = x.plan ∧ x.orders = x.orders ∧ x.drivers = x.drivers ∧ x.times = x.times ∧ [] ++ x.orders ++ [x_2] = [] ++ x.orders ++ [x_2] ∧ (withP x.plan x_2.id (hspot (cheapP none x.drivers x.orders x.plan x_2
  (100000 : Int)).fst)).getD [] = (withP x.plan x_2.id (hspot (cheapP none x.drivers x.orders x.plan x_2 (100000 : Int)).fst)).getD []) ∧ inv_1 (wrap (x_14 + (1 : Int))) ∧ μ_1 (wrap (x_14 + (1 : Int))) < μ_1 x_14))) ∧ ((!(cost none
  (x.drivers.getD x_14.toNat FK.driver.zero) ([] ++ x.orders ++ [x_2]) (((withP x.plan x_2.id (hspot (cheapP none x.drivers x.orders x.plan x_2 (100000 : Int)).fst)).getD []).getD x_10.toNat (Route.mk (0 : Int) (0 : Int) [])).stops).snd) =
  !false → false = true)) ∧ ((!(cost none (x.drivers.getD x_14.toNat FK.driver.zero) x.orders (x.plan.getD x_10.toNat (Route.mk (0 : Int) (0 : Int) [])).stops).snd) = !false → false = true))) ∧ (decide (x_14 < (↑x.drivers.length : Int)) =
  false → (wrap (x_10 + (1 : Int)) = wrap (x_10 + (1 : Int)) ∧ (x.n = x.n ∧ (hspot (cheapP none x.drivers x.orders x.plan x_2 (100000 : Int)).fst).driver = (hspot (cheapP none x.drivers x.orders x.plan x_2 (100000 : Int)).fst).driver ∧ (hspot
  (cheapP none x.drivers x.orders x.plan x_2 (100000 : Int)).fst).pick = (hspot (cheapP none x.drivers x.orders x.plan x_2 (100000 : Int)).fst).pick ∧ (hspot (cheapP none x.drivers x.orders x.plan x_2 (100000 : Int)).fst).drop = (hspot
  (cheapP none x.drivers x.orders x.plan x_2 (100000 : Int)).fst).drop ∧ (hspot (cheapP none x.drivers x.orders x.plan x_2 (100000 : Int)).fst).cost = (hspot (cheapP none x.drivers x.orders x.plan x_2 (100000 : Int)).fst).cost) ∧ x.plan =
  x.plan ∧ x.orders = x.orders ∧ x.drivers = x.drivers ∧ x.times = x.times ∧ [] ++ x.orders ++ [x_2] = [] ++ x.orders ++ [x_2] ∧ (withP x.plan x_2.id (hspot (cheapP none x.drivers x.orders x.plan x_2 (100000 : Int)).fst)).getD [] = (withP
  x.plan x_2.id (hspot (cheapP none x.drivers x.orders x.plan x_2 (100000 : Int)).fst)).getD []) ∧ inv (wrap (x_10 + (1 : Int))) () ∧ μ (wrap (x_10 + (1 : Int))) () < μ x_10 x_11)) ∧ (decide (x_10 < (↑((withP x.plan x_2.id (hspot (cheapP none
  x.drivers x.orders x.plan x_2 (100000 : Int)).fst)).getD []).length : Int)) = false → true = true))) ∧ ((!good (cfauR (makeP none x.drivers ([] ++ x.orders ++ [x_2]) ((withP x.plan x_2.id (hspot (cheapP none x.drivers x.orders x.plan x_2
  (100000 : Int)).fst)).getD [])))) = !false → false = true)) ∧ ((!(withP x.plan x_2.id (hspot (cheapP none x.drivers x.orders x.plan x_2 (100000 : Int)).fst)).isSome) = !false → false = true)))) ∧ (newE x.n x.times = (0 : Int) → ((!true) =
  true → false = true) ∧ ((!true) = false → (∀ (x_6 : MapD), some (MapD.mk x.n x.times) = some x_6 → MapOk x_6) ∧ ((!decide ((cheapP (some (MapD.mk x.n x.times)) x.drivers x.orders x.plan x_2 (100000 : Int)).snd = (0 : Int))) = true →
  ((decide ((hspot (cheapP (some (MapD.mk x.n x.times)) x.drivers x.orders x.plan x_2 (100000 : Int)).fst).driver = (0 : Int)) && (decide ((hspot (cheapP (some (MapD.mk x.n x.times)) x.drivers x.orders x.plan x_2 (100000 : Int)).fst).pick =
  (0 : Int)) && (decide ((hspot (cheapP (some (MapD.mk x.n x.times)) x.drivers x.orders x.plan x_2 (100000 : Int)).fst).drop = (0 : Int)) && (decide ((hspot (cheapP (some (MapD.mk x.n x.times)) x.drivers x.orders x.plan x_2 (100000 :
  Int)).fst).cost = (0 : Int)) && true)))) = true → (decide ((cheapP (some (MapD.mk x.n x.times)) x.drivers x.orders x.plan x_2 (100000 : Int)).snd = (1 : Int)) = false → (decide ((cheapP (some (MapD.mk x.n x.times)) x.drivers x.orders x.plan
  x_2 (100000 : Int)).snd = (20 : Int)) = true → true = true) ∧ (decide ((cheapP (some (MapD.mk x.n x.times)) x.drivers x.orders x.plan x_2 (100000 : Int)).snd = (20 : Int)) = !true → false = true)) ∧ (decide ((cheapP (some (MapD.mk x.n
  x.times)) x.drivers x.orders x.plan x_2 (100000 : Int)).snd = (1 : Int)) = !false → true = true)) ∧ ((decide ((hspot (cheapP (some (MapD.mk x.n x.times)) x.drivers x.orders x.plan x_2 (100000 : Int)).fst).driver = (0 : Int)) && (decide
  ((hspot (cheapP (some (MapD.mk x.n x.times)) x.drivers x.orders x.plan x_2 (100000 : Int)).fst).pick = (0 : Int)) && (decide ((hspot (cheapP (some (MapD.mk x.n x.times)) x.drivers x.orders x.plan x_2 (100000 : Int)).fst).drop = (0 : Int))
  && (decide ((hspot (cheapP (some (MapD.mk x.n x.times)) x.drivers x.orders x.plan x_2 (100000 : Int)).fst).cost = (0 : Int)) && true)))) = !true → false = true)) ∧ ((!decide ((cheapP (some (MapD.mk x.n x.times)) x.drivers x.orders x.plan
  x_2 (100000 : Int)).snd = (0 : Int))) = false → (True ∧ ((0 : Nat) + x.orders.length) * ((8 : Nat) * (10 : Nat)) ≤ (140737488355328 : Nat)) ∧ (True ∧ (([] ++ x.orders).length + [x_2].length) * ((8 : Nat) * (10 : Nat)) ≤ (140737488355328 :
  Nat)) ∧ (∀ (x_7 : MapD), some (MapD.mk x.n x.times) = some x_7 → MapOk x_7) ∧ ((!(withP x.plan x_2.id (hspot (cheapP (some (MapD.mk x.n x.times)) x.drivers x.orders x.plan x_2 (100000 : Int)).fst)).isSome) = false → ((!good (cfauR (makeP
  (some (MapD.mk x.n x.times)) x.drivers ([] ++ x.orders ++ [x_2]) ((withP x.plan x_2.id (hspot (cheapP (some (MapD.mk x.n x.times)) x.drivers x.orders x.plan x_2 (100000 : Int)).fst)).getD [])))) = false → ((!decide ((↑((withP x.plan x_2.id
  (hspot (cheapP (some (MapD.mk x.n x.times)) x.drivers x.orders x.plan x_2 (100000 : Int)).fst)).getD []).length : Int) = (↑x.plan.length : Int))) = true → false = true) ∧ ((!decide ((↑((withP x.plan x_2.id (hspot (cheapP (some (MapD.mk x.n
  x.times)) x.drivers x.orders x.plan x_2 (100000 : Int)).fst)).getD []).length : Int) = (↑x.plan.length : Int))) = false → ∃ (inv : Int → PUnit → Prop), ∃ (μ : Int → PUnit → Nat), (((0 : Int) = (0 : Int) ∧ (x.n = x.n ∧ x.n = x.n ∧ (hspot
  (cheapP (some (MapD.mk x.n x.times)) x.drivers x.orders x.plan x_2 (100000 : Int)).fst).driver = (hspot (cheapP (some (MapD.mk x.n x.times)) x.drivers x.orders x.plan x_2 (100000 : Int)).fst).driver ∧ (hspot (cheapP (some (MapD.mk x.n
  x.times)) x.drivers x.orders x.plan x_2 (100000 : Int)).fst).pick = (hspot (cheapP (some (MapD.mk x.n x.times)) x.drivers x.orders x.plan x_2 (100000 : Int)).fst).pick ∧ (hspot (cheapP (some (MapD.mk x.n x.times)) x.drivers x.orders x.plan
  x_2 (100000 : Int)).fst).drop = (hspot (cheapP (some (MapD.mk x.n x.times)) x.drivers x.orders x.plan x_2 (100000 : Int)).fst).drop ∧ (hspot (cheapP (some (MapD.mk x.n x.times)) x.drivers x.orders x.plan x_2 (100000 : Int)).fst).cost =
  (hspot (cheapP (some (MapD.mk x.n x.times)) x.drivers x.orders x.plan x_2 (100000 : Int)).fst).cost) ∧ x.times = x.times ∧ x.plan = x.plan ∧ x.orders = x.orders ∧ x.drivers = x.drivers ∧ x.times = x.times ∧ [] ++ x.orders ++ [x_2] = [] ++
  x.orders ++ [x_2] ∧ (withP x.plan x_2.id (hspot (cheapP (some (MapD.mk x.n x.times)) x.drivers x.orders x.plan x_2 (100000 : Int)).fst)).getD [] = (withP x.plan x_2.id (hspot (cheapP (some (MapD.mk x.n x.times)) x.drivers x.orders x.plan
  x_2 (100000 : Int)).fst)).getD []) ∧ inv (0 : Int) ()) ∧ ∀ (x_10 : Int) (x_11 : PUnit), inv x_10 x_11 → (decide (x_10 < (↑((withP x.plan x_2.id (hspot (cheapP (some (MapD.mk x.n x.times)) x.drivers x.orders x.plan x_2 (100000 :
  Int)).fst)).getD []).length : Int)) = true → ∃ (inv_1 : Int → Prop), ∃ (μ_1 : Int → Nat), (((x_10 = x_10 ∧ (0 : Int) = (0 : Int)) ∧ (x.n = x.n ∧ x.n = x.n ∧ (hspot (cheapP (some (MapD.mk x.n x.times)) x.drivers x.orders x.plan x_2 (100000 :
  Int)).fst).driver = (hspot (cheapP (some (MapD.mk x.n x.times)) x.drivers x.orders x.plan x_2 (100000 : Int)).fst).driver ∧ (hspot (cheapP (some (MapD.mk x.n x.times)) x.drivers x.orders x.plan x_2 (100000 : Int)).fst).pick = (hspot (cheapP
  (some (MapD.mk x.n x.times)) x.drivers x.orders x.plan x_2 (100000 : Int)).fst).pick ∧ (hspot (cheapP (some (MapD.mk x.n x.times)) x.drivers x.orders x.plan x_2 (100000 : Int)).fst).drop = (hspot (cheapP (some (MapD.mk x.n x.times))
  x.drivers x.orders x.plan x_2 (100000 : Int)).fst).drop ∧ (hspot (cheapP (some (MapD.mk x.n x.times)) x.drivers x.orders x.plan x_2 (100000 : Int)).fst).cost = (hspot (cheapP (some (MapD.mk x.n x.times)) x.drivers x.orders x.plan x_2
  (100000 : Int)).fst).cost) ∧ x.times = x.times ∧ x.plan = x.plan ∧ x.orders = x.orders ∧ x.drivers = x.drivers ∧ x.times = x.times ∧ [] ++ x.orders ++ [x_2] = [] ++ x.orders ++ [x_2] ∧ (withP x.plan x_2.id (hspot (cheapP (some (MapD.mk x.n
  x.times)) x.drivers x.orders x.plan x_2 (100000 : Int)).fst)).getD [] = (withP x.plan x_2.id (hspot (cheapP (some (MapD.mk x.n x.times)) x.drivers x.orders x.plan x_2 (100000 : Int)).fst)).getD []) ∧ inv_1 (0 : Int)) ∧ ∀ (x_14 : Int), inv_1
  x_14 → (decide (x_14 < (↑x.drivers.length : Int)) = true → ((0 : Int) ≤ x_14 ∧ x_14 < (↑x.drivers.length : Int)) ∧ x_14.toNat < x.drivers.length ∧ ((0 : Int) ≤ x_10 ∧ x_10 < (↑((withP x.plan x_2.id (hspot (cheapP (some (MapD.mk x.n
  x.times)) x.drivers x.orders x.plan x_2 (100000 : Int)).fst)).getD []).length : Int)) ∧ x_10.toNat < ((withP x.plan x_2.id (hspot (cheapP (some (MapD.mk x.n x.times)) x.drivers x.orders x.plan x_2 (100000 : Int)).fst)).getD []).length ∧
  ((!decide ((x.drivers.getD x_14.toNat FK.driver.zero).id = (((withP x.plan x_2.id (hspot (cheapP (some (MapD.mk x.n x.times)) x.drivers x.orders x.plan x_2 (100000 : Int)).fst)).getD []).getD x_10.toNat (Route.mk (0 : Int) (0 : Int)
  [])).driver)) = true → ((x_10 = x_10 ∧ wrap (x_14 + (1 : Int)) = wrap (x_14 + (1 : Int))) ∧ (x.n = x.n ∧ x.n = x.n ∧ (hspot (cheapP (some (MapD.mk x.n x.times)) x.drivers x.orders x.plan x_2 (100000 : Int)).fst).driver = (hspot (cheapP
  (some (MapD.mk x.n x.times)) x.drivers x.orders x.plan x_2 (100000 : Int)).fst).driver ∧ (hspot (cheapP (some (MapD.mk x.n x.times)) x.drivers x.orders x.plan x_2 (100000 : Int)).fst).pick = (hspot (cheapP (some (MapD.mk x.n x.times))
  x.drivers x.orders x.plan x_2 (100000 : Int)).fst).pick ∧ (hspot (cheapP (some (MapD.mk x.n x.times)) x.drivers x.orders x.plan x_2 (100000 : Int)).fst).drop = (hspot (cheapP (some (MapD.mk x.n x.times)) x.drivers x.orders x.plan x_2
  (100000 : Int)).fst).drop ∧ (hspot (cheapP (some (MapD.mk x.n x.times)) x.drivers x.orders x.plan x_2 (100000 : Int)).fst).cost = (hspot (cheapP (some (MapD.mk x.n x.times)) x.drivers x.orders x.plan x_2 (100000 : Int)).fst).cost) ∧ x.times
  = x.times ∧ x.plan = x.plan ∧ x.orders = x.orders ∧ x.drivers = x.drivers ∧ x.times = x.times ∧ [] ++ x.orders ++ [x_2] = [] ++ x.orders ++ [x_2] ∧ (withP x.plan x_2.id (hspot (cheapP (some (MapD.mk x.n x.times)) x.drivers x.orders x.plan
  x_2 (100000 : Int)).fst)).getD [] = (withP x.plan x_2.id (hspot (cheapP (some (MapD.mk x.n x.times)) x.drivers x.orders x.plan x_2 (100000 : Int)).fst)).getD []) ∧ inv_1 (wrap (x_14 + (1 : Int))) ∧ μ_1 (wrap (x_14 + (1 : Int))) < μ_1 x_14)
  ∧ ((!decide ((x.drivers.getD x_14.toNat FK.driver.zero).id = (((withP x.plan x_2.id (hspot (cheapP (some (MapD.mk x.n x.times)) x.drivers x.orders x.plan x_2 (100000 : Int)).fst)).getD []).getD x_10.toNat (Route.mk (0 : Int) (0 : Int)
  [])).driver)) = false → ((0 : Int) ≤ x_14 ∧ x_14 < (↑x.drivers.length : Int)) ∧ x_14.toNat < x.drivers.length ∧ ((0 : Int) ≤ x_10 ∧ x_10 < (↑x.plan.length : Int)) ∧ x_10.toNat < x.plan.length ∧ (∀ (x_18 : MapD), some (MapD.mk x.n x.times) =
  some x_18 → MapOk x_18) ∧ ((0 : Int) ≤ x_14 ∧ x_14 < (↑x.drivers.length : Int)) ∧ x_14.toNat < x.drivers.length ∧ ((0 : Int) ≤ x_10 ∧ x_10 < (↑((withP x.plan x_2.id (hspot (cheapP (some (MapD.mk x.n x.times)) x.drivers x.orders x.plan x_2
  (100000 : Int)).fst)).getD []).length : Int)) ∧ x_10.toNat < ((withP x.plan x_2.id (hspot (cheapP (some (MapD.mk x.n x.times)) x.drivers x.orders x.plan x_2 (100000 : Int)).fst)).getD []).length ∧ (∀ (x_18 : MapD), some (MapD.mk x.n
  x.times) = some x_18 → MapOk x_18) ∧ ((!(cost (some (MapD.mk x.n x.times)) (x.drivers.getD x_14.toNat FK.driver.zero) x.orders (x.plan.getD x_10.toNat (Route.mk (0 : Int) (0 : Int) [])).stops).snd) = false → ((!(cost (some (MapD.mk x.n
  x.times)) (x.drivers.getD x_14.toNat FK.driver.zero) ([] ++ x.orders ++ [x_2]) (((withP x.plan x_2.id (hspot (cheapP (some (MapD.mk x.n x.times)) x.drivers x.orders x.plan x_2 (100000 : Int)).fst)).getD []).getD x_10.toNat (Route.mk (0 :
  Int) (0 : Int) [])).stops).snd) = false → ((0 : Int) ≤ x_10 ∧ x_10 < (↑((withP x.plan x_2.id (hspot (cheapP (some (MapD.mk x.n x.times)) x.drivers x.orders x.plan x_2 (100000 : Int)).fst)).getD []).length : Int)) ∧ x_10.toNat < ((withP
  x.plan x_2.id (hspot (cheapP (some (MapD.mk x.n x.times)) x.drivers x.orders x.plan x_2 (100000 : Int)).fst)).getD []).length ∧ (decide ((((withP x.plan x_2.id (hspot (cheapP (some (MapD.mk x.n x.times)) x.drivers x.orders x.plan x_2
  (100000 : Int)).fst)).getD []).getD x_10.toNat (Route.mk (0 : Int) (0 : Int) [])).driver = (hspot (cheapP (some (MapD.mk x.n x.times)) x.drivers x.orders x.plan x_2 (100000 : Int)).fst).driver) = true → ((!decide (wrap ((cost (some (MapD.mk
  x.n x.times)) (x.drivers.getD x_14.toNat FK.driver.zero) ([] ++ x.orders ++ [x_2]) (((withP x.plan x_2.id (hspot (cheapP (some (MapD.mk x.n x.times)) x.drivers x.orders x.plan x_2 (100000 : Int)).fst)).getD []).getD x_10.toNat (Route.mk (0
  : Int) (0 : Int) [])).stops).fst - (cost (some (MapD.mk x.n x.times)) (x.drivers.getD x_14.toNat FK.driver.zero) x.orders (x.plan.getD x_10.toNat (Route.mk (0 : Int) (0 : Int) [])).stops).fst) = (hspot (cheapP (some (MapD.mk x.n x.times))
  x.drivers x.orders x.plan x_2 (100000 : Int)).fst).cost)) = false → ((0 : Int) ≤ x_14 ∧ x_14 < (↑x.drivers.length : Int)) ∧ x_14.toNat < x.drivers.length ∧ ((x.drivers.getD x_14.toNat FK.driver.zero).retired = false → ((0 : Int) ≤ x_10 ∧
  x_10 < (↑((withP x.plan x_2.id (hspot (cheapP (some (MapD.mk x.n x.times)) x.drivers x.orders x.plan x_2 (100000 : Int)).fst)).getD []).length : Int)) ∧ x_10.toNat < ((withP x.plan x_2.id (hspot (cheapP (some (MapD.mk x.n x.times))
  x.drivers x.orders x.plan x_2 (100000 : Int)).fst)).getD []).length ∧ ((!decide ((((withP x.plan x_2.id (hspot (cheapP (some (MapD.mk x.n x.times)) x.drivers x.orders x.plan x_2 (100000 : Int)).fst)).getD []).getD x_10.toNat (Route.mk (0 :
  Int) (0 : Int) [])).driver = (hspot (cheapP (some (MapD.mk x.n x.times)) x.drivers x.orders x.plan x_2 (100000 : Int)).fst).driver)) = true → ((!decide ((cost (some (MapD.mk x.n x.times)) (x.drivers.getD x_14.toNat FK.driver.zero) x.orders
  (x.plan.getD x_10.toNat (Route.mk (0 : Int) (0 : Int) [])).stops).fst = (cost (some (MapD.mk x.n x.times)) (x.drivers.getD x_14.toNat FK.driver.zero) ([] ++ x.orders ++ [x_2]) (((withP x.plan x_2.id (hspot (cheapP (some (MapD.mk x.n
  x.times)) x.drivers x.orders x.plan x_2 (100000 : Int)).fst)).getD []).getD x_10.toNat (Route.mk (0 : Int) (0 : Int) [])).stops).fst)) = true → false = true) ∧ ((!decide ((cost (some (MapD.mk x.n x.times)) (x.drivers.getD x_14.toNat
  FK.driver.zero) x.orders (x.plan.getD x_10.toNat (Route.mk (0 : Int) (0 : Int) [])).stops).fst = (cost (some (MapD.mk x.n x.times)) (x.drivers.getD x_14.toNat FK.driver.zero) ([] ++ x.orders ++ [x_2]) (((withP x.plan x_2.id (hspot (cheapP
  (some (MapD.mk x.n x.times)) x.drivers x.orders x.plan x_2 (100000 : Int)).fst)).getD []).getD x_10.toNat (Route.mk (0 : Int) (0 : Int) [])).stops).fst)) = false → ((x_10 = x_10 ∧ wrap (x_14 + (1 : Int)) = wrap (x_14 + (1 : Int))) ∧ (x.n =
  x.n ∧ x.n = x.n ∧ (hspot (cheapP (some (MapD.mk x.n x.times)) x.drivers x.orders x.plan x_2 (100000 : Int)).fst).driver = (hspot (cheapP (some (MapD.mk x.n x.times)) x.drivers x.orders x.plan x_2 (100000 : Int)).fst).driver ∧ (hspot (cheapP
  (some (MapD.mk x.n x.times)) x.drivers x.orders x.plan x_2 (100000 : Int)).fst).pick = (hspot (cheapP (some (MapD.mk x.n x.times)) x.drivers x.orders x.plan x_2 (100000 : Int)).fst).pick ∧ (hspot (cheapP (some (MapD.mk x.n x.times))
  x.drivers x.orders x.plan x_2 (100000 : Int)).fst).drop = (hspot (cheapP (some (MapD.mk x.n x.times)) x.drivers x.orders x.plan x_2 (100000 : Int)).fst).drop ∧ (hspot (cheapP (some (MapD.mk x.n x.times)) x.drivers x.orders x.plan x_2
  (100000 : Int)).fst).cost = (hspot (cheapP (some (MapD.mk x.n x.times)) x.drivers x.orders x.plan x_2 (100000 : Int)).fst).cost) ∧ x.times = x.times ∧ x.plan = x.plan ∧ x.orders = x.orders ∧ x.drivers = x.drivers ∧ x.times = x.times ∧ [] ++
  x.orders ++ [x_2] = [] ++ x.orders ++ [x_2] ∧ (withP x.plan x_2.id (hspot (cheapP (some (MapD.mk x.n x.times)) x.drivers x.orders x.plan x_2 (100000 : Int)).fst)).getD [] = (withP x.plan x_2.id (hspot (cheapP (some (MapD.mk x.n x.times))
  x.drivers x.orders x.plan x_2 (100000 : Int)).fst)).getD []) ∧ inv_1 (wrap (x_14 + (1 : Int))) ∧ μ_1 (wrap (x_14 + (1 : Int))) < μ_1 x_14)) ∧ ((!decide ((((withP x.plan x_2.id (hspot (cheapP (some (MapD.mk x.n x.times)) x.drivers x.orders
  x.plan x_2 (100000 : Int)).fst)).getD []).getD x_10.toNat (Route.mk (0 : Int) (0 : Int) [])).driver = (hspot (cheapP (some (MapD.mk x.n x.times)) x.drivers x.orders x.plan x_2 (100000 : Int)).fst).driver)) = !true → ((x_10 = x_10 ∧ wrap
  (x_14 + (1 : Int)) = wrap (x_14 + (1 : Int))) ∧ (x.n = x.n ∧ x.n = x.n ∧ (hspot (cheapP (some (MapD.mk x.n x.times)) x.drivers x.orders x.plan x_2 (100000 : Int)).fst).driver = (hspot (cheapP (some (MapD.mk x.n x.times)) x.drivers x.orders
  x.plan x_2 (100000 : Int)).fst).driver ∧ (hspot (cheapP (some (MapD.mk x.n x.times)) x.drivers x.orders x.plan x_2 (100000 : Int)).fst).pick = (hspot (cheapP (some (MapD.mk x.n x.times)) x.drivers x.orders x.plan x_2 (100000 :
  Int)).fst).pick ∧ (hspot (cheapP (some (MapD.mk x.n x.times)) x.drivers x.orders x.plan x_2 (100000 : Int)).fst).drop = (hspot (cheapP (some (MapD.mk x.n x.times)) x.drivers x.orders x.plan x_2 (100000 : Int)).fst).drop ∧ (hspot (cheapP
  (some (MapD.mk x.n x.times)) x.drivers x.orders x.plan x_2 (100000 : Int)).fst).cost = (hspot (cheapP (some (MapD.mk x.n x.times)) x.drivers x.orders x.plan x_2 (100000 : Int)).fst).cost) ∧ x.times = x.times ∧ x.plan = x.plan ∧ x.orders =
  x.orders ∧ x.drivers = x.drivers ∧ x.times = x.times ∧ [] ++ x.orders ++ [x_2] = [] ++ x.orders ++ [x_2] ∧ (withP x.plan x_2.id (hspot (cheapP (some (MapD.mk x.n x.times)) x.drivers x.orders x.plan x_2 (100000 : Int)).fst)).getD [] = (withP
  x.plan x_2.id (hspot (cheapP (some (MapD.mk x.n x.times)) x.drivers x.orders x.plan x_2 (100000 : Int)).fst)).getD []) ∧ inv_1 (wrap (x_14 + (1 : Int))) ∧ μ_1 (wrap (x_14 + (1 : Int))) < μ_1 x_14)) ∧ ((x.drivers.getD x_14.toNat
  FK.driver.zero).retired = !false → false = true)) ∧ ((!decide (wrap ((cost (some (MapD.mk x.n x.times)) (x.drivers.getD x_14.toNat FK.driver.zero) ([] ++ x.orders ++ [x_2]) (((withP x.plan x_2.id (hspot (cheapP (some (MapD.mk x.n x.times))
  x.drivers x.orders x.plan x_2 (100000 : Int)).fst)).getD []).getD x_10.toNat (Route.mk (0 : Int) (0 : Int) [])).stops).fst - (cost (some (MapD.mk x.n x.times)) (x.drivers.getD x_14.toNat FK.driver.zero) x.orders (x.plan.getD x_10.toNat
  (Route.mk (0 : Int) (0 : Int) [])).stops).fst) = (hspot (cheapP (some (MapD.mk x.n x.times)) x.drivers x.orders x.plan x_2 (100000 : Int)).fst).cost)) = !false → false = true)) ∧ (decide ((((withP x.plan x_2.id (hspot (cheapP (some (MapD.mk
  x.n x.times)) x.drivers x.orders x.plan x_2 (100000 : Int)).fst)).getD []).getD x_10.toNat (Route.mk (0 : Int) (0 : Int) [])).driver = (hspot (cheapP (some (MapD.mk x.n x.times)) x.drivers x.orders x.plan x_2 (100000 : Int)).fst).driver) =
  !true → ((0 : Int) ≤ x_10 ∧ x_10 < (↑((withP x.plan x_2.id (hspot (cheapP (some (MapD.mk x.n x.times)) x.drivers x.orders x.plan x_2 (100000 : Int)).fst)).getD []).length : Int)) ∧ x_10.toNat < ((withP x.plan x_2.id (hspot (cheapP (some
  (MapD.mk x.n x.times)) x.drivers x.orders x.plan x_2 (100000 : Int)).fst)).getD []).length ∧ ((!decide ((((withP x.plan x_2.id (hspot (cheapP (some (MapD.mk x.n x.times)) x.drivers x.orders x.plan x_2 (100000 : Int)).fst)).getD []).getD
  x_10.toNat (Route.mk (0 : Int) (0 : Int) [])).driver = (hspot (cheapP (some (MapD.mk x.n x.times)) x.drivers x.orders x.plan x_2 (100000 : Int)).fst).driver)) = true → ((!decide ((cost (some (MapD.mk x.n x.times)) (x.drivers.getD x_14.toNat
  FK.driver.zero) x.orders (x.plan.getD x_10.toNat (Route.mk (0 : Int) (0 : Int) [])).stops).fst = (cost (some (MapD.mk x.n x.times)) (x.drivers.getD x_14.toNat FK.driver.zero) ([] ++ x.orders ++ [x_2]) (((withP x.plan x_2.id (hspot (cheapP
  (some (MapD.mk x.n x.times)) x.drivers x.orders x.plan x_2 (100000 : Int)).fst)).getD []).getD x_10.toNat (Route.mk (0 : Int) (0 : Int) [])).stops).fst)) = true → false = true) ∧ ((!decide ((cost (some (MapD.mk x.n x.times)) (x.drivers.getD
  x_14.toNat FK.driver.zero) x.orders (x.plan.getD x_10.toNat (Route.mk (0 : Int) (0 : Int) [])).stops).fst = (cost (some (MapD.mk x.n x.times)) (x.drivers.getD x_14.toNat FK.driver.zero) ([] ++ x.orders ++ [x_2]) (((withP x.plan x_2.id
  (hspot (cheapP (some (MapD.mk x.n x.times)) x.drivers x.orders x.plan x_2 (100000 : Int)).fst)).getD []).getD x_10.toNat (Route.mk (0 : Int) (0 : Int) [])).stops).fst)) = false → ((x_10 = x_10 ∧ wrap (x_14 + (1 : Int)) = wrap (x_14 + (1 :
  Int))) ∧ (x.n = x.n ∧ x.n = x.n ∧ (hspot (cheapP (some (MapD.mk x.n x.times)) x.drivers x.orders x.plan x_2 (100000 : Int)).fst).driver = (hspot (cheapP (some (MapD.mk x.n x.times)) x.drivers x.orders x.plan x_2 (100000 : Int)).fst).driver
  ∧ (hspot (cheapP (some (MapD.mk x.n x.times)) x.drivers x.orders x.plan x_2 (100000 : Int)).fst).pick = (hspot (cheapP (some (MapD.mk x.n x.times)) x.drivers x.orders x.plan x_2 (100000 : Int)).fst).pick ∧ (hspot (cheapP (some (MapD.mk x.n
  x.times)) x.drivers x.orders x.plan x_2 (100000 : Int)).fst).drop = (hspot (cheapP (some (MapD.mk x.n x.times)) x.drivers x.orders x.plan x_2 (100000 : Int)).fst).drop ∧ (hspot (cheapP (some (MapD.mk x.n x.times)) x.drivers x.orders x.plan
  x_2 (100000 : Int)).fst).cost = (hspot (cheapP (some (MapD.mk x.n x.times)) x.drivers x.orders x.plan x_2 (100000 : Int)).fst).cost) ∧ x.times = x.times ∧ x.plan = x.plan ∧ x.orders = x.orders ∧ x.drivers = x.drivers ∧ x.times = x.times ∧
  [] ++ x.orders ++ [x_2] = [] ++ x.orders ++ [x_2] ∧ (withP x.plan x_2.id (hspot (cheapP (some (MapD.mk x.n x.times)) x.drivers x.orders x.plan x_2 (100000 : Int)).fst)).getD [] = (withP x.plan x_2.id (hspot (cheapP (some (MapD.mk x.n
  x.times)) x.drivers x.orders x.plan x_2 (100000 : Int)).fst)).getD []) ∧ inv_1 (wrap (x_14 + (1 : Int))) ∧ μ_1 (wrap (x_14 + (1 : Int))) < μ_1 x_14)) ∧ ((!decide ((((withP x.plan x_2.id (hspot (cheapP (some (MapD.mk x.n x.times)) x.drivers
  x.orders x.plan x_2 (100000 : Int)).fst)).getD []).getD x_10.toNat (Route.mk (0 : Int) (0 : Int) [])).driver = (hspot (cheapP (some (MapD.mk x.n x.times)) x.drivers x.orders x.plan x_2 (100000 : Int)).fst).driver)) = !true → ((x_10 = x_10 ∧
  wrap (x_14 + (1 : Int)) = wrap (x_14 + (1 : Int))) ∧ (x.n = x.n ∧ x.n = x.n ∧ (hspot (cheapP (some (MapD.mk x.n x.times)) x.drivers x.orders x.plan x_2 (100000 : Int)).fst).driver = (hspot (cheapP (some (MapD.mk x.n x.times)) x.drivers
  x.orders x.plan x_2 (100000 : Int)).fst).driver ∧ (hspot (cheapP (some (MapD.mk x.n x.times)) x.drivers x.orders x.plan x_2 (100000 : Int)).fst).pick = (hspot (cheapP (some (MapD.mk x.n x.times)) x.drivers x.orders x.plan x_2 (100000 :
  Int)).fst).pick ∧ (hspot (cheapP (some (MapD.mk x.n x.times)) x.drivers x.orders x.plan x_2 (100000 : Int)).fst).drop = (hspot (cheapP (some (MapD.mk x.n x.times)) x.drivers x.orders x.plan x_2 (100000 : Int)).fst).drop ∧ (hspot (cheapP
  (some (MapD.mk x.n x.times)) x.drivers x.orders x.plan x_2 (100000 : Int)).fst).cost = (hspot (cheapP (some (MapD.mk x.n x.times)) x.drivers x.orders x.plan x_2 (100000 : Int)).fst).cost) ∧ x.times = x.times ∧ x.plan = x.plan ∧ x.orders =
  x.orders ∧ x.drivers = x.drivers ∧ x.times = x.times ∧ [] ++ x.orders ++ [x_2] = [] ++ x.orders ++ [x_2] ∧ (withP x.plan x_2.id (hspot (cheapP (some (MapD.mk x.n x.times)) x.drivers x.orders x.plan x_2 (100000 : Int)).fst)).getD [] = (withP
  x.plan x_2.id (hspot (cheapP (some (MapD.mk x.n x.times)) x.drivers x.orders x.plan x_2 (100000 : Int)).fst)).getD []) ∧ inv_1 (wrap (x_14 + (1 : Int))) ∧ μ_1 (wrap (x_14 + (1 : Int))) < μ_1 x_14))) ∧ ((!(cost (some (MapD.mk x.n x.times))
  (x.drivers.getD x_14.toNat FK.driver.zero) ([] ++ x.orders ++ [x_2]) (((withP x.plan x_2.id (hspot (cheapP (some (MapD.mk x.n x.times)) x.drivers x.orders x.plan x_2 (100000 : Int)).fst)).getD []).getD x_10.toNat (Route.mk (0 : Int) (0 :
  Int) [])).stops).snd) = !false → false = true)) ∧ ((!(cost (some (MapD.mk x.n x.times)) (x.drivers.getD x_14.toNat FK.driver.zero) x.orders (x.plan.getD x_10.toNat (Route.mk (0 : Int) (0 : Int) [])).stops).snd) = !false → false = true))) ∧
  (decide (x_14 < (↑x.drivers.length : Int)) = false → (wrap (x_10 + (1 : Int)) = wrap (x_10 + (1 : Int)) ∧ (x.n = x.n ∧ x.n = x.n ∧ (hspot (cheapP (some (MapD.mk x.n x.times)) x.drivers x.orders x.plan x_2 (100000 : Int)).fst).driver =
  (hspot (cheapP (some (MapD.mk x.n x.times)) x.drivers x.orders x.plan x_2 (100000 : Int)).fst).driver ∧ (hspot (cheapP (some (MapD.mk x.n x.times)) x.drivers x.orders x.plan x_2 (100000 : Int)).fst).pick = (hspot (cheapP (some (MapD.mk x.n
  x.times)) x.drivers x.orders x.plan x_2 (100000 : Int)).fst).pick ∧ (hspot (cheapP (some (MapD.mk x.n x.times)) x.drivers x.orders x.plan x_2 (100000 : Int)).fst).drop = (hspot (cheapP (some (MapD.mk x.n x.times)) x.drivers x.orders x.plan
  x_2 (100000 : Int)).fst).drop ∧ (hspot (cheapP (some (MapD.mk x.n x.times)) x.drivers x.orders x.plan x_2 (100000 : Int)).fst).cost = (hspot (cheapP (some (MapD.mk x.n x.times)) x.drivers x.orders x.plan x_2 (100000 : Int)).fst).cost) ∧
  x.times = x.times ∧ x.plan = x.plan ∧ x.orders = x.orders ∧ x.drivers = x.drivers ∧ x.times = x.times ∧ [] ++ x.orders ++ [x_2] = [] ++ x.orders ++ [x_2] ∧ (withP x.plan x_2.id (hspot (cheapP (some (MapD.mk x.n x.times)) x.drivers x.orders
  x.plan x_2 (100000 : Int)).fst)).getD [] = (withP x.plan x_2.id (hspot (cheapP (some (MapD.mk x.n x.times)) x.drivers x.orders x.plan x_2 (100000 : Int)).fst)).getD []) ∧ inv (wrap (x_10 + (1 : Int))) () ∧ μ (wrap (x_10 + (1 : Int))) () < μ
  x_10 x_11)) ∧ (decide (x_10 < (↑((withP x.plan x_2.id (hspot (cheapP (some (MapD.mk x.n x.times)) x.drivers x.orders x.plan x_2 (100000 : Int)).fst)).getD []).length : Int)) = false → true = true))) ∧ ((!good (cfauR (makeP (some (MapD.mk
  x.n x.times)) x.drivers ([] ++ x.orders ++ [x_2]) ((withP x.plan x_2.id (hspot (cheapP (some (MapD.mk x.n x.times)) x.drivers x.orders x.plan x_2 (100000 : Int)).fst)).getD [])))) = !false → false = true)) ∧ ((!(withP x.plan x_2.id (hspot
  (cheapP (some (MapD.mk x.n x.times)) x.drivers x.orders x.plan x_2 (100000 : Int)).fst)).isSome) = !false → false = true))))
theorem insertFits_told (hc : CsOk Try.prog insertFits_cs) (h : insertFits_vc) : Told Try.prog 4 insertFits_con := told (A := insertFits_la) tabOk mixed hc Try.func4 (by kernel_rfl) (by kernel_rfl) h
end Go.Eng

/- The conditions of functions, as print.. of the engine told them. -/
set_option linter.unusedVariables false
namespace Go.Eng
open Go Go.Proofs
end Go.Eng

/- The conditions of functions, as print.. of the engine told them. -/
set_option linter.unusedVariables false
namespace Go.Eng
open Go Go.Proofs
end Go.Eng

/- The conditions of functions, as print.. of the engine told them. -/
set_option linter.unusedVariables false
namespace Go.Eng
open Go Go.Proofs
def insertRuns_vc : Prop :=
  ((!decide ((0 : Int) = (0 : Int))) = false → (∀ (x : MapD), some (MapD.mk (2 : Int) [(0 : Int), (5 : Int), (7 : Int), (0 : Int)]) = some x → MapOk x) ∧ (isH (bestP (some (MapD.mk (2 : Int) [(0 : Int), (5 : Int), (7 : Int), (0 : Int)]))
  (Driver.mk (4 : Int) (4 : Int) (1 : Int) (1 : Int) (30 : Int) false) [] (Route.mk (4 : Int) (0 : Int) []) (Order.mk (1 : Int) (3 : Int) (0 : Int) (2 : Int) (9 : Int) (1 : Int) (1 : Int) (0 : Int) (20 : Int) (2 : Int)) (9 : Int)) (Spot.mk (4
  : Int) (0 : Int) (0 : Int) (12 : Int)) (1 : Int) (0 : Int) = true → (∀ (x : MapD), some (MapD.mk (2 : Int) [(0 : Int), (5 : Int), (7 : Int), (0 : Int)]) = some x → MapOk x) ∧ (isH (bestP (some (MapD.mk (2 : Int) [(0 : Int), (5 : Int), (7 :
  Int), (0 : Int)])) (Driver.mk (4 : Int) (4 : Int) (1 : Int) (1 : Int) (30 : Int) false) [Order.mk (1 : Int) (3 : Int) (0 : Int) (2 : Int) (9 : Int) (1 : Int) (1 : Int) (0 : Int) (20 : Int) (2 : Int)] (Route.mk (4 : Int) (0 : Int) [Stop.mk
  (1 : Int) false, Stop.mk (1 : Int) true]) (Order.mk (2 : Int) (1 : Int) (0 : Int) (0 : Int) (100 : Int) (1 : Int) (1 : Int) (0 : Int) (100 : Int) (2 : Int)) (9 : Int)) (Spot.mk (4 : Int) (0 : Int) (1 : Int) (0 : Int)) (6 : Int) (0 : Int) =
  true → (∀ (x : MapD), some (MapD.mk (2 : Int) [(0 : Int), (5 : Int), (7 : Int), (0 : Int)]) = some x → MapOk x) ∧ (∀ (x : MapD), some (MapD.mk (2 : Int) [(0 : Int), (5 : Int), (7 : Int), (0 : Int)]) = some x → MapOk x) ∧ (isH (bestP (some
  (MapD.mk (2 : Int) [(0 : Int), (5 : Int), (7 : Int), (0 : Int)])) (Driver.mk (4 : Int) (4 : Int) (1 : Int) (1 : Int) (30 : Int) false) [Order.mk (1 : Int) (3 : Int) (0 : Int) (2 : Int) (9 : Int) (1 : Int) (1 : Int) (0 : Int) (20 : Int) (2 :
  Int)] (Route.mk (4 : Int) (0 : Int) [Stop.mk (1 : Int) false, Stop.mk (1 : Int) true]) (Order.mk (2 : Int) (1 : Int) (0 : Int) (0 : Int) (100 : Int) (1 : Int) (1 : Int) (0 : Int) (100 : Int) (2 : Int)) (1 : Int)) (Spot.mk (0 : Int) (0 :
  Int) (0 : Int) (0 : Int)) (1 : Int) (20 : Int) = true → (∀ (x : MapD), some (MapD.mk (2 : Int) [(0 : Int), (5 : Int), (7 : Int), (0 : Int)]) = some x → MapOk x) ∧ (isH (bestP (some (MapD.mk (2 : Int) [(0 : Int), (5 : Int), (7 : Int), (0 :
  Int)])) (Driver.mk (4 : Int) (4 : Int) (1 : Int) (1 : Int) (30 : Int) false) [Order.mk (1 : Int) (3 : Int) (0 : Int) (2 : Int) (9 : Int) (1 : Int) (1 : Int) (0 : Int) (20 : Int) (2 : Int)] (Route.mk (4 : Int) (0 : Int) [Stop.mk (1 : Int)
  false, Stop.mk (1 : Int) true]) (Order.mk (2 : Int) (1 : Int) (0 : Int) (0 : Int) (100 : Int) (1 : Int) (1 : Int) (0 : Int) (100 : Int) (2 : Int)) (0 : Int)) (Spot.mk (0 : Int) (0 : Int) (0 : Int) (0 : Int)) (0 : Int) (20 : Int) = true → (∀
  (x : MapD), some (MapD.mk (2 : Int) [(0 : Int), (5 : Int), (7 : Int), (0 : Int)]) = some x → MapOk x) ∧ (isH (bestP (some (MapD.mk (2 : Int) [(0 : Int), (5 : Int), (7 : Int), (0 : Int)])) (Driver.mk (4 : Int) (4 : Int) (1 : Int) (1 : Int)
  (30 : Int) false) [Order.mk (1 : Int) (3 : Int) (0 : Int) (2 : Int) (9 : Int) (1 : Int) (1 : Int) (0 : Int) (20 : Int) (2 : Int)] (Route.mk (4 : Int) (3 : Int) [Stop.mk (1 : Int) false, Stop.mk (1 : Int) true]) (Order.mk (2 : Int) (1 : Int)
  (0 : Int) (0 : Int) (100 : Int) (1 : Int) (1 : Int) (0 : Int) (100 : Int) (2 : Int)) (9 : Int)) (Spot.mk (0 : Int) (0 : Int) (0 : Int) (0 : Int)) (0 : Int) (1 : Int) = true → (∀ (x : MapD), some (MapD.mk (2 : Int) [(0 : Int), (5 : Int), (7
  : Int), (0 : Int)]) = some x → MapOk x) ∧ (∀ (x : MapD), some (MapD.mk (2 : Int) [(0 : Int), (5 : Int), (7 : Int), (0 : Int)]) = some x → MapOk x) ∧ (isH (bestP (some (MapD.mk (2 : Int) [(0 : Int), (5 : Int), (7 : Int), (0 : Int)]))
  (Driver.mk (4 : Int) (4 : Int) (1 : Int) (1 : Int) (30 : Int) false) [Order.mk (1 : Int) (3 : Int) (0 : Int) (2 : Int) (9 : Int) (1 : Int) (1 : Int) (0 : Int) (20 : Int) (2 : Int)] (Route.mk (4 : Int) (0 : Int) [Stop.mk (1 : Int) false,
  Stop.mk (1 : Int) true]) (Order.mk (2 : Int) (1 : Int) (0 : Int) (0 : Int) (100 : Int) (1 : Int) (1 : Int) (0 : Int) (100 : Int) (2 : Int)) (2 : Int)) (Spot.mk (4 : Int) (0 : Int) (1 : Int) (0 : Int)) (2 : Int) (0 : Int) = true → (isH
  (bestP (some (MapD.mk (2 : Int) [(0 : Int), (5 : Int), (7 : Int), (0 : Int)])) (Driver.mk (4 : Int) (4 : Int) (1 : Int) (1 : Int) (30 : Int) true) [Order.mk (1 : Int) (3 : Int) (0 : Int) (2 : Int) (9 : Int) (1 : Int) (1 : Int) (0 : Int) (20
  : Int) (2 : Int)] (Route.mk (4 : Int) (0 : Int) [Stop.mk (1 : Int) false, Stop.mk (1 : Int) true]) (Order.mk (2 : Int) (1 : Int) (0 : Int) (0 : Int) (100 : Int) (1 : Int) (1 : Int) (0 : Int) (100 : Int) (2 : Int)) (9 : Int)) (Spot.mk (0 :
  Int) (0 : Int) (0 : Int) (0 : Int)) (0 : Int) (23 : Int) = true → ((decide ((hspot (cheapP (some (MapD.mk (2 : Int) [(0 : Int), (5 : Int), (7 : Int), (0 : Int)])) [Driver.mk (4 : Int) (4 : Int) (1 : Int) (1 : Int) (30 : Int) false,
  Driver.mk (5 : Int) (4 : Int) (0 : Int) (1 : Int) (30 : Int) false] [Order.mk (1 : Int) (3 : Int) (0 : Int) (2 : Int) (9 : Int) (1 : Int) (1 : Int) (0 : Int) (20 : Int) (2 : Int)] [Route.mk (4 : Int) (0 : Int) [Stop.mk (1 : Int) false,
  Stop.mk (1 : Int) true], Route.mk (5 : Int) (0 : Int) []] (Order.mk (2 : Int) (1 : Int) (0 : Int) (0 : Int) (100 : Int) (1 : Int) (1 : Int) (0 : Int) (100 : Int) (2 : Int)) (100 : Int)).fst).driver = (4 : Int)) && (decide ((hspot (cheapP
  (some (MapD.mk (2 : Int) [(0 : Int), (5 : Int), (7 : Int), (0 : Int)])) [Driver.mk (4 : Int) (4 : Int) (1 : Int) (1 : Int) (30 : Int) false, Driver.mk (5 : Int) (4 : Int) (0 : Int) (1 : Int) (30 : Int) false] [Order.mk (1 : Int) (3 : Int)
  (0 : Int) (2 : Int) (9 : Int) (1 : Int) (1 : Int) (0 : Int) (20 : Int) (2 : Int)] [Route.mk (4 : Int) (0 : Int) [Stop.mk (1 : Int) false, Stop.mk (1 : Int) true], Route.mk (5 : Int) (0 : Int) []] (Order.mk (2 : Int) (1 : Int) (0 : Int) (0 :
  Int) (100 : Int) (1 : Int) (1 : Int) (0 : Int) (100 : Int) (2 : Int)) (100 : Int)).fst).pick = (0 : Int)) && (decide ((hspot (cheapP (some (MapD.mk (2 : Int) [(0 : Int), (5 : Int), (7 : Int), (0 : Int)])) [Driver.mk (4 : Int) (4 : Int) (1 :
  Int) (1 : Int) (30 : Int) false, Driver.mk (5 : Int) (4 : Int) (0 : Int) (1 : Int) (30 : Int) false] [Order.mk (1 : Int) (3 : Int) (0 : Int) (2 : Int) (9 : Int) (1 : Int) (1 : Int) (0 : Int) (20 : Int) (2 : Int)] [Route.mk (4 : Int) (0 :
  Int) [Stop.mk (1 : Int) false, Stop.mk (1 : Int) true], Route.mk (5 : Int) (0 : Int) []] (Order.mk (2 : Int) (1 : Int) (0 : Int) (0 : Int) (100 : Int) (1 : Int) (1 : Int) (0 : Int) (100 : Int) (2 : Int)) (100 : Int)).fst).drop = (1 : Int))
  && (decide ((hspot (cheapP (some (MapD.mk (2 : Int) [(0 : Int), (5 : Int), (7 : Int), (0 : Int)])) [Driver.mk (4 : Int) (4 : Int) (1 : Int) (1 : Int) (30 : Int) false, Driver.mk (5 : Int) (4 : Int) (0 : Int) (1 : Int) (30 : Int) false]
  [Order.mk (1 : Int) (3 : Int) (0 : Int) (2 : Int) (9 : Int) (1 : Int) (1 : Int) (0 : Int) (20 : Int) (2 : Int)] [Route.mk (4 : Int) (0 : Int) [Stop.mk (1 : Int) false, Stop.mk (1 : Int) true], Route.mk (5 : Int) (0 : Int) []] (Order.mk (2 :
  Int) (1 : Int) (0 : Int) (0 : Int) (100 : Int) (1 : Int) (1 : Int) (0 : Int) (100 : Int) (2 : Int)) (100 : Int)).fst).cost = (0 : Int)) && true)))) = true → (decide ((cheapP (some (MapD.mk (2 : Int) [(0 : Int), (5 : Int), (7 : Int), (0 :
  Int)])) [Driver.mk (4 : Int) (4 : Int) (1 : Int) (1 : Int) (30 : Int) false, Driver.mk (5 : Int) (4 : Int) (0 : Int) (1 : Int) (30 : Int) false] [Order.mk (1 : Int) (3 : Int) (0 : Int) (2 : Int) (9 : Int) (1 : Int) (1 : Int) (0 : Int) (20 :
  Int) (2 : Int)] [Route.mk (4 : Int) (0 : Int) [Stop.mk (1 : Int) false, Stop.mk (1 : Int) true], Route.mk (5 : Int) (0 : Int) []] (Order.mk (2 : Int) (1 : Int) (0 : Int) (0 : Int) (100 : Int) (1 : Int) (1 : Int) (0 : Int) (100 : Int) (2 :
  Int)) (100 : Int)).fst.steps = (7 : Int)) = true → decide ((cheapP (some (MapD.mk (2 : Int) [(0 : Int), (5 : Int), (7 : Int), (0 : Int)])) [Driver.mk (4 : Int) (4 : Int) (1 : Int) (1 : Int) (30 : Int) false, Driver.mk (5 : Int) (4 : Int) (0
  : Int) (1 : Int) (30 : Int) false] [Order.mk (1 : Int) (3 : Int) (0 : Int) (2 : Int) (9 : Int) (1 : Int) (1 : Int) (0 : Int) (20 : Int) (2 : Int)] [Route.mk (4 : Int) (0 : Int) [Stop.mk (1 : Int) false, Stop.mk (1 : Int) true], Route.mk (5
  : Int) (0 : Int) []] (Order.mk (2 : Int) (1 : Int) (0 : Int) (0 : Int) (100 : Int) (1 : Int) (1 : Int) (0 : Int) (100 : Int) (2 : Int)) (100 : Int)).snd = (0 : Int)) = true) ∧ (decide ((cheapP (some (MapD.mk (2 : Int) [(0 : Int), (5 : Int),
  (7 : Int), (0 : Int)])) [Driver.mk (4 : Int) (4 : Int) (1 : Int) (1 : Int) (30 : Int) false, Driver.mk (5 : Int) (4 : Int) (0 : Int) (1 : Int) (30 : Int) false] [Order.mk (1 : Int) (3 : Int) (0 : Int) (2 : Int) (9 : Int) (1 : Int) (1 : Int)
  (0 : Int) (20 : Int) (2 : Int)] [Route.mk (4 : Int) (0 : Int) [Stop.mk (1 : Int) false, Stop.mk (1 : Int) true], Route.mk (5 : Int) (0 : Int) []] (Order.mk (2 : Int) (1 : Int) (0 : Int) (0 : Int) (100 : Int) (1 : Int) (1 : Int) (0 : Int)
  (100 : Int) (2 : Int)) (100 : Int)).fst.steps = (7 : Int)) = !true → false = true)) ∧ ((decide ((hspot (cheapP (some (MapD.mk (2 : Int) [(0 : Int), (5 : Int), (7 : Int), (0 : Int)])) [Driver.mk (4 : Int) (4 : Int) (1 : Int) (1 : Int) (30 :
  Int) false, Driver.mk (5 : Int) (4 : Int) (0 : Int) (1 : Int) (30 : Int) false] [Order.mk (1 : Int) (3 : Int) (0 : Int) (2 : Int) (9 : Int) (1 : Int) (1 : Int) (0 : Int) (20 : Int) (2 : Int)] [Route.mk (4 : Int) (0 : Int) [Stop.mk (1 : Int)
  false, Stop.mk (1 : Int) true], Route.mk (5 : Int) (0 : Int) []] (Order.mk (2 : Int) (1 : Int) (0 : Int) (0 : Int) (100 : Int) (1 : Int) (1 : Int) (0 : Int) (100 : Int) (2 : Int)) (100 : Int)).fst).driver = (4 : Int)) && (decide ((hspot
  (cheapP (some (MapD.mk (2 : Int) [(0 : Int), (5 : Int), (7 : Int), (0 : Int)])) [Driver.mk (4 : Int) (4 : Int) (1 : Int) (1 : Int) (30 : Int) false, Driver.mk (5 : Int) (4 : Int) (0 : Int) (1 : Int) (30 : Int) false] [Order.mk (1 : Int) (3
  : Int) (0 : Int) (2 : Int) (9 : Int) (1 : Int) (1 : Int) (0 : Int) (20 : Int) (2 : Int)] [Route.mk (4 : Int) (0 : Int) [Stop.mk (1 : Int) false, Stop.mk (1 : Int) true], Route.mk (5 : Int) (0 : Int) []] (Order.mk (2 : Int) (1 : Int) (0 :
  Int) (0 : Int) (100 : Int) (1 : Int) (1 : Int) (0 : Int) (100 : Int) (2 : Int)) (100 : Int)).fst).pick = (0 : Int)) && (decide ((hspot (cheapP (some (MapD.mk (2 : Int) [(0 : Int), (5 : Int), (7 : Int), (0 : Int)])) [Driver.mk (4 : Int) (4 :
  Int) (1 : Int) (1 : Int) (30 : Int) false, Driver.mk (5 : Int) (4 : Int) (0 : Int) (1 : Int) (30 : Int) false] [Order.mk (1 : Int) (3 : Int) (0 : Int) (2 : Int) (9 : Int) (1 : Int) (1 : Int) (0 : Int) (20 : Int) (2 : Int)] [Route.mk (4 :
  Int) (0 : Int) [Stop.mk (1 : Int) false, Stop.mk (1 : Int) true], Route.mk (5 : Int) (0 : Int) []] (Order.mk (2 : Int) (1 : Int) (0 : Int) (0 : Int) (100 : Int) (1 : Int) (1 : Int) (0 : Int) (100 : Int) (2 : Int)) (100 : Int)).fst).drop =
  (1 : Int)) && (decide ((hspot (cheapP (some (MapD.mk (2 : Int) [(0 : Int), (5 : Int), (7 : Int), (0 : Int)])) [Driver.mk (4 : Int) (4 : Int) (1 : Int) (1 : Int) (30 : Int) false, Driver.mk (5 : Int) (4 : Int) (0 : Int) (1 : Int) (30 : Int)
  false] [Order.mk (1 : Int) (3 : Int) (0 : Int) (2 : Int) (9 : Int) (1 : Int) (1 : Int) (0 : Int) (20 : Int) (2 : Int)] [Route.mk (4 : Int) (0 : Int) [Stop.mk (1 : Int) false, Stop.mk (1 : Int) true], Route.mk (5 : Int) (0 : Int) []]
  (Order.mk (2 : Int) (1 : Int) (0 : Int) (0 : Int) (100 : Int) (1 : Int) (1 : Int) (0 : Int) (100 : Int) (2 : Int)) (100 : Int)).fst).cost = (0 : Int)) && true)))) = !true → false = true)) ∧ (isH (bestP (some (MapD.mk (2 : Int) [(0 : Int),
  (5 : Int), (7 : Int), (0 : Int)])) (Driver.mk (4 : Int) (4 : Int) (1 : Int) (1 : Int) (30 : Int) true) [Order.mk (1 : Int) (3 : Int) (0 : Int) (2 : Int) (9 : Int) (1 : Int) (1 : Int) (0 : Int) (20 : Int) (2 : Int)] (Route.mk (4 : Int) (0 :
  Int) [Stop.mk (1 : Int) false, Stop.mk (1 : Int) true]) (Order.mk (2 : Int) (1 : Int) (0 : Int) (0 : Int) (100 : Int) (1 : Int) (1 : Int) (0 : Int) (100 : Int) (2 : Int)) (9 : Int)) (Spot.mk (0 : Int) (0 : Int) (0 : Int) (0 : Int)) (0 :
  Int) (23 : Int) = !true → false = true)) ∧ (isH (bestP (some (MapD.mk (2 : Int) [(0 : Int), (5 : Int), (7 : Int), (0 : Int)])) (Driver.mk (4 : Int) (4 : Int) (1 : Int) (1 : Int) (30 : Int) false) [Order.mk (1 : Int) (3 : Int) (0 : Int) (2 :
  Int) (9 : Int) (1 : Int) (1 : Int) (0 : Int) (20 : Int) (2 : Int)] (Route.mk (4 : Int) (0 : Int) [Stop.mk (1 : Int) false, Stop.mk (1 : Int) true]) (Order.mk (2 : Int) (1 : Int) (0 : Int) (0 : Int) (100 : Int) (1 : Int) (1 : Int) (0 : Int)
  (100 : Int) (2 : Int)) (2 : Int)) (Spot.mk (4 : Int) (0 : Int) (1 : Int) (0 : Int)) (2 : Int) (0 : Int) = !true → false = true)) ∧ (isH (bestP (some (MapD.mk (2 : Int) [(0 : Int), (5 : Int), (7 : Int), (0 : Int)])) (Driver.mk (4 : Int) (4 :
  Int) (1 : Int) (1 : Int) (30 : Int) false) [Order.mk (1 : Int) (3 : Int) (0 : Int) (2 : Int) (9 : Int) (1 : Int) (1 : Int) (0 : Int) (20 : Int) (2 : Int)] (Route.mk (4 : Int) (3 : Int) [Stop.mk (1 : Int) false, Stop.mk (1 : Int) true])
  (Order.mk (2 : Int) (1 : Int) (0 : Int) (0 : Int) (100 : Int) (1 : Int) (1 : Int) (0 : Int) (100 : Int) (2 : Int)) (9 : Int)) (Spot.mk (0 : Int) (0 : Int) (0 : Int) (0 : Int)) (0 : Int) (1 : Int) = !true → (∀ (x : MapD), some (MapD.mk (2 :
  Int) [(0 : Int), (5 : Int), (7 : Int), (0 : Int)]) = some x → MapOk x) ∧ (isH (bestP (some (MapD.mk (2 : Int) [(0 : Int), (5 : Int), (7 : Int), (0 : Int)])) (Driver.mk (4 : Int) (4 : Int) (1 : Int) (1 : Int) (30 : Int) false) [Order.mk (1 :
  Int) (3 : Int) (0 : Int) (2 : Int) (9 : Int) (1 : Int) (1 : Int) (0 : Int) (20 : Int) (2 : Int)] (Route.mk (4 : Int) (0 : Int) [Stop.mk (1 : Int) false, Stop.mk (1 : Int) true]) (Order.mk (2 : Int) (1 : Int) (0 : Int) (0 : Int) (100 : Int)
  (1 : Int) (1 : Int) (0 : Int) (100 : Int) (2 : Int)) (2 : Int)) (Spot.mk (4 : Int) (0 : Int) (1 : Int) (0 : Int)) (2 : Int) (0 : Int) = true → false = true) ∧ (isH (bestP (some (MapD.mk (2 : Int) [(0 : Int), (5 : Int), (7 : Int), (0 :
  Int)])) (Driver.mk (4 : Int) (4 : Int) (1 : Int) (1 : Int) (30 : Int) false) [Order.mk (1 : Int) (3 : Int) (0 : Int) (2 : Int) (9 : Int) (1 : Int) (1 : Int) (0 : Int) (20 : Int) (2 : Int)] (Route.mk (4 : Int) (0 : Int) [Stop.mk (1 : Int)
  false, Stop.mk (1 : Int) true]) (Order.mk (2 : Int) (1 : Int) (0 : Int) (0 : Int) (100 : Int) (1 : Int) (1 : Int) (0 : Int) (100 : Int) (2 : Int)) (2 : Int)) (Spot.mk (4 : Int) (0 : Int) (1 : Int) (0 : Int)) (2 : Int) (0 : Int) = !true →
  false = true))) ∧ (isH (bestP (some (MapD.mk (2 : Int) [(0 : Int), (5 : Int), (7 : Int), (0 : Int)])) (Driver.mk (4 : Int) (4 : Int) (1 : Int) (1 : Int) (30 : Int) false) [Order.mk (1 : Int) (3 : Int) (0 : Int) (2 : Int) (9 : Int) (1 : Int)
  (1 : Int) (0 : Int) (20 : Int) (2 : Int)] (Route.mk (4 : Int) (0 : Int) [Stop.mk (1 : Int) false, Stop.mk (1 : Int) true]) (Order.mk (2 : Int) (1 : Int) (0 : Int) (0 : Int) (100 : Int) (1 : Int) (1 : Int) (0 : Int) (100 : Int) (2 : Int)) (0
  : Int)) (Spot.mk (0 : Int) (0 : Int) (0 : Int) (0 : Int)) (0 : Int) (20 : Int) = !true → (∀ (x : MapD), some (MapD.mk (2 : Int) [(0 : Int), (5 : Int), (7 : Int), (0 : Int)]) = some x → MapOk x) ∧ (isH (bestP (some (MapD.mk (2 : Int) [(0 :
  Int), (5 : Int), (7 : Int), (0 : Int)])) (Driver.mk (4 : Int) (4 : Int) (1 : Int) (1 : Int) (30 : Int) false) [Order.mk (1 : Int) (3 : Int) (0 : Int) (2 : Int) (9 : Int) (1 : Int) (1 : Int) (0 : Int) (20 : Int) (2 : Int)] (Route.mk (4 :
  Int) (0 : Int) [Stop.mk (1 : Int) false, Stop.mk (1 : Int) true]) (Order.mk (2 : Int) (1 : Int) (0 : Int) (0 : Int) (100 : Int) (1 : Int) (1 : Int) (0 : Int) (100 : Int) (2 : Int)) (2 : Int)) (Spot.mk (4 : Int) (0 : Int) (1 : Int) (0 :
  Int)) (2 : Int) (0 : Int) = true → false = true) ∧ (isH (bestP (some (MapD.mk (2 : Int) [(0 : Int), (5 : Int), (7 : Int), (0 : Int)])) (Driver.mk (4 : Int) (4 : Int) (1 : Int) (1 : Int) (30 : Int) false) [Order.mk (1 : Int) (3 : Int) (0 :
  Int) (2 : Int) (9 : Int) (1 : Int) (1 : Int) (0 : Int) (20 : Int) (2 : Int)] (Route.mk (4 : Int) (0 : Int) [Stop.mk (1 : Int) false, Stop.mk (1 : Int) true]) (Order.mk (2 : Int) (1 : Int) (0 : Int) (0 : Int) (100 : Int) (1 : Int) (1 : Int)
  (0 : Int) (100 : Int) (2 : Int)) (2 : Int)) (Spot.mk (4 : Int) (0 : Int) (1 : Int) (0 : Int)) (2 : Int) (0 : Int) = !true → false = true))) ∧ (isH (bestP (some (MapD.mk (2 : Int) [(0 : Int), (5 : Int), (7 : Int), (0 : Int)])) (Driver.mk (4
  : Int) (4 : Int) (1 : Int) (1 : Int) (30 : Int) false) [Order.mk (1 : Int) (3 : Int) (0 : Int) (2 : Int) (9 : Int) (1 : Int) (1 : Int) (0 : Int) (20 : Int) (2 : Int)] (Route.mk (4 : Int) (0 : Int) [Stop.mk (1 : Int) false, Stop.mk (1 : Int)
  true]) (Order.mk (2 : Int) (1 : Int) (0 : Int) (0 : Int) (100 : Int) (1 : Int) (1 : Int) (0 : Int) (100 : Int) (2 : Int)) (1 : Int)) (Spot.mk (0 : Int) (0 : Int) (0 : Int) (0 : Int)) (1 : Int) (20 : Int) = !true → (∀ (x : MapD), some
  (MapD.mk (2 : Int) [(0 : Int), (5 : Int), (7 : Int), (0 : Int)]) = some x → MapOk x) ∧ (isH (bestP (some (MapD.mk (2 : Int) [(0 : Int), (5 : Int), (7 : Int), (0 : Int)])) (Driver.mk (4 : Int) (4 : Int) (1 : Int) (1 : Int) (30 : Int) false)
  [Order.mk (1 : Int) (3 : Int) (0 : Int) (2 : Int) (9 : Int) (1 : Int) (1 : Int) (0 : Int) (20 : Int) (2 : Int)] (Route.mk (4 : Int) (0 : Int) [Stop.mk (1 : Int) false, Stop.mk (1 : Int) true]) (Order.mk (2 : Int) (1 : Int) (0 : Int) (0 :
  Int) (100 : Int) (1 : Int) (1 : Int) (0 : Int) (100 : Int) (2 : Int)) (2 : Int)) (Spot.mk (4 : Int) (0 : Int) (1 : Int) (0 : Int)) (2 : Int) (0 : Int) = true → false = true) ∧ (isH (bestP (some (MapD.mk (2 : Int) [(0 : Int), (5 : Int), (7 :
  Int), (0 : Int)])) (Driver.mk (4 : Int) (4 : Int) (1 : Int) (1 : Int) (30 : Int) false) [Order.mk (1 : Int) (3 : Int) (0 : Int) (2 : Int) (9 : Int) (1 : Int) (1 : Int) (0 : Int) (20 : Int) (2 : Int)] (Route.mk (4 : Int) (0 : Int) [Stop.mk
  (1 : Int) false, Stop.mk (1 : Int) true]) (Order.mk (2 : Int) (1 : Int) (0 : Int) (0 : Int) (100 : Int) (1 : Int) (1 : Int) (0 : Int) (100 : Int) (2 : Int)) (2 : Int)) (Spot.mk (4 : Int) (0 : Int) (1 : Int) (0 : Int)) (2 : Int) (0 : Int) =
  !true → false = true))) ∧ (isH (bestP (some (MapD.mk (2 : Int) [(0 : Int), (5 : Int), (7 : Int), (0 : Int)])) (Driver.mk (4 : Int) (4 : Int) (1 : Int) (1 : Int) (30 : Int) false) [Order.mk (1 : Int) (3 : Int) (0 : Int) (2 : Int) (9 : Int)
  (1 : Int) (1 : Int) (0 : Int) (20 : Int) (2 : Int)] (Route.mk (4 : Int) (0 : Int) [Stop.mk (1 : Int) false, Stop.mk (1 : Int) true]) (Order.mk (2 : Int) (1 : Int) (0 : Int) (0 : Int) (100 : Int) (1 : Int) (1 : Int) (0 : Int) (100 : Int) (2
  : Int)) (9 : Int)) (Spot.mk (4 : Int) (0 : Int) (1 : Int) (0 : Int)) (6 : Int) (0 : Int) = !true → (∀ (x : MapD), some (MapD.mk (2 : Int) [(0 : Int), (5 : Int), (7 : Int), (0 : Int)]) = some x → MapOk x) ∧ (isH (bestP (some (MapD.mk (2 :
  Int) [(0 : Int), (5 : Int), (7 : Int), (0 : Int)])) (Driver.mk (4 : Int) (4 : Int) (1 : Int) (1 : Int) (30 : Int) false) [Order.mk (1 : Int) (3 : Int) (0 : Int) (2 : Int) (9 : Int) (1 : Int) (1 : Int) (0 : Int) (20 : Int) (2 : Int)]
  (Route.mk (4 : Int) (0 : Int) [Stop.mk (1 : Int) false, Stop.mk (1 : Int) true]) (Order.mk (2 : Int) (1 : Int) (0 : Int) (0 : Int) (100 : Int) (1 : Int) (1 : Int) (0 : Int) (100 : Int) (2 : Int)) (1 : Int)) (Spot.mk (0 : Int) (0 : Int) (0 :
  Int) (0 : Int)) (1 : Int) (20 : Int) = true → (∀ (x : MapD), some (MapD.mk (2 : Int) [(0 : Int), (5 : Int), (7 : Int), (0 : Int)]) = some x → MapOk x) ∧ (isH (bestP (some (MapD.mk (2 : Int) [(0 : Int), (5 : Int), (7 : Int), (0 : Int)]))
  (Driver.mk (4 : Int) (4 : Int) (1 : Int) (1 : Int) (30 : Int) false) [Order.mk (1 : Int) (3 : Int) (0 : Int) (2 : Int) (9 : Int) (1 : Int) (1 : Int) (0 : Int) (20 : Int) (2 : Int)] (Route.mk (4 : Int) (0 : Int) [Stop.mk (1 : Int) false,
  Stop.mk (1 : Int) true]) (Order.mk (2 : Int) (1 : Int) (0 : Int) (0 : Int) (100 : Int) (1 : Int) (1 : Int) (0 : Int) (100 : Int) (2 : Int)) (0 : Int)) (Spot.mk (0 : Int) (0 : Int) (0 : Int) (0 : Int)) (0 : Int) (20 : Int) = true → (∀ (x :
  MapD), some (MapD.mk (2 : Int) [(0 : Int), (5 : Int), (7 : Int), (0 : Int)]) = some x → MapOk x) ∧ (isH (bestP (some (MapD.mk (2 : Int) [(0 : Int), (5 : Int), (7 : Int), (0 : Int)])) (Driver.mk (4 : Int) (4 : Int) (1 : Int) (1 : Int) (30 :
  Int) false) [Order.mk (1 : Int) (3 : Int) (0 : Int) (2 : Int) (9 : Int) (1 : Int) (1 : Int) (0 : Int) (20 : Int) (2 : Int)] (Route.mk (4 : Int) (3 : Int) [Stop.mk (1 : Int) false, Stop.mk (1 : Int) true]) (Order.mk (2 : Int) (1 : Int) (0 :
  Int) (0 : Int) (100 : Int) (1 : Int) (1 : Int) (0 : Int) (100 : Int) (2 : Int)) (9 : Int)) (Spot.mk (0 : Int) (0 : Int) (0 : Int) (0 : Int)) (0 : Int) (1 : Int) = true → (∀ (x : MapD), some (MapD.mk (2 : Int) [(0 : Int), (5 : Int), (7 :
  Int), (0 : Int)]) = some x → MapOk x) ∧ (∀ (x : MapD), some (MapD.mk (2 : Int) [(0 : Int), (5 : Int), (7 : Int), (0 : Int)]) = some x → MapOk x) ∧ false = true) ∧ (isH (bestP (some (MapD.mk (2 : Int) [(0 : Int), (5 : Int), (7 : Int), (0 :
  Int)])) (Driver.mk (4 : Int) (4 : Int) (1 : Int) (1 : Int) (30 : Int) false) [Order.mk (1 : Int) (3 : Int) (0 : Int) (2 : Int) (9 : Int) (1 : Int) (1 : Int) (0 : Int) (20 : Int) (2 : Int)] (Route.mk (4 : Int) (3 : Int) [Stop.mk (1 : Int)
  false, Stop.mk (1 : Int) true]) (Order.mk (2 : Int) (1 : Int) (0 : Int) (0 : Int) (100 : Int) (1 : Int) (1 : Int) (0 : Int) (100 : Int) (2 : Int)) (9 : Int)) (Spot.mk (0 : Int) (0 : Int) (0 : Int) (0 : Int)) (0 : Int) (1 : Int) = !true → (∀
  (x : MapD), some (MapD.mk (2 : Int) [(0 : Int), (5 : Int), (7 : Int), (0 : Int)]) = some x → MapOk x) ∧ false = true)) ∧ (isH (bestP (some (MapD.mk (2 : Int) [(0 : Int), (5 : Int), (7 : Int), (0 : Int)])) (Driver.mk (4 : Int) (4 : Int) (1 :
  Int) (1 : Int) (30 : Int) false) [Order.mk (1 : Int) (3 : Int) (0 : Int) (2 : Int) (9 : Int) (1 : Int) (1 : Int) (0 : Int) (20 : Int) (2 : Int)] (Route.mk (4 : Int) (0 : Int) [Stop.mk (1 : Int) false, Stop.mk (1 : Int) true]) (Order.mk (2 :
  Int) (1 : Int) (0 : Int) (0 : Int) (100 : Int) (1 : Int) (1 : Int) (0 : Int) (100 : Int) (2 : Int)) (0 : Int)) (Spot.mk (0 : Int) (0 : Int) (0 : Int) (0 : Int)) (0 : Int) (20 : Int) = !true → (∀ (x : MapD), some (MapD.mk (2 : Int) [(0 :
  Int), (5 : Int), (7 : Int), (0 : Int)]) = some x → MapOk x) ∧ false = true)) ∧ (isH (bestP (some (MapD.mk (2 : Int) [(0 : Int), (5 : Int), (7 : Int), (0 : Int)])) (Driver.mk (4 : Int) (4 : Int) (1 : Int) (1 : Int) (30 : Int) false)
  [Order.mk (1 : Int) (3 : Int) (0 : Int) (2 : Int) (9 : Int) (1 : Int) (1 : Int) (0 : Int) (20 : Int) (2 : Int)] (Route.mk (4 : Int) (0 : Int) [Stop.mk (1 : Int) false, Stop.mk (1 : Int) true]) (Order.mk (2 : Int) (1 : Int) (0 : Int) (0 :
  Int) (100 : Int) (1 : Int) (1 : Int) (0 : Int) (100 : Int) (2 : Int)) (1 : Int)) (Spot.mk (0 : Int) (0 : Int) (0 : Int) (0 : Int)) (1 : Int) (20 : Int) = !true → (∀ (x : MapD), some (MapD.mk (2 : Int) [(0 : Int), (5 : Int), (7 : Int), (0 :
  Int)]) = some x → MapOk x) ∧ false = true))) ∧ (isH (bestP (some (MapD.mk (2 : Int) [(0 : Int), (5 : Int), (7 : Int), (0 : Int)])) (Driver.mk (4 : Int) (4 : Int) (1 : Int) (1 : Int) (30 : Int) false) [] (Route.mk (4 : Int) (0 : Int) [])
  (Order.mk (1 : Int) (3 : Int) (0 : Int) (2 : Int) (9 : Int) (1 : Int) (1 : Int) (0 : Int) (20 : Int) (2 : Int)) (9 : Int)) (Spot.mk (4 : Int) (0 : Int) (0 : Int) (12 : Int)) (1 : Int) (0 : Int) = !true → (∀ (x : MapD), some (MapD.mk (2 :
  Int) [(0 : Int), (5 : Int), (7 : Int), (0 : Int)]) = some x → MapOk x) ∧ (isH (bestP (some (MapD.mk (2 : Int) [(0 : Int), (5 : Int), (7 : Int), (0 : Int)])) (Driver.mk (4 : Int) (4 : Int) (1 : Int) (1 : Int) (30 : Int) false) [Order.mk (1 :
  Int) (3 : Int) (0 : Int) (2 : Int) (9 : Int) (1 : Int) (1 : Int) (0 : Int) (20 : Int) (2 : Int)] (Route.mk (4 : Int) (0 : Int) [Stop.mk (1 : Int) false, Stop.mk (1 : Int) true]) (Order.mk (2 : Int) (1 : Int) (0 : Int) (0 : Int) (100 : Int)
  (1 : Int) (1 : Int) (0 : Int) (100 : Int) (2 : Int)) (1 : Int)) (Spot.mk (0 : Int) (0 : Int) (0 : Int) (0 : Int)) (1 : Int) (20 : Int) = true → (∀ (x : MapD), some (MapD.mk (2 : Int) [(0 : Int), (5 : Int), (7 : Int), (0 : Int)]) = some x →
  MapOk x) ∧ (isH (bestP (some (MapD.mk (2 : Int) [(0 : Int), (5 : Int), (7 : Int), (0 : Int)])) (Driver.mk (4 : Int) (4 : Int) (1 : Int) (1 : Int) (30 : Int) false) [Order.mk (1 : Int) (3 : Int) (0 : Int) (2 : Int) (9 : Int) (1 : Int) (1 :
  Int) (0 : Int) (20 : Int) (2 : Int)] (Route.mk (4 : Int) (0 : Int) [Stop.mk (1 : Int) false, Stop.mk (1 : Int) true]) (Order.mk (2 : Int) (1 : Int) (0 : Int) (0 : Int) (100 : Int) (1 : Int) (1 : Int) (0 : Int) (100 : Int) (2 : Int)) (0 :
  Int)) (Spot.mk (0 : Int) (0 : Int) (0 : Int) (0 : Int)) (0 : Int) (20 : Int) = true → (∀ (x : MapD), some (MapD.mk (2 : Int) [(0 : Int), (5 : Int), (7 : Int), (0 : Int)]) = some x → MapOk x) ∧ (isH (bestP (some (MapD.mk (2 : Int) [(0 :
  Int), (5 : Int), (7 : Int), (0 : Int)])) (Driver.mk (4 : Int) (4 : Int) (1 : Int) (1 : Int) (30 : Int) false) [Order.mk (1 : Int) (3 : Int) (0 : Int) (2 : Int) (9 : Int) (1 : Int) (1 : Int) (0 : Int) (20 : Int) (2 : Int)] (Route.mk (4 :
  Int) (3 : Int) [Stop.mk (1 : Int) false, Stop.mk (1 : Int) true]) (Order.mk (2 : Int) (1 : Int) (0 : Int) (0 : Int) (100 : Int) (1 : Int) (1 : Int) (0 : Int) (100 : Int) (2 : Int)) (9 : Int)) (Spot.mk (0 : Int) (0 : Int) (0 : Int) (0 :
  Int)) (0 : Int) (1 : Int) = true → (∀ (x : MapD), some (MapD.mk (2 : Int) [(0 : Int), (5 : Int), (7 : Int), (0 : Int)]) = some x → MapOk x) ∧ (∀ (x : MapD), some (MapD.mk (2 : Int) [(0 : Int), (5 : Int), (7 : Int), (0 : Int)]) = some x →
  MapOk x) ∧ false = true) ∧ (isH (bestP (some (MapD.mk (2 : Int) [(0 : Int), (5 : Int), (7 : Int), (0 : Int)])) (Driver.mk (4 : Int) (4 : Int) (1 : Int) (1 : Int) (30 : Int) false) [Order.mk (1 : Int) (3 : Int) (0 : Int) (2 : Int) (9 : Int)
  (1 : Int) (1 : Int) (0 : Int) (20 : Int) (2 : Int)] (Route.mk (4 : Int) (3 : Int) [Stop.mk (1 : Int) false, Stop.mk (1 : Int) true]) (Order.mk (2 : Int) (1 : Int) (0 : Int) (0 : Int) (100 : Int) (1 : Int) (1 : Int) (0 : Int) (100 : Int) (2
  : Int)) (9 : Int)) (Spot.mk (0 : Int) (0 : Int) (0 : Int) (0 : Int)) (0 : Int) (1 : Int) = !true → (∀ (x : MapD), some (MapD.mk (2 : Int) [(0 : Int), (5 : Int), (7 : Int), (0 : Int)]) = some x → MapOk x) ∧ false = true)) ∧ (isH (bestP (some
  (MapD.mk (2 : Int) [(0 : Int), (5 : Int), (7 : Int), (0 : Int)])) (Driver.mk (4 : Int) (4 : Int) (1 : Int) (1 : Int) (30 : Int) false) [Order.mk (1 : Int) (3 : Int) (0 : Int) (2 : Int) (9 : Int) (1 : Int) (1 : Int) (0 : Int) (20 : Int) (2 :
  Int)] (Route.mk (4 : Int) (0 : Int) [Stop.mk (1 : Int) false, Stop.mk (1 : Int) true]) (Order.mk (2 : Int) (1 : Int) (0 : Int) (0 : Int) (100 : Int) (1 : Int) (1 : Int) (0 : Int) (100 : Int) (2 : Int)) (0 : Int)) (Spot.mk (0 : Int) (0 :
  Int) (0 : Int) (0 : Int)) (0 : Int) (20 : Int) = !true → (∀ (x : MapD), some (MapD.mk (2 : Int) [(0 : Int), (5 : Int), (7 : Int), (0 : Int)]) = some x → MapOk x) ∧ false = true)) ∧ (isH (bestP (some (MapD.mk (2 : Int) [(0 : Int), (5 : Int),
  (7 : Int), (0 : Int)])) (Driver.mk (4 : Int) (4 : Int) (1 : Int) (1 : Int) (30 : Int) false) [Order.mk (1 : Int) (3 : Int) (0 : Int) (2 : Int) (9 : Int) (1 : Int) (1 : Int) (0 : Int) (20 : Int) (2 : Int)] (Route.mk (4 : Int) (0 : Int)
  [Stop.mk (1 : Int) false, Stop.mk (1 : Int) true]) (Order.mk (2 : Int) (1 : Int) (0 : Int) (0 : Int) (100 : Int) (1 : Int) (1 : Int) (0 : Int) (100 : Int) (2 : Int)) (1 : Int)) (Spot.mk (0 : Int) (0 : Int) (0 : Int) (0 : Int)) (1 : Int) (20
  : Int) = !true → (∀ (x : MapD), some (MapD.mk (2 : Int) [(0 : Int), (5 : Int), (7 : Int), (0 : Int)]) = some x → MapOk x) ∧ false = true))) ∧ ((!decide ((0 : Int) = (0 : Int))) = !false → false = true)
theorem insertRuns_told (hc : CsOk Try.prog insertRuns_cs) (h : insertRuns_vc) : Told Try.prog 5 insertRuns_con := told (A := insertRuns_la) tabOk mixed hc Try.func5 (by kernel_rfl) (by kernel_rfl) h
end Go.Eng

/- The conditions of functions, as print.. of the engine told them. -/
set_option linter.unusedVariables false
namespace Go.Eng
open Go Go.Proofs
def lbest_vc : Prop :=
  (∀ (x : Driver) (x_1 : List Order), LenOk x_1.length → ∀ (x_3 : Route), LenOk x_3.stops.length → ∀ (x_5 : Order) (x_6 : Int) (x_7 : Spot) (x_8 x_9 : Int), (∀ (x : MapD), none = some x → MapOk x) → (∀ (x : MapD), none = some x → MapOk x) ∧
  ((decide ((hspot (bestP none x x_1 x_3 x_5 x_6).fst).driver = x_7.driver) && (decide ((hspot (bestP none x x_1 x_3 x_5 x_6).fst).pick = x_7.pick) && (decide ((hspot (bestP none x x_1 x_3 x_5 x_6).fst).drop = x_7.drop) && (decide ((hspot
  (bestP none x x_1 x_3 x_5 x_6).fst).cost = x_7.cost) && true)))) = true → (decide ((bestP none x x_1 x_3 x_5 x_6).fst.steps = x_8) = true → decide ((bestP none x x_1 x_3 x_5 x_6).snd = x_9) = isH (bestP none x x_1 x_3 x_5 x_6) x_7 x_8 x_9)
  ∧ (decide ((bestP none x x_1 x_3 x_5 x_6).fst.steps = x_8) = !true → false = isH (bestP none x x_1 x_3 x_5 x_6) x_7 x_8 x_9)) ∧ ((decide ((hspot (bestP none x x_1 x_3 x_5 x_6).fst).driver = x_7.driver) && (decide ((hspot (bestP none x x_1
  x_3 x_5 x_6).fst).pick = x_7.pick) && (decide ((hspot (bestP none x x_1 x_3 x_5 x_6).fst).drop = x_7.drop) && (decide ((hspot (bestP none x x_1 x_3 x_5 x_6).fst).cost = x_7.cost) && true)))) = !true → false = isH (bestP none x x_1 x_3 x_5
  x_6) x_7 x_8 x_9)) ∧ ∀ (x : MapD), LenOk x.l.length → ∀ (x_2 : Driver) (x_3 : List Order), LenOk x_3.length → ∀ (x_5 : Route), LenOk x_5.stops.length → ∀ (x_7 : Order) (x_8 : Int) (x_9 : Spot) (x_10 x_11 : Int), (∀ (x_12 : MapD), some x =
  some x_12 → MapOk x_12) → (∀ (x_13 : MapD), some x = some x_13 → MapOk x_13) ∧ ((decide ((hspot (bestP (some x) x_2 x_3 x_5 x_7 x_8).fst).driver = x_9.driver) && (decide ((hspot (bestP (some x) x_2 x_3 x_5 x_7 x_8).fst).pick = x_9.pick) &&
  (decide ((hspot (bestP (some x) x_2 x_3 x_5 x_7 x_8).fst).drop = x_9.drop) && (decide ((hspot (bestP (some x) x_2 x_3 x_5 x_7 x_8).fst).cost = x_9.cost) && true)))) = true → (decide ((bestP (some x) x_2 x_3 x_5 x_7 x_8).fst.steps = x_10) =
  true → decide ((bestP (some x) x_2 x_3 x_5 x_7 x_8).snd = x_11) = isH (bestP (some x) x_2 x_3 x_5 x_7 x_8) x_9 x_10 x_11) ∧ (decide ((bestP (some x) x_2 x_3 x_5 x_7 x_8).fst.steps = x_10) = !true → false = isH (bestP (some x) x_2 x_3 x_5
  x_7 x_8) x_9 x_10 x_11)) ∧ ((decide ((hspot (bestP (some x) x_2 x_3 x_5 x_7 x_8).fst).driver = x_9.driver) && (decide ((hspot (bestP (some x) x_2 x_3 x_5 x_7 x_8).fst).pick = x_9.pick) && (decide ((hspot (bestP (some x) x_2 x_3 x_5 x_7
  x_8).fst).drop = x_9.drop) && (decide ((hspot (bestP (some x) x_2 x_3 x_5 x_7 x_8).fst).cost = x_9.cost) && true)))) = !true → false = isH (bestP (some x) x_2 x_3 x_5 x_7 x_8) x_9 x_10 x_11)
theorem lbest_told (hc : CsOk Try.prog lbest_cs) (h : lbest_vc) : Told Try.prog 22 lbest_con := told (A := lbest_la) tabOk mixed hc Try.func22 (by kernel_rfl) (by kernel_rfl) h
end Go.Eng

/- An order's place looked for, without any program: the price that is told is what the route costs more. -/
set_option linter.unusedVariables false
set_option linter.unusedSimpArgs false
namespace Go.Eng
open Go Go.Proofs
def RightGo (os : List Order) : List Stop → List Stop → Prop
  | _, [] => True
  | ah, s :: l => wrongE os ah s = 0 ∧ RightGo os (ah ++ [s]) l
theorem rightGo_app {os : List Order} : ∀ (x y ah : List Stop), RightGo os ah (x ++ y) ↔ RightGo os ah x ∧ RightGo os (ah ++ x) y
  | [], y, ah => by simp [RightGo]
  | s :: x, y, ah => by
    rw [List.cons_append, RightGo, RightGo, rightGo_app x y (ah ++ [s]), and_assoc, List.append_assoc]; rfl
theorem wrongE_zero {os : List Order} {ah : List Stop} {s : Stop} : wrongE os ah s = 0 ↔ (findO os s.order).isSome = true ∧ s ∉ ah ∧ (s.drop = true → ⟨s.order, false⟩ ∈ ah) := by
  have h1 := @stands_iff ah s
  have h2 := @stands_iff ah ⟨s.order, false⟩
  unfold wrongE
  rw [findO_isNone]
  cases hf : (findO os s.order).isSome <;> cases hs : stands ah s <;> cases hd : s.drop <;> cases hp : stands ah ⟨s.order, false⟩ <;> simp [hs, hp] at h1 h2 ⊢ <;> first | exact h1 | exact ⟨h1, h2⟩ | grind
theorem rightGo_more {os os' : List Order} (hk : ∀ id, (findO os id).isSome = true → (findO os' id).isSome = true) : ∀ (l ah ah' : List Stop), RightGo os ah l → (∀ x ∈ ah, x ∈ ah') → (∀ s ∈ l, s ∈ ah' → s ∈ ah) → RightGo os' ah' l
  | [], _, _, _, _, _ => trivial
  | s :: l, ah, ah', h, h1, h2 => by
    obtain ⟨hw, hr⟩ := h
    obtain ⟨a, b, c⟩ := wrongE_zero.1 hw
    refine ⟨wrongE_zero.2 ⟨hk _ a, fun q => b (h2 s (by simp) q), fun q => h1 _ (c q)⟩, rightGo_more hk l (ah ++ [s]) (ah' ++ [s]) hr (fun x hx => ?_) fun x hx q => ?_⟩
    · rcases List.mem_append.1 hx with q | q
      · exact List.mem_append_left _ (h1 x q)
      · exact List.mem_append_right _ q
    · rcases List.mem_append.1 q with q | q
      · exact List.mem_append_left _ (h2 x (by simp [hx]) q)
      · exact List.mem_append_right _ q
theorem rightGo_known {os : List Order} : ∀ (l ah : List Stop), RightGo os ah l → ∀ s ∈ l, (findO os s.order).isSome = true
  | [], _, _ => by simp
  | t :: l, ah, h => fun s hs => by
    rcases List.mem_cons.1 hs with rfl | hs
    · exact (wrongE_zero.1 h.1).1
    · exact rightGo_known l _ h.2 s hs
theorem driveGo_right {m : MapD} {d : Driver} {os : List Order} : ∀ (l ah : List Stop) (p : Pos) (v : List Visit), driveGo m d os ah l p = .ok v → RightGo os ah l
  | [], _, _, _, _ => trivial
  | s :: l, ah, p, v, h => by
    rw [driveGo] at h
    cases ht : tryStop m d os ah s p with
    | error e => rw [ht] at h; cases h
    | ok w =>
      rw [ht] at h
      dsimp only at h
      cases hg : driveGo m d os (ah ++ [s]) l (after os s w) with
      | error f => rw [hg] at h; cases h
      | ok vs =>
        refine ⟨?_, driveGo_right l _ _ vs hg⟩
        unfold tryStop at ht
        split at ht
        · cases ht
        · omega
structure AtS (m : MapD) (st : State) (K : Nat) : Prop where
  pos : 0 ≤ st.pos ∧ st.pos < m.n
  now : 0 ≤ st.now ∧ st.now ≤ 1000000
  load : -(1000 * (K : Int)) ≤ st.load ∧ st.load ≤ 1000 * K
  way : 0 ≤ st.way ∧ st.way ≤ 1000000 * K
def moreL : List Leg → Int
  | [] => 0
  | l :: ls => l.more + moreL ls
theorem moreL_app : ∀ (x y : List Leg), moreL (x ++ y) = moreL x + moreL y
  | [], y => by simp [moreL]
  | l :: x, y => by rw [List.cons_append, moreL, moreL, moreL_app x y]; omega
theorem leg_site {os : List Order} {s : Stop} : (legT os s).pl = (stopSite os s).pl ∧ (legT os s).lo = (stopSite os s).lo ∧ (legT os s).hi = (stopSite os s).hi ∧ (legT os s).sv = (stopSite os s).sv := by
  unfold legT stopSite legO siteOf
  cases s.drop <;> exact ⟨rfl, rfl, rfl, rfl⟩
theorem leg_more {m : MapD} {os : List Order} {s : Stop} {load : Int} (hk : OrderOk m (fo os s.order)) : loadOf os s load = load + (legT os s).more ∧ -1000 ≤ (legT os s).more ∧ (legT os s).more ≤ 1000 := by
  have h := hk.size
  unfold loadOf legT legO
  cases s.drop
  · simp; omega
  · have : wrap (-(fo os s.order).size) = -(fo os s.order).size := wrap_id (by omega) (by omega)
    simp [this]; omega
theorem step_try {m : MapD} {d : Driver} {os : List Order} {ah : List Stop} {s : Stop} {st : State} {K : Nat} (hm : MapOk m) (hd : DriverOk m d) (hk : knownO (some m) os = true) (hw : wrongE os ah s = 0) (hK : K ≤ 1000) (ha : AtS m st K) :
    ((stepS m d st (legT os s)).2 = true → ∃ v, tryStop m d os ah s ⟨st.now, st.pos, st.load⟩ = .ok v ∧ after os s v = ⟨(stepS m d st (legT os s)).1.now, (stepS m d st (legT os s)).1.pos, (stepS m d st (legT os s)).1.load⟩ ∧ AtS m (stepS m d st (legT os s)).1 (K + 1) ∧
      (stepS m d st (legT os s)).1.way = st.way + tm m st.pos (stopSite os s).pl ∧ (stepS m d st (legT os s)).1.load = st.load + (legT os s).more ∧ (stepS m d st (legT os s)).1.pos = (stopSite os s).pl) ∧
    ((stepS m d st (legT os s)).2 = false → ∃ e, tryStop m d os ah s ⟨st.now, st.pos, st.load⟩ = .error e ∧ e ≠ 0) := by
  obtain ⟨hO, _, _⟩ := fo_ok hk (wrongE_some hw)
  have hS : SiteOk m (stopSite os s) := siteOf_ok hO s.drop
  obtain ⟨lm, lm1, lm2⟩ := leg_more (load := st.load) hO
  obtain ⟨l1, l2, l3, l4⟩ := @leg_site os s
  have hT : stepT m st (legT os s) = tm m st.pos (stopSite os s).pl := by
    unfold stepT; rw [l1, mtime_in ha.pos.1 ha.pos.2 hS.pl.1 hS.pl.2]
  obtain ⟨t0, t1⟩ := tm_bound hm st.pos (stopSite os s).pl
  have hB : stepB m st (legT os s) = begin_ (stopSite os s).win (st.now + tm m st.pos (stopSite os s).pl) := by
    unfold stepB
    have := ha.now
    rw [hT, wrap_id (by omega) (by omega), l2, l3]; rfl
  have hlw : wrap (st.load + (legT os s).more) = st.load + (legT os s).more := wrap_id (by have := ha.load; omega) (by have := ha.load; omega)
  have hww : wrap (st.way + stepT m st (legT os s)) = st.way + tm m st.pos (stopSite os s).pl := by rw [hT]; exact wrap_id (by have := ha.way; omega) (by have := ha.way; omega)
  have e1 : (stepS m d st (legT os s)).1.load = st.load + (legT os s).more := hlw
  have e2 : (stepS m d st (legT os s)).1.way = st.way + tm m st.pos (stopSite os s).pl := hww
  have e3 : (stepS m d st (legT os s)).1.pos = (stopSite os s).pl := l1
  have e4 : (stepS m d st (legT os s)).1.now = wrap ((stepB m st (legT os s)).1 + (stopSite os s).sv) := by rw [← l4]; rfl
  have e5 : (stepS m d st (legT os s)).2 = ((stepB m st (legT os s)).2 && decide ((stepS m d st (legT os s)).1.now ≤ d.hi) && decide ((stepS m d st (legT os s)).1.load ≤ d.room)) := rfl
  have hT0 : tryStop m d os ah s ⟨st.now, st.pos, st.load⟩ = if loadOf os s st.load > d.room then .error 14 else match served m st.pos st.now (stopSite os s) d.hi with
    | none => .error 15
    | some b => .ok ⟨s.order, s.drop, st.now + tm m st.pos (stopSite os s).pl, b.1, b.2, loadOf os s st.load⟩ := by
    unfold tryStop; rw [if_neg (by omega)]; rfl
  cases hb : (stepB m st (legT os s)).2 with
  | false =>
    rw [e5, hb]
    refine ⟨fun h => (by simp at h), fun _ => ?_⟩
    rw [hB] at hb
    rw [hT0, served_none (.inl hb)]
    by_cases h : loadOf os s st.load > d.room
    · rw [if_pos h]; exact ⟨14, rfl, by decide⟩
    · rw [if_neg h]; exact ⟨15, rfl, by decide⟩
  | true =>
    have hb' := hb
    rw [hB] at hb'
    obtain ⟨⟨w0, w1, w2⟩, w3, w4⟩ := begin_true hb'
    have hwn : wrap ((stepB m st (legT os s)).1 + (stopSite os s).sv) = (begin_ (stopSite os s).win (st.now + tm m st.pos (stopSite os s).pl)).1 + (stopSite os s).sv := by
      have := hS.sv
      have := ha.now
      rw [hB]; exact wrap_id (by rw [w4]; omega) (by rw [w4]; omega)
    rw [hwn] at e4
    rw [e5, hb, e1, e4, hT0, lm]
    refine ⟨fun h => ?_, fun h => ?_⟩
    · simp only [Bool.true_and, Bool.and_eq_true, decide_eq_true_eq] at h
      rw [if_neg (by omega), served_some hb' h.1]
      refine ⟨_, rfl, ?_, ⟨?_, ?_, ?_, ?_⟩, e2, rfl, e3⟩
      · unfold after; rw [e3]
      · rw [e3]; exact hS.pl
      · rw [e4, w4]; have := hS.sv; have := ha.now; have := hd.win; omega
      · rw [e1]; have := ha.load; omega
      · rw [e2]; have := ha.way; omega
    · by_cases hl : st.load + (legT os s).more > d.room
      · rw [if_pos hl]; exact ⟨14, rfl, by decide⟩
      · have hn : ¬ ((begin_ (stopSite os s).win (st.now + tm m st.pos (stopSite os s).pl)).1 + (stopSite os s).sv ≤ d.hi) := fun q => by
          have : st.load + (legT os s).more ≤ d.room := by omega
          simp [q, this] at h
        rw [if_neg hl, served_none (.inr (by omega))]; exact ⟨15, rfl, by decide⟩
theorem runS_app {m : MapD} {d : Driver} : ∀ (x y : List Leg) (r : State × Bool), runS m d r (x ++ y) = runS m d (runS m d r x) y
  | [], _, _ => rfl
  | l :: x, y, ⟨s, true⟩ => by rw [List.cons_append, runS_true, runS_true, runS_app x y]
  | l :: x, y, ⟨s, false⟩ => by rw [runS_false, runS_false, runS_false]
theorem run_drive {m : MapD} {d : Driver} {os : List Order} (hm : MapOk m) (hd : DriverOk m d) (hk : knownO (some m) os = true) : ∀ (l ah : List Stop) (st : State) (K : Nat), RightGo os ah l → K + l.length ≤ 1000 → AtS m st K →
    (good (fauR (driveGo m d os ah l ⟨st.now, st.pos, st.load⟩)) = true ↔ (runS m d (st, true) (l.map (legT os))).2 = true ∧ (runS m d (st, true) (l.map (legT os))).1.load ≤ 0) ∧
    ((runS m d (st, true) (l.map (legT os))).2 = true → (runS m d (st, true) (l.map (legT os))).1.way = st.way + wayGo m os st.pos l ∧ (runS m d (st, true) (l.map (legT os))).1.load = st.load + moreL (l.map (legT os)))
  | [], ah, st, K, _, _, _ => by
    rw [driveGo, List.map_nil, runS, wayGo, moreL]
    refine ⟨⟨fun h => ⟨rfl, ?_⟩, fun h => ?_⟩, fun _ => ⟨(by dsimp only; omega), (by dsimp only; omega)⟩⟩
    · dsimp only
      by_cases q : 0 < st.load
      · rw [if_pos q] at h; simp [fauR, good] at h
      · omega
    · rw [if_neg (by dsimp only at h ⊢; omega)]; rfl
  | s :: l, ah, st, K, hR, hK, ha => by
    rw [List.length_cons] at hK
    obtain ⟨h1, h2⟩ := step_try (d := d) (s := s) hm hd hk hR.1 (by omega : K ≤ 1000) ha
    rw [List.map_cons, runS_true, driveGo]
    cases hs : (stepS m d st (legT os s)).2 with
    | true =>
      obtain ⟨v, e1, e2, e3, e4, e5, e6⟩ := h1 hs
      have e7 : stepS m d st (legT os s) = ((stepS m d st (legT os s)).1, true) := by rw [← hs]
      obtain ⟨i1, i2⟩ := run_drive hm hd hk l (ah ++ [s]) (stepS m d st (legT os s)).1 (K + 1) hR.2 (by omega) e3
      rw [e7, e1]
      dsimp only
      rw [e2]
      refine ⟨?_, fun h => ?_⟩
      · rw [← i1]
        cases driveGo m d os (ah ++ [s]) l ⟨(stepS m d st (legT os s)).1.now, (stepS m d st (legT os s)).1.pos, (stepS m d st (legT os s)).1.load⟩ with
        | ok vs => simp [fauR, good]
        | error f => exact Iff.rfl
      · obtain ⟨j1, j2⟩ := i2 h
        rw [j1, j2, e4, e5, e6, wayGo, moreL]
        exact ⟨by omega, by omega⟩
    | false =>
      obtain ⟨e, e1, e2⟩ := h2 hs
      have e7 : stepS m d st (legT os s) = ((stepS m d st (legT os s)).1, false) := by rw [← hs]
      rw [e7, e1, runS_false]
      refine ⟨⟨fun h => ?_, fun h => (by cases h.1)⟩, fun h => (by cases h)⟩
      simp [fauR, good, e2] at h
theorem pre_run {m : MapD} {d : Driver} {os : List Order} : ∀ (l : List Stop) (st : State), (runS m d (st, true) (l.map (legT os))).2 = true → ∀ k, k ≤ l.length → runS m d (st, true) ((l.take k).map (legT os)) = ((st :: preGo m d os st l).getD k sz, true)
  | _, st, _, 0, _ => by rw [List.take_zero, List.map_nil, runS]; rfl
  | [], st, _, k + 1, hk => by simp at hk
  | s :: l, st, h, k + 1, hk => by
    rw [List.map_cons, runS_true] at h
    rw [List.take_succ_cons, List.map_cons, runS_true]
    cases hs : (stepS m d st (legT os s)).2 with
    | true =>
      have e7 : stepS m d st (legT os s) = (stepN m st (legT os s), true) := by rw [← hs]; rfl
      rw [e7] at h ⊢
      rw [pre_run l _ h k (by simpa using hk), preGo]
      rfl
    | false =>
      have e7 : stepS m d st (legT os s) = ((stepS m d st (legT os s)).1, false) := by rw [← hs]
      rw [e7, runS_false] at h
      cases h
theorem findO_add {os : List Order} {o : Order} : ∀ {id : Int}, findO (os ++ [o]) id = if (findO os id).isSome then findO os id else if o.id = id then some o else none := by
  intro id
  induction os with
  | nil => simp [findO]
  | cons a l ih =>
    rw [List.cons_append, findO, findO]
    by_cases h : a.id = id
    · rw [if_pos h, if_pos h]; rfl
    · rw [if_neg h, if_neg h, ih]
theorem findO_isSome_iff {os : List Order} {id : Int} : (findO os id).isSome = true ↔ ∃ o ∈ os, o.id = id := by
  induction os with
  | nil => simp [findO]
  | cons a l ih =>
    rw [findO]
    by_cases h : a.id = id
    · rw [if_pos h]; exact ⟨fun _ => ⟨a, by simp, h⟩, fun _ => rfl⟩
    · rw [if_neg h, ih]
      constructor
      · rintro ⟨x, hx, e⟩; exact ⟨x, by simp [hx], e⟩
      · rintro ⟨x, hx, e⟩
        rcases List.mem_cons.1 hx with rfl | hx
        · exact absurd e h
        · exact ⟨x, hx, e⟩
theorem known_add {m : Option MapD} {os : List Order} {o : Order} (hk : knownO m os = true) (ho : orderE m o = 0) (hf : (findO os o.id).isSome = false) : knownO m (os ++ [o]) = true ↔ os.length < 40 := by
  obtain ⟨a, b, c⟩ := known_iff.1 hk
  refine ⟨fun h => ?_, fun h => known_iff.2 ⟨?_, fun x hx => ?_, ?_⟩⟩
  · have := (known_iff.1 h).1
    simp at this; omega
  · simp; omega
  · rcases List.mem_append.1 hx with q | q
    · exact b x q
    · simp at q; subst q; exact ho
  · refine List.pairwise_append.2 ⟨c, by simp, fun x hx y hy => ?_⟩
    simp at hy; subst hy
    intro q
    rw [findO_isSome_iff.2 ⟨x, hx, q⟩] at hf
    cases hf
structure PutPre (m : MapD) (d : Driver) (os : List Order) (ss : List Stop) (o : Order) : Prop where
  map : MapOk m
  good : good (fauR (drive (some m) d os ss)) = true
  order : orderE (some m) o = 0
  fresh : (findO os o.id).isSome = false
  few : ss.length ≤ 78
theorem leg_add {os : List Order} {o : Order} {s : Stop} (h : (findO os s.order).isSome = true) : legT (os ++ [o]) s = legT os s := by
  unfold legT fo
  rw [findO_add, if_pos h]
theorem leg_new {os : List Order} {o : Order} (h : (findO os o.id).isSome = false) (b : Bool) : legT (os ++ [o]) ⟨o.id, b⟩ = legO o b := by
  unfold legT fo
  dsimp only
  rw [findO_add, if_neg (by rw [h]; decide), if_pos rfl]; rfl
theorem map_add {os : List Order} {o : Order} {l : List Stop} (h : ∀ s ∈ l, (findO os s.order).isSome = true) : l.map (legT (os ++ [o])) = l.map (legT os) := List.map_congr_left fun s hs => leg_add (h s hs)
theorem drop_split {α : Type} {l : List α} {i j : Nat} (hij : i ≤ j) : l = l.take i ++ (l.drop i).take (j - i) ++ l.drop j := by
  rw [List.append_assoc]
  have : (l.drop i).take (j - i) ++ l.drop j = l.drop i := by
    have h := List.take_append_drop (j - i) (l.drop i)
    rw [List.drop_drop, show i + (j - i) = j by omega] at h
    exact h
  rw [this, List.take_append_drop]
theorem price_eq {m : MapD} {d : Driver} {os : List Order} {ss : List Stop} {o : Order} {i j : Int} (h : PutPre m d os ss o) (hi : 0 ≤ i ∧ i ≤ j ∧ j ≤ ss.length) :
    (priceS (mkS m d os ss o) i j).2 = (alongPr m d os ss o i j).2 ∧ ((priceS (mkS m d os ss o) i j).2 = true → (priceS (mkS m d os ss o) i j).1 = (alongPr m d os ss o i j).1) := by
  obtain ⟨x, vs, hx, hfit, hT, hD⟩ := drive_good h.good
  injection hx with hx
  subst hx
  obtain ⟨hdE, hk, hl80⟩ := fitB_iff.1 hfit
  have hd := (fit_pre h.map hfit).driver
  have hR : RightGo os [] ss := driveGo_right _ _ _ _ hT
  have hknown := rightGo_known _ _ hR
  have hS : AtS m (start d) 0 := ⟨hd.home, ⟨hd.win.1, by have := hd.win; show d.lo ≤ 1000000; omega⟩, ⟨by simp [start], by simp [start]⟩, ⟨by simp [start], by simp [start]⟩⟩
  obtain ⟨g1, g2⟩ := run_drive h.map hd hk ss [] (start d) 0 hR (by have := h.few; omega) hS
  have hg : good (fauR (driveGo m d os [] ss ⟨d.lo, d.home, 0⟩)) = true := by
    have : driveGo m d os [] ss ⟨d.lo, d.home, 0⟩ = .ok vs := hT
    rw [this]; rfl
  obtain ⟨r1, r2⟩ := g1.1 hg
  obtain ⟨w1, w2⟩ := g2 r1
  have hpre := pre_run ss (start d) r1
  -- the stops with the order put in
  have hsplit := drop_split (l := ss) (show i.toNat ≤ j.toNat by omega)
  have hput := putS_in (id := o.id) hi
  have hmem : ∀ s ∈ ss, s.order ≠ o.id := fun s hs q => by
    have := hknown s hs
    rw [q, h.fresh] at this; cases this
  have hA : ∀ s ∈ ss.take i.toNat, s ∈ ss := fun s hs => List.mem_of_mem_take hs
  have hB : ∀ s ∈ (ss.drop i.toNat).take (j.toNat - i.toNat), s ∈ ss := fun s hs => List.mem_of_mem_drop (List.mem_of_mem_take hs)
  have hC : ∀ s ∈ ss.drop j.toNat, s ∈ ss := fun s hs => List.mem_of_mem_drop hs
  generalize hAe : ss.take i.toNat = A at *
  generalize hBe : (ss.drop i.toNat).take (j.toNat - i.toNat) = B at *
  generalize hCe : ss.drop j.toNat = C at *
  have hlegs : (putS ss o.id i j).map (legT (os ++ [o])) = A.map (legT os) ++ (legO o false :: (B.map (legT os) ++ (legO o true :: C.map (legT os)))) := by
    rw [hput]
    simp only [List.map_append, List.map_cons, List.map_nil, leg_new h.fresh]
    rw [map_add fun s hs => hknown s (hA s hs), map_add fun s hs => hknown s (hB s hs), map_add fun s hs => hknown s (hC s hs)]
    simp
  have hRi : (runS m d (start d, true) ((putS ss o.id i j).map (legT (os ++ [o])))) = priceR (mkS m d os ss o) i j := by
    rw [hlegs, runS_app]
    have := hpre i.toNat (by omega)
    rw [hAe] at this
    rw [this, runS_true]
    unfold priceR mkS
    dsimp only
    rw [← hBe, ← hCe, List.map_take, List.map_drop, List.map_drop]
  have hRight : RightGo (os ++ [o]) [] (putS ss o.id i j) := by
    rw [hsplit] at hR
    obtain ⟨hR1, hR3⟩ := (rightGo_app _ _ _).1 hR
    obtain ⟨hR1, hR2⟩ := (rightGo_app _ _ _).1 hR1
    rw [List.nil_append] at hR2 hR3
    have hkk : ∀ id, (findO os id).isSome = true → (findO (os ++ [o]) id).isSome = true := fun id q => by rw [findO_add, if_pos q]; exact q
    have ho : (findO (os ++ [o]) o.id).isSome = true := by rw [findO_add, if_neg (by rw [h.fresh]; decide), if_pos rfl]; rfl
    have nm : ∀ (b : Bool), ∀ s ∈ ss, s ≠ ⟨o.id, b⟩ := fun b s hs q => hmem s hs (by rw [q])
    rw [hput]
    refine (rightGo_app _ _ _).2 ⟨(rightGo_app _ _ _).2 ⟨(rightGo_app _ _ _).2 ⟨(rightGo_app _ _ _).2 ⟨rightGo_more hkk A [] [] hR1 (fun _ q => q) fun _ _ q => q, ⟨wrongE_zero.2 ⟨ho, fun q => nm false _ (hA _ (by simpa using q)) rfl, fun q => (by cases q)⟩, trivial⟩⟩, rightGo_more hkk B A _ hR2 (fun x q => by simp [q]) fun s hs q => ?_⟩, ⟨wrongE_zero.2 ⟨ho, fun q => ?_, fun _ => by simp⟩, trivial⟩⟩, rightGo_more hkk C (A ++ B) _ hR3 (fun x q => ?_) fun s hs q => ?_⟩
    · simp only [List.nil_append, List.mem_append, List.mem_singleton] at q
      rcases q with q | q
      · exact q
      · exact absurd q (nm false s (hB s hs))
    · simp only [List.nil_append, List.mem_append, List.mem_singleton] at q
      rcases q with (q | q) | q
      · exact nm true _ (hA _ q) rfl
      · cases q
      · exact nm true _ (hB _ q) rfl
    · simp only [List.nil_append, List.mem_append, List.mem_singleton] at q ⊢
      rcases q with q | q
      · exact .inl (.inl (.inl q))
      · exact .inl (.inr q)
    · simp only [List.nil_append, List.mem_append, List.mem_singleton] at q ⊢
      rcases q with ((q | q) | q) | q
      · exact .inl q
      · exact absurd q (nm false s (hC s hs))
      · exact .inr q
      · exact absurd q (nm true s (hC s hs))
  have hlen : (putS ss o.id i j).length = ss.length + 2 := putS_length hi
  have hwayS : ((mkS m d os ss o).pre.getD (mkS m d os ss o).legs.length sz).way = way m d os ss := by
    have e := hpre ss.length (Nat.le_refl _)
    rw [List.take_length] at e
    have : (mkS m d os ss o).legs.length = ss.length := by simp [mkS]
    rw [this]
    show ((start d :: preGo m d os (start d) ss).getD ss.length sz).way = _
    rw [e] at w1
    rw [w1]
    show 0 + wayGo m os d.home ss = _
    rw [Int.zero_add]; rfl
  have hcost := cost_good h.good
  have hfull : (mkS m d os ss o).full = decide (40 ≤ (os.length : Int)) := rfl
  by_cases hfu : os.length < 40
  · have hk' := (known_add hk h.order h.fresh).2 hfu
    have hfit' : fitB (some m) d (os ++ [o]) (putS ss o.id i j) = true := fitB_iff.2 ⟨hdE, hk', by have := h.few; omega⟩
    obtain ⟨p1, p2⟩ := run_drive h.map hd hk' (putS ss o.id i j) [] (start d) 0 hRight (by have := h.few; omega) hS
    rw [hRi] at p1 p2
    have hload : moreL ((putS ss o.id i j).map (legT (os ++ [o]))) = moreL (ss.map (legT os)) := by
      rw [hlegs]
      have e : ss.map (legT os) = A.map (legT os) ++ (B.map (legT os) ++ C.map (legT os)) := by
        conv => lhs; rw [hsplit]
        simp
      rw [e]
      have hsz := (orderE_ok h.order).size
      have hw : (legO o true).more = -o.size := wrap_id (by omega) (by omega)
      have hw' : (legO o false).more = o.size := rfl
      simp only [moreL_app, moreL, hw, hw']
      omega
    have hdr : drive (some m) d (os ++ [o]) (putS ss o.id i j) = driveGo m d (os ++ [o]) [] (putS ss o.id i j) ⟨(start d).now, (start d).pos, (start d).load⟩ := drive_fit hfit'
    have hgood : good (fauR (drive (some m) d (os ++ [o]) (putS ss o.id i j))) = (priceR (mkS m d os ss o) i j).2 := by
      rw [hdr]
      cases hp : (priceR (mkS m d os ss o) i j).2 with
      | true =>
        refine p1.2 ⟨hp, ?_⟩
        rw [(p2 hp).2, hload]
        rw [w2] at r2
        exact r2
      | false =>
        cases hq : good (fauR (driveGo m d (os ++ [o]) [] (putS ss o.id i j) ⟨(start d).now, (start d).pos, (start d).load⟩)) with
        | false => rfl
        | true => rw [(p1.1 hq).1] at hp; cases hp
    have hp2 : (priceS (mkS m d os ss o) i j).2 = (priceR (mkS m d os ss o) i j).2 := by
      unfold priceS
      have : decide (40 ≤ (os.length : Int)) = false := by simp; omega
      rw [hfull, this]; simp
    rw [hp2]
    unfold alongPr
    refine ⟨?_, fun hp => ?_⟩
    · cases hp : (priceR (mkS m d os ss o) i j).2 with
      | true => rw [hp] at hgood; rw [cost_good hgood]
      | false => rw [hp] at hgood; rw [cost_bad hgood]
    · rw [hp] at hgood
      rw [cost_good hgood, hcost]
      show wrap ((priceR (mkS m d os ss o) i j).1.way - _) = wrap (way m d (os ++ [o]) (putS ss o.id i j) - way m d os ss)
      rw [hwayS, (p2 hp).1]
      show wrap (0 + way m d (os ++ [o]) (putS ss o.id i j) - way m d os ss) = _
      rw [Int.zero_add]
  · have hk' : knownO (some m) (os ++ [o]) = false := by
      cases q : knownO (some m) (os ++ [o]) with
      | false => rfl
      | true => exact absurd ((known_add hk h.order h.fresh).1 q) hfu
    have hbad : good (fauR (drive (some m) d (os ++ [o]) (putS ss o.id i j))) = false := by
      rw [drive_unfit (by unfold fitB; rw [hk']; simp)]; rfl
    have hp2 : (priceS (mkS m d os ss o) i j).2 = false := by
      unfold priceS
      have : decide (40 ≤ (os.length : Int)) = true := by simp; omega
      rw [hfull, this]; simp
    rw [hp2]
    unfold alongPr
    rw [cost_bad hbad]
    exact ⟨rfl, fun q => (by cases q)⟩
theorem rowP_mem {i : Int} : ∀ (k : Nat) (j : Int) (p : Int × Int), p ∈ rowP i k j ↔ p.1 = i ∧ j ≤ p.2 ∧ p.2 < j + k
  | 0, j, p => by simp [rowP] <;> omega
  | k + 1, j, p => by
    rw [rowP, List.mem_cons, rowP_mem k (j + 1) p]
    constructor
    · rintro (rfl | h)
      · exact ⟨rfl, by dsimp only; omega, by dsimp only; omega⟩
      · exact ⟨h.1, by omega, by omega⟩
    · rintro ⟨a, b, c⟩
      by_cases q : p.2 = j
      · exact .inl (Prod.ext a q)
      · exact .inr ⟨a, by omega, by omega⟩
theorem pairsP_mem : ∀ (k : Nat) (i : Int) (p : Int × Int), p ∈ pairsP k i ↔ i ≤ p.1 ∧ p.1 ≤ p.2 ∧ p.2 < i + k
  | 0, i, p => by simp [pairsP] <;> omega
  | k + 1, i, p => by
    rw [pairsP, List.mem_append, rowP_mem, pairsP_mem k (i + 1) p]
    omega
theorem places_mem {s : Int} {n : Nat} {p : Int × Int} (h : p ∈ places_ s n) : s ≤ p.1 ∧ p.1 ≤ p.2 ∧ p.2 ≤ n := by
  unfold places_ at h
  have := (pairsP_mem _ _ _).1 h
  omega
theorem huntGo_congr {id : Int} {pr pr' : Int → Int → Int × Bool} {b : Int} : ∀ (l : List (Int × Int)) (h : Hunt), (∀ p ∈ l, (pr p.1 p.2).2 = (pr' p.1 p.2).2 ∧ ((pr p.1 p.2).2 = true → (pr p.1 p.2).1 = (pr' p.1 p.2).1)) → huntGo id pr b l h = huntGo id pr' b l h
  | [], _, _ => rfl
  | p :: l, h, hp => by
    have e : huntStep id pr h p = huntStep id pr' h p := by
      obtain ⟨a, c⟩ := hp p (by simp)
      unfold huntStep
      cases q : (pr p.1 p.2).2 with
      | true => rw [← a, q, ← c q]
      | false => rw [← a, q]; rfl
    rw [huntGo, huntGo, e, huntGo_congr l _ fun x hx => hp x (by simp [hx])]
theorem hunt_ext {a b : Hunt} (h1 : a.driver = b.driver) (h2 : a.pick = b.pick) (h3 : a.drop = b.drop) (h4 : a.cost = b.cost) (h5 : a.found = b.found) (h6 : a.steps = b.steps) : a = b := by
  cases a; cases b; simp_all
theorem join_step {id : Int} {pr : Int → Int → Int × Bool} {h g : Hunt} {p : Int × Int} : huntJoin h (huntStep id pr g p) = huntStep id pr (huntJoin h g) p := by
  obtain ⟨d1, p1, q1, c1, f1, s1⟩ := h
  obtain ⟨d2, p2, q2, c2, f2, s2⟩ := g
  unfold huntStep huntJoin
  generalize pr p.1 p.2 = c
  obtain ⟨c, ok⟩ := c
  dsimp only
  cases ok <;> cases f1 <;> cases f2 <;> simp only [Bool.false_and, Bool.true_and, Bool.not_true, Bool.not_false, Bool.true_or, Bool.false_or, decide_eq_true_eq, if_true, if_false, Bool.false_eq_true]
  all_goals (repeat' split) <;> (try dsimp only at *) <;> (try simp only [Bool.false_and, Bool.true_and, Bool.not_true, Bool.not_false, Bool.true_or, Bool.false_or, decide_eq_true_eq, if_true, if_false, Bool.false_eq_true] at *) <;> first
    | rfl
    | (refine hunt_ext ?_ ?_ ?_ ?_ ?_ ?_ <;> dsimp only <;> (try split) <;> first | rfl | omega)
    | omega
    | grind
theorem join_go {id : Int} {pr : Int → Int → Int × Bool} {b : Int} {h : Hunt} : ∀ (l : List (Int × Int)) (g : Hunt), huntJoin h (huntGo id pr (b - h.steps) l g) = huntGo id pr b l (huntJoin h g)
  | [], g => rfl
  | p :: l, g => by
    have e : (huntJoin h g).steps = h.steps + g.steps := by unfold huntJoin; split <;> rfl
    rw [huntGo, huntGo]
    by_cases q : b - h.steps ≤ g.steps
    · rw [if_pos q, if_pos (by omega)]
    · rw [if_neg q, if_neg (by omega), join_go l, join_step]
theorem join_hz {h : Hunt} : huntJoin h hz = h := by
  obtain ⟨d1, p1, q1, c1, f1, s1⟩ := h
  simp [huntJoin, hz]
theorem hunt_eq {m : MapD} {d : Driver} {os : List Order} {ss : List Stop} {o : Order} {served b : Int} {h : Hunt} (hp : PutPre m d os ss o) (hs : 0 ≤ served) :
    huntGo d.id (priceS (mkS m d os ss o)) b (places_ served ss.length) h = huntGo d.id (alongPr m d os ss o) b (places_ served ss.length) h := huntGo_congr _ _ fun p hp' => by
  have := places_mem hp'
  exact price_eq hp ⟨by omega, by omega, by omega⟩
theorem best_eq {m : MapD} {d : Driver} {os : List Order} {ss : List Stop} {o : Order} {served b : Int} (hp : PutPre m d os ss o) (hs : 0 ≤ served) :
    bestS (mkS m d os ss o) served b = huntGo d.id (alongPr m d os ss o) b (places_ served ss.length) hz := by
  rw [← hunt_eq hp hs]
  unfold bestS
  have : (mkS m d os ss o).legs.length = ss.length := by simp [mkS]
  rw [this]; rfl
/-- The routes that are looked along. -/
structure LookOk (m : MapD) (ds : List Driver) (os : List Order) (o : Order) (r : Route) : Prop where
  served : 0 ≤ r.served
  good : good (fauR (drive (some m) (fdD ds r.driver) os r.stops)) = true
theorem look_eq {m : MapD} {ds : List Driver} {os : List Order} {o : Order} {b : Int} (hm : MapOk m) (ho : orderE (some m) o = 0) (hf : (findO os o.id).isSome = false) : ∀ (p : List Route) (h : Hunt), (∀ r ∈ p, LookOk m ds os o r) → lookGo m ds os o b p h = rlookGo m ds os o b p h
  | [], _, _ => rfl
  | r :: p, h, hp => by
    rw [lookGo, rlookGo]
    by_cases hc : closedTo (fdD ds r.driver) r = true
    · rw [if_pos hc, if_pos hc]; exact look_eq hm ho hf p h fun x hx => hp x (by simp [hx])
    · rw [if_neg hc, if_neg hc]
      obtain ⟨h1, h2⟩ := hp r (by simp)
      have h78 : r.stops.length ≤ 78 := by
        simp only [closedTo, Bool.or_eq_true, decide_eq_true_eq, not_or] at hc
        omega
      rw [best_eq ⟨hm, h2, ho, hf, h78⟩ h1, join_go, join_hz]
      exact look_eq hm ho hf p _ fun x hx => hp x (by simp [hx])
theorem make_look {m : MapD} {ds : List Driver} {os : List Order} {p : List Route} {o : Order} (hg : Go.Eng.good (cfauR (makeP (some m) ds os p)) = true) : ∀ r ∈ p, LookOk m ds os o r := by
  obtain ⟨x, hx, hwell, hgo⟩ := good_make hg
  injection hx with hx
  subst hx
  intro r hr
  have hRight := rightP_iff.1 (wellP_iff.1 hwell).2.2.2.1
  obtain ⟨dd, hfd, v, hv⟩ := good_go p 0 hgo r hr
  have efd : fdD ds r.driver = dd := by unfold fdD; rw [hfd]; rfl
  exact ⟨(okR_mem hRight.2 _ hr).2.2.2.1, by rw [efd, hv]; rfl⟩
theorem cheapP_eq {m : Option MapD} {ds : List Driver} {os : List Order} {p : List Route} {o : Order} {b : Int} (hm : MapOkO m) : cheapP m ds os p o b = rcheapP m ds os p o b := by
  unfold cheapP rcheapP
  by_cases h : (good (cfauR (makeP m ds os p)) && askedP m os o b) = true
  · rw [if_pos h, if_pos h]
    cases m with
    | none => rfl
    | some x =>
      rw [Bool.and_eq_true] at h
      obtain ⟨a1, a2, _⟩ := asked_iff.1 h.2
      unfold lookP rlookP
      dsimp only
      rw [look_eq (hm x rfl) a1 (by simpa using a2) p hz (make_look h.1)]
  · rw [if_neg h, if_neg h]
end Go.Eng

/- Chapter 12's runs. -/
set_option linter.unusedVariables false
set_option linter.unusedSimpArgs false
namespace Go.Eng
open Go Go.Proofs
theorem isH_of {h : Hunt × Int} {s : Spot} {n e : Int} : isH h s n e = true ↔ ((hspot h.1).driver = s.driver ∧ (hspot h.1).pick = s.pick ∧ (hspot h.1).drop = s.drop ∧ (hspot h.1).cost = s.cost) ∧ h.1.steps = n ∧ h.2 = e := by
  unfold isH hspot
  rw [decide_eq_true_eq]
  dsimp only
  constructor <;> (intro h; simp only [h, and_self, true_and])
theorem lbest_gen (h : Hunt × Int) (s : Spot) (n e : Int) (P : Prop) (hP : P) : P ∧ ((decide ((hspot h.1).driver = s.driver) && (decide ((hspot h.1).pick = s.pick) && (decide ((hspot h.1).drop = s.drop) && (decide ((hspot h.1).cost = s.cost) && true)))) = true → (decide (h.1.steps = n) = true → decide (h.2 = e) = isH h s n e) ∧ (decide (h.1.steps = n) = !true → false = isH h s n e)) ∧
    ((decide ((hspot h.1).driver = s.driver) && (decide ((hspot h.1).pick = s.pick) && (decide ((hspot h.1).drop = s.drop) && (decide ((hspot h.1).cost = s.cost) && true)))) = !true → false = isH h s n e) := by
  have k := @isH_of h s n e
  refine ⟨hP, fun a => ⟨fun b => ?_, fun b => ?_⟩, fun a => ?_⟩ <;> cases q : isH h s n e <;> rw [q] at k <;> simp_all
theorem lbest_ok : lbest_vc := ⟨fun d os _ r _ o b s n e hm => lbest_gen _ _ _ _ _ hm, fun m _ d os _ r _ o b s n e hm => lbest_gen _ _ _ _ _ hm⟩
theorem lbest_t : Told Try.prog 22 lbest_con := lbest_told (csOk_cons ibest_t csOk_nil) lbest_ok
theorem insertRuns_ok : insertRuns_vc := by
  have hm : ∀ (x : MapD), some ⟨2, [0, 5, 7, 0]⟩ = some x → MapOk x := mapOkO_some (by decide)
  have b0 : isH (bestP (some ⟨2, [0, 5, 7, 0]⟩) ⟨4, 4, 1, 1, 30, false⟩ [] ⟨4, 0, []⟩ ⟨1, 3, 0, 2, 9, 1, 1, 0, 20, 2⟩ 9) ⟨4, 0, 0, 12⟩ 1 0 = true := by kernel_rfl
  have b1 : isH (bestP (some ⟨2, [0, 5, 7, 0]⟩) ⟨4, 4, 1, 1, 30, false⟩ [⟨1, 3, 0, 2, 9, 1, 1, 0, 20, 2⟩] ⟨4, 0, [⟨1, false⟩, ⟨1, true⟩]⟩ ⟨2, 1, 0, 0, 100, 1, 1, 0, 100, 2⟩ 9) ⟨4, 0, 1, 0⟩ 6 0 = true := by kernel_rfl
  have b2 : isH (bestP (some ⟨2, [0, 5, 7, 0]⟩) ⟨4, 4, 1, 1, 30, false⟩ [⟨1, 3, 0, 2, 9, 1, 1, 0, 20, 2⟩] ⟨4, 0, [⟨1, false⟩, ⟨1, true⟩]⟩ ⟨2, 1, 0, 0, 100, 1, 1, 0, 100, 2⟩ 2) ⟨4, 0, 1, 0⟩ 2 0 = true := by kernel_rfl
  have b3 : isH (bestP (some ⟨2, [0, 5, 7, 0]⟩) ⟨4, 4, 1, 1, 30, false⟩ [⟨1, 3, 0, 2, 9, 1, 1, 0, 20, 2⟩] ⟨4, 0, [⟨1, false⟩, ⟨1, true⟩]⟩ ⟨2, 1, 0, 0, 100, 1, 1, 0, 100, 2⟩ 1) ⟨0, 0, 0, 0⟩ 1 20 = true := by kernel_rfl
  have b4 : isH (bestP (some ⟨2, [0, 5, 7, 0]⟩) ⟨4, 4, 1, 1, 30, false⟩ [⟨1, 3, 0, 2, 9, 1, 1, 0, 20, 2⟩] ⟨4, 0, [⟨1, false⟩, ⟨1, true⟩]⟩ ⟨2, 1, 0, 0, 100, 1, 1, 0, 100, 2⟩ 0) ⟨0, 0, 0, 0⟩ 0 20 = true := by kernel_rfl
  have b5 : isH (bestP (some ⟨2, [0, 5, 7, 0]⟩) ⟨4, 4, 1, 1, 30, false⟩ [⟨1, 3, 0, 2, 9, 1, 1, 0, 20, 2⟩] ⟨4, 3, [⟨1, false⟩, ⟨1, true⟩]⟩ ⟨2, 1, 0, 0, 100, 1, 1, 0, 100, 2⟩ 9) ⟨0, 0, 0, 0⟩ 0 1 = true := by kernel_rfl
  have b6 : isH (bestP (some ⟨2, [0, 5, 7, 0]⟩) ⟨4, 4, 1, 1, 30, true⟩ [⟨1, 3, 0, 2, 9, 1, 1, 0, 20, 2⟩] ⟨4, 0, [⟨1, false⟩, ⟨1, true⟩]⟩ ⟨2, 1, 0, 0, 100, 1, 1, 0, 100, 2⟩ 9) ⟨0, 0, 0, 0⟩ 0 23 = true := by kernel_rfl
  have rA : rightP [⟨4, 0, [⟨1, false⟩, ⟨1, true⟩]⟩, ⟨5, 0, []⟩] = true := rightP_iff.2 ⟨by simp, by simp [okR, okR1, okS]⟩
  have kO : knownO (some ⟨2, [0, 5, 7, 0]⟩) [⟨1, 3, 0, 2, 9, 1, 1, 0, 20, 2⟩] = true := by kernel_rfl
  have d0 : okD (some ⟨2, [0, 5, 7, 0]⟩) [⟨4, 4, 1, 1, 30, false⟩, ⟨5, 4, 0, 1, 30, false⟩] 0 = true := by kernel_rfl
  have d1 : okD (some ⟨2, [0, 5, 7, 0]⟩) [⟨4, 4, 1, 1, 30, false⟩, ⟨5, 4, 0, 1, 30, false⟩] 1 = true := by kernel_rfl
  have dl : ∀ k, k < ([⟨4, 4, 1, 1, 30, false⟩, ⟨5, 4, 0, 1, 30, false⟩] : List Driver).length → okD (some ⟨2, [0, 5, 7, 0]⟩) [⟨4, 4, 1, 1, 30, false⟩, ⟨5, 4, 0, 1, 30, false⟩] k = true := fun k hk => by
    have : k = 0 ∨ k = 1 := by simp at hk; omega
    rcases this with rfl | rfl
    · exact d0
    · exact d1
  have w1 : wellP (some ⟨2, [0, 5, 7, 0]⟩) [⟨4, 4, 1, 1, 30, false⟩, ⟨5, 4, 0, 1, 30, false⟩] [⟨1, 3, 0, 2, 9, 1, 1, 0, 20, 2⟩] [⟨4, 0, [⟨1, false⟩, ⟨1, true⟩]⟩, ⟨5, 0, []⟩] = true := wellP_iff.2 ⟨rfl, by decide, kO, rA, dl⟩
  have g1 : good (cfauR (makeP (some ⟨2, [0, 5, 7, 0]⟩) [⟨4, 4, 1, 1, 30, false⟩, ⟨5, 4, 0, 1, 30, false⟩] [⟨1, 3, 0, 2, 9, 1, 1, 0, 20, 2⟩] [⟨4, 0, [⟨1, false⟩, ⟨1, true⟩]⟩, ⟨5, 0, []⟩])) = true := by
    simp only [makeP, w1, if_true]; kernel_rfl
  have a1 : askedP (some ⟨2, [0, 5, 7, 0]⟩) [⟨1, 3, 0, 2, 9, 1, 1, 0, 20, 2⟩] ⟨2, 1, 0, 0, 100, 1, 1, 0, 100, 2⟩ 100 = true := by kernel_rfl
  have c1 : cheapP (some ⟨2, [0, 5, 7, 0]⟩) [⟨4, 4, 1, 1, 30, false⟩, ⟨5, 4, 0, 1, 30, false⟩] [⟨1, 3, 0, 2, 9, 1, 1, 0, 20, 2⟩] [⟨4, 0, [⟨1, false⟩, ⟨1, true⟩]⟩, ⟨5, 0, []⟩] ⟨2, 1, 0, 0, 100, 1, 1, 0, 100, 2⟩ 100 = tellH (lookP (some ⟨2, [0, 5, 7, 0]⟩) [⟨4, 4, 1, 1, 30, false⟩, ⟨5, 4, 0, 1, 30, false⟩] [⟨1, 3, 0, 2, 9, 1, 1, 0, 20, 2⟩] [⟨4, 0, [⟨1, false⟩, ⟨1, true⟩]⟩, ⟨5, 0, []⟩] ⟨2, 1, 0, 0, 100, 1, 1, 0, 100, 2⟩ 100) := by
    unfold cheapP; rw [if_pos (by rw [g1, a1]; rfl)]
  have c2 : tellH (lookP (some ⟨2, [0, 5, 7, 0]⟩) [⟨4, 4, 1, 1, 30, false⟩, ⟨5, 4, 0, 1, 30, false⟩] [⟨1, 3, 0, 2, 9, 1, 1, 0, 20, 2⟩] [⟨4, 0, [⟨1, false⟩, ⟨1, true⟩]⟩, ⟨5, 0, []⟩] ⟨2, 1, 0, 0, 100, 1, 1, 0, 100, 2⟩ 100) = (⟨4, 0, 1, 0, true, 7⟩, 0) := by kernel_rfl
  rw [c2] at c1
  unfold insertRuns_vc
  simp only [bad_false, int0, nilOf, decide_eq_true_eq, decide_eq_false_iff_not, Bool.not_eq_true', Bool.not_eq_false', Bool.not_true, Bool.not_false, Bool.false_eq_true, Bool.true_eq_false, eq_self, true_and, and_true, false_or, or_false, false_implies, true_implies, implies_true, Int.not_lt, Int.not_le, gt_iff_lt, ge_iff_le, ne_eq, eq_true hm, b0, b1, b2, b3, b4, b5, b6, c1, hspot]
  simp
theorem insertRuns_t : Told Try.prog 5 yes_con := insertRuns_told (csOk_cons newC_t (csOk_cons lbest_t (csOk_cons cheap_t csOk_nil))) insertRuns_ok
end Go.Eng

/- A greater budget. -/
set_option linter.unusedVariables false
set_option linter.unusedSimpArgs false
namespace Go.Eng
open Go Go.Proofs
/-- What a smaller and a greater budget have found. -/
structure TwoB (lo hi : Int) (h g : Hunt) : Prop where
  tlo : h.steps ≤ lo
  thi : g.steps ≤ hi
  le : h.steps ≤ g.steps
  eq : h.steps < lo → g = h
  cost : h.found = true → g.found = true ∧ g.cost ≤ h.cost
/-- What is told with two budgets. -/
structure TwoT (lo hi : Int) (a b : Hunt × Int) : Prop where
  e : a.2 = 0 ∨ a.2 = 1 ∨ a.2 = 20
  f : b.2 = 0 ∨ b.2 = 1 ∨ b.2 = 20
  a1 : a.2 = 1 → a.1 = hz
  b1 : b.2 = 1 → b.1 = hz
  both : a.2 ≠ 1 → b.2 ≠ 1 → a.1.steps ≤ lo ∧ b.1.steps ≤ hi ∧ a.1.steps ≤ b.1.steps ∧ (a.1.steps < lo → b = a) ∧ (a.2 = 0 → b.2 = 0 ∧ b.1.cost ≤ a.1.cost)
end Go.Eng

/- The cheapest place is the best of each route's best. -/
set_option linter.unusedVariables false
set_option linter.unusedSimpArgs false
namespace Go.Eng
open Go Go.Proofs
/-- A plan with a certificate, looked at for an order. -/
structure RouteOk (m : MapD) (ds : List Driver) (os : List Order) (r : Route) (d : Driver) : Prop where
  find : findD r.driver ds = some d
  fd : fdD ds r.driver = d
  id : d.id = r.driver
  served : 0 ≤ r.served ∧ r.served ≤ r.stops.length
  good : good (fauR (drive (some m) d os r.stops)) = true
theorem make_route {m : MapD} {ds : List Driver} {os : List Order} {p : List Route} (hg : Go.Eng.good (cfauR (makeP (some m) ds os p)) = true) : ∀ r ∈ p, ∃ d, RouteOk m ds os r d := by
  obtain ⟨x, hx, hwell, hgo⟩ := good_make hg
  injection hx with hx
  subst hx
  intro r hr
  have hRight := rightP_iff.1 (wellP_iff.1 hwell).2.2.2.1
  obtain ⟨dd, hfd, v, hv⟩ := good_go p 0 hgo r hr
  have efd : fdD ds r.driver = dd := by unfold fdD; rw [hfd]; rfl
  have := (okR_mem hRight.2 _ hr).2.2.2
  exact ⟨dd, hfd, efd, (findD_mem hfd).2, this, by rw [hv]; rfl⟩
end Go.Eng
