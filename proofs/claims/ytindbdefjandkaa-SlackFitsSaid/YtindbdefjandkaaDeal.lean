/- Orders and drivers, in plain words; what the functions that look at them tell. -/
import Derived.Test.YtindbdefjandkaaWinOk
import Derived.Test.YtindbdefjandkaaGeoOk
set_option linter.unusedVariables false
set_option linter.unusedSimpArgs false
namespace Go.Eng
open Go Go.Proofs

def within (n lo hi : Int) : Bool := decide (lo ≤ n) && decide (n ≤ hi)
def place (m : Option MapD) (p : Int) : Bool := match m with | none => false | some m => inMap m p
def Order.pick (o : Order) : Site := ⟨o.pp, o.pf, o.pt, o.ps⟩
def Order.drop (o : Order) : Site := ⟨o.dp, o.df, o.dt, o.ds⟩
def Site.win (s : Site) : Win := ⟨s.lo, s.hi⟩
def orderE (m : Option MapD) (o : Order) : Int :=
  if m.isNone || !within o.id 1 1000000 then 1 else if !within o.size 1 1000 then 14
  else if !(place m o.pp && place m o.dp) then 12 else if !(right ⟨o.pf, o.pt⟩ && right ⟨o.df, o.dt⟩) then 13
  else if !(within o.ps 0 1000000 && within o.ds 0 1000000) then 7 else 0
def driverE (m : Option MapD) (d : Driver) : Int :=
  if m.isNone || !within d.id 1 1000000 then 1 else if !within d.room 1 1000 then 14
  else if !place m d.home then 12 else if !right ⟨d.lo, d.hi⟩ then 13 else 0
def idFree (os : List Order) (id : Int) : Bool := os.all fun p => !decide (p.id = id)
def okAt (m : Option MapD) (os : List Order) (k : Nat) : Bool := decide (orderE m (os.getD k (FK.zero .order)) = 0) && idFree (os.take k) (os.getD k (FK.zero .order)).id
def knownO (m : Option MapD) (os : List Order) : Bool := decide (os.length ≤ 40) && (List.range os.length).all (okAt m os)
/-- A site that is driven to from a place left at a time: when it is begun and left. -/
def served (m : MapD) (at' left : Int) (s : Site) (u : Int) : Option (Int × Int) :=
  if (begin_ s.win (left + tm m at' s.pl)).2 && decide ((begin_ s.win (left + tm m at' s.pl)).1 + s.sv ≤ u) then some ((begin_ s.win (left + tm m at' s.pl)).1, (begin_ s.win (left + tm m at' s.pl)).1 + s.sv) else none
def alone (m : Option MapD) (d : Driver) (o : Order) : Int × Bool := match m with
  | none => (0, false)
  | some x => if !decide (orderE m o = 0) || !decide (driverE m d = 0) || !decide (o.size ≤ d.room) then (0, false)
    else match served x d.home d.lo o.pick d.hi with
      | none => (0, false)
      | some a => match served x o.pp a.2 o.drop d.hi with
        | none => (0, false)
        | some b => (b.2, true)

/-! ### Contracts -/
def within_con : Con := ⟨[.c .i, .c .i, .c .i], fun n a b => one [.c (.b (within n a b))]⟩
def within_cs : Cons := []
def within_la : List (Nat × LA) := []
def place_con : Con := ⟨[.q .map 75, .c .i], fun m p => ⟨some (MapOkO m), [⟨none, [.c (.b (place m p))]⟩]⟩⟩
def place_cs : Cons := [(54, places_con), (50, within_con)]
def place_la : List (Nat × LA) := []
def order_con : Con := ⟨[.q .map 75, .r (.f .order)], fun m o => ⟨some (MapOkO m), [⟨none, [.c (.i (orderE m o))]⟩]⟩⟩
def order_cs : Cons := [(50, within_con), (51, place_con), (37, right_con)]
def order_la : List (Nat × LA) := []
def driver_con : Con := ⟨[.q .map 75, .r (.f .driver)], fun m d => ⟨some (MapOkO m), [⟨none, [.c (.i (driverE m d))]⟩]⟩⟩
def driver_cs : Cons := [(50, within_con), (51, place_con), (37, right_con)]
def driver_la : List (Nat × LA) := []
def known_con : Con := ⟨[.q .map 75, .c (.a (.f .order))], fun m os => ⟨some (MapOkO m), [⟨none, [.c (.b (knownO m os))]⟩]⟩⟩
def known_cs : Cons := [(52, order_con)]
def known_la : List (Nat × LA) := [(4, ⟨[0, 1, 12, 13], [.i 14]⟩), (9, ⟨[0, 1, 6, 12, 13, 14, 25, 26], [.i 27]⟩)]
def rPlace_con : Con := ⟨[.p .map 91, .c .i], fun m p => one [.c (.b (place (some m) p))]⟩
def rPlace_cs : Cons := []
def rPlace_la : List (Nat × LA) := []
def rOrder_con : Con := ⟨[.q .map 91, .r (.f .order)], fun m o => one [.c (.i (orderE m o))]⟩
def rOrder_cs : Cons := [(47, rPlace_con), (42, right_con)]
def rOrder_la : List (Nat × LA) := []
def rDriver_con : Con := ⟨[.q .map 91, .r (.f .driver)], fun m d => one [.c (.i (driverE m d))]⟩
def rDriver_cs : Cons := [(47, rPlace_con), (42, right_con)]
def rDriver_la : List (Nat × LA) := []
def rKnown_con : Con := ⟨[.q .map 91, .c (.a (.f .order))], fun m os => one [.c (.b (knownO m os))]⟩
def rKnown_cs : Cons := [(48, rOrder_con)]
def rKnown_la : List (Nat × LA) := [(4, ⟨[0, 1], [.i 5]⟩), (9, ⟨[0, 1, 5], [.i 6]⟩)]
structure SiteOk (m : MapD) (s : Site) : Prop where
  pl : 0 ≤ s.pl ∧ s.pl < m.n
  sv : 0 ≤ s.sv ∧ s.sv ≤ 1000000
structure AtOk (m : MapD) (at' left : Int) : Prop where
  pl : 0 ≤ at' ∧ at' < m.n
  left : 0 ≤ left ∧ left ≤ 1000000
def servedR (r : Option (Int × Int)) : List AV := [.c (.i (r.getD (0, 0)).1), .c (.i (r.getD (0, 0)).2), .c (.b r.isSome)]
def served_con : Con := ⟨[.p .map 91, .c .i, .c .i, .r (.f .site), .c .i], fun m a l s u => ⟨some (MapOk m ∧ AtOk m a l ∧ SiteOk m s), [⟨none, [.c (.i ((served m a l s u).getD (0, 0)).1), .c (.i ((served m a l s u).getD (0, 0)).2), .c (.b (served m a l s u).isSome)]⟩]⟩⟩
def served_cs : Cons := [(33, rTime_con), (49, begin_con)]
def served_la : List (Nat × LA) := []
/-! ### Worlds -/
def maps_con : Con := ⟨[.r .world], fun w => ⟨none, [⟨some (newE w.n w.times ≠ 0), [.c .np, .c .np, .c (.b true)]⟩,
  ⟨some (newE w.n w.times = 0), [.p true 75 [.i w.n, .o .int 3 w.times], .p true 91 [.i w.n, .o .int 3 w.times], .c (.b true)]⟩]⟩⟩
def maps_cs : Cons := [(9, new_con), (29, rNew_con)]
def maps_la : List (Nat × LA) := []
end Go.Eng
