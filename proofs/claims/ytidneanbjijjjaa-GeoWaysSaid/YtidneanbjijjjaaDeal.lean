/- Orders and drivers, in plain words; what the functions that look at them tell. -/
import Derived.Test.YtidneanbjijjjaaWinOk
import Derived.Test.YtidneanbjijjjaaGeoOk
set_option linter.unusedVariables false
set_option linter.unusedSimpArgs false
namespace Go.Eng
open Go Go.Proofs

def within (n lo hi : Int) : Bool := decide (lo ≤ n) && decide (n ≤ hi)
def place (m : Option MapD) (p : Int) : Bool := match m with | none => false | some m => inMap m p
def Order.pick (o : Order) : Site := ⟨o.pp, o.pf, o.pt, o.ps⟩
def Order.drop (o : Order) : Site := ⟨o.dp, o.df, o.dt, o.ds⟩
def Site.win (s : Site) : Win := ⟨s.lo, s.hi⟩
def orderE (m : Option MapD) (o : Order) : Int :=
  if m.isNone || !within o.id 1 1000000 then 1 else if !within o.size 1 1000 then 14
  else if !(place m o.pp && place m o.dp) then 12 else if !(right ⟨o.pf, o.pt⟩ && right ⟨o.df, o.dt⟩) then 13
  else if !(within o.ps 0 1000000 && within o.ds 0 1000000) then 7 else 0
def driverE (m : Option MapD) (d : Driver) : Int :=
  if m.isNone || !within d.id 1 1000000 then 1 else if !within d.room 1 1000 then 14
  else if !place m d.home then 12 else if !right ⟨d.lo, d.hi⟩ then 13 else 0
def idFree (os : List Order) (id : Int) : Bool := os.all fun p => !decide (p.id = id)
def okAt (m : Option MapD) (os : List Order) (k : Nat) : Bool := decide (orderE m (os.getD k (FK.zero .order)) = 0) && idFree (os.take k) (os.getD k (FK.zero .order)).id
def knownO (m : Option MapD) (os : List Order) : Bool := decide (os.length ≤ 40) && (List.range os.length).all (okAt m os)
/-- A site that is driven to from a place left at a time: when it is begun and left. -/
def served (m : MapD) (at' left : Int) (s : Site) (u : Int) : Option (Int × Int) :=
  if (begin_ s.win (left + tm m at' s.pl)).2 && decide ((begin_ s.win (left + tm m at' s.pl)).1 + s.sv ≤ u) then some ((begin_ s.win (left + tm m at' s.pl)).1, (begin_ s.win (left + tm m at' s.pl)).1 + s.sv) else none
def alone (m : Option MapD) (d : Driver) (o : Order) : Int × Bool := match m with
  | none => (0, false)
  | some x => if !decide (orderE m o = 0) || !decide (driverE m d = 0) || !decide (o.size ≤ d.room) then (0, false)
    else match served x d.home d.lo o.pick d.hi with
      | none => (0, false)
      | some a => match served x o.pp a.2 o.drop d.hi with
        | none => (0, false)
        | some b => (b.2, true)

/-! ### Contracts -/
def known_con : Con := ⟨[.q .map 73, .c (.a (.f .order))], fun m os => ⟨some (MapOkO m), [⟨none, [.c (.b (knownO m os))]⟩]⟩⟩
structure SiteOk (m : MapD) (s : Site) : Prop where
  pl : 0 ≤ s.pl ∧ s.pl < m.n
  sv : 0 ≤ s.sv ∧ s.sv ≤ 1000000
structure AtOk (m : MapD) (at' left : Int) : Prop where
  pl : 0 ≤ at' ∧ at' < m.n
  left : 0 ≤ left ∧ left ≤ 1000000
/-! ### Worlds -/
end Go.Eng
