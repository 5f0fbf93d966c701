/- Routes driven, in plain words; what the functions that drive tell. -/
import Derived.Test.YtindbdefjandkaaDealOk
set_option linter.unusedVariables false
set_option linter.unusedSimpArgs false
namespace Go.Eng
open Go Go.Proofs

def findO : List Order → Int → Option Order
  | [], _ => none
  | o :: l, id => if o.id = id then some o else findO l id
def ixO : List Order → Int → Int → Int
  | [], _, _ => -1
  | o :: l, id, k => if o.id = id then k else ixO l id (k + 1)
def fo (os : List Order) (id : Int) : Order := (findO os id).getD (FK.zero .order)
def siteOf (o : Order) (drop : Bool) : Site := if drop then o.drop else o.pick
def sEq (a b : Stop) : Bool := decide (a.order = b.order) && (a.drop == b.drop)
def stands (l : List Stop) (s : Stop) : Bool := l.any fun x => sEq x s
def wrongE (os : List Order) (ahead : List Stop) (s : Stop) : Int :=
  if (findO os s.order).isNone then 8 else if stands ahead s then 16 else if s.drop && !stands ahead ⟨s.order, false⟩ then 17 else 0
/-- Where a driver stands, when, with what. -/
structure Pos where (now pos load : Int)
def loadOf (os : List Order) (s : Stop) (load : Int) : Int := if s.drop then load - (fo os s.order).size else load + (fo os s.order).size
def stopSite (os : List Order) (s : Stop) : Site := siteOf (fo os s.order) s.drop
/-- One stop is made: its visit; or what is wrong. -/
def tryStop (m : MapD) (d : Driver) (os : List Order) (ahead : List Stop) (s : Stop) (p : Pos) : Except Int Visit :=
  if wrongE os ahead s ≠ 0 then .error (wrongE os ahead s) else if loadOf os s p.load > d.room then .error 14
  else match served m p.pos p.now (stopSite os s) d.hi with
    | none => .error 15
    | some b => .ok ⟨s.order, s.drop, p.now + tm m p.pos (stopSite os s).pl, b.1, b.2, loadOf os s p.load⟩
def after (os : List Order) (s : Stop) (v : Visit) : Pos := ⟨v.leave, (stopSite os s).pl, v.load⟩
def driveGo (m : MapD) (d : Driver) (os : List Order) : List Stop → List Stop → Pos → Except Fault (List Visit)
  | ahead, [], p => if 0 < p.load then .error ⟨ahead.length, 18⟩ else .ok []
  | ahead, s :: l, p => match tryStop m d os ahead s p with
    | .error e => .error ⟨ahead.length, e⟩
    | .ok v => match driveGo m d os (ahead ++ [s]) l (after os s v) with
      | .error f => .error f
      | .ok vs => .ok (v :: vs)
def driveT (m : MapD) (d : Driver) (os : List Order) (stops : List Stop) : Except Fault (List Visit) := driveGo m d os [] stops ⟨d.lo, d.home, 0⟩
def fitB (m : Option MapD) (d : Driver) (os : List Order) (stops : List Stop) : Bool := decide (driverE m d = 0) && knownO m os && decide (stops.length ≤ 80)
def drive (m : Option MapD) (d : Driver) (os : List Order) (stops : List Stop) : Except Fault (List Visit) := match m with
  | none => .error ⟨0, 1⟩
  | some x => if fitB m d os stops then driveT x d os stops else .error ⟨0, 1⟩
def visR (r : Except Fault (List Visit)) : List Visit := match r with | .ok vs => vs | .error _ => []
def fauR (r : Except Fault (List Visit)) : Fault := match r with | .ok _ => ⟨0, 0⟩ | .error f => f
def good (f : Fault) : Bool := decide (f.why = 0)
def wayGo (m : MapD) (os : List Order) : Int → List Stop → Int
  | _, [] => 0
  | a, s :: l => tm m a (stopSite os s).pl + wayGo m os (stopSite os s).pl l
def way (m : MapD) (d : Driver) (os : List Order) (stops : List Stop) : Int := wayGo m os d.home stops
def cost (m : Option MapD) (d : Driver) (os : List Order) (stops : List Stop) : Int × Bool := match m with
  | none => (0, false)
  | some x => if good (fauR (drive m d os stops)) then (way x d os stops, true) else (0, false)
structure TimedPre (m : MapD) (d : Driver) (os : List Order) (stops : List Stop) : Prop where
  map : MapOk m
  driver : DriverOk m d
  known : knownO (some m) os = true
  few : stops.length ≤ 80
structure WayPre (m : MapD) (d : Driver) (os : List Order) (stops : List Stop) : Prop where
  map : MapOk m
  home : 0 ≤ d.home ∧ d.home < m.n
  known : knownO (some m) os = true
  few : stops.length ≤ 80
  all : ∀ s ∈ stops, (findO os s.order).isSome = true

/-! ### Contracts -/
def find_con : Con := ⟨[.c (.a (.f .order)), .c .i], fun os id => one [.r (SK.enc (.f .order) (fo os id)), .c (.b (findO os id).isSome)]⟩
def find_cs : Cons := []
def find_la : List (Nat × LA) := [(2, ⟨[1, 4, 8, 9], [.i 10]⟩)]
def site_con : Con := ⟨[.r (.f .order), .c .b], fun o b => one [.r (SK.enc (.f .site) (siteOf o b))]⟩
def site_cs : Cons := []
def site_la : List (Nat × LA) := []
def fit_con : Con := ⟨[.q .map 75, .r (.f .driver), .c (.a (.f .order)), .c (.a (.f .stop))], fun m d os ss => ⟨some (MapOkO m), [⟨none, [.c (.b (fitB m d os ss))]⟩]⟩⟩
def fit_cs : Cons := [(43, driver_con), (44, known_con)]
def fit_la : List (Nat × LA) := []
def stands_con : Con := ⟨[.c (.a (.f .stop)), .r (.f .stop)], fun l s => one [.c (.b (stands l s))]⟩
def stands_cs : Cons := []
def stands_la : List (Nat × LA) := [(2, ⟨[3, 7, 8], [.i 9]⟩)]
def wrong_con : Con := ⟨[.c (.a (.f .order)), .c (.a (.f .stop)), .r (.f .stop)], fun os l s => one [.r (SK.enc (.f .order) (fo os s.order)), .c (.i (wrongE os l s))]⟩
def wrong_cs : Cons := [(25, find_con), (53, stands_con)]
def wrong_la : List (Nat × LA) := []
def timed_con : Con := ⟨[.p .map 75, .r (.f .driver), .c (.a (.f .order)), .c (.a (.f .stop))], fun m d os ss => ⟨some (TimedPre m d os ss), [⟨none, [.c (.o .visit 71 (visR (driveT m d os ss))), .r (SK.enc (.f .fault) (fauR (driveT m d os ss)))]⟩]⟩⟩
def timed_cs : Cons := [(45, wrong_con), (26, site_con), (27, time_con), (46, begin_con)]
def timed_la : List (Nat × LA) := [(4, ⟨[0, 2, 3, 5, 9, 28, 29], [.app 10 .visit 71, .i 11, .i 12, .i 13, .i 30]⟩)]
def drive_con : Con := ⟨[.q .map 75, .r (.f .driver), .c (.a (.f .order)), .c (.a (.f .stop))], fun m d os ss => ⟨some (MapOkO m), [⟨none, [.c (.o .visit 71 (visR (drive m d os ss))), .r (SK.enc (.f .fault) (fauR (drive m d os ss)))]⟩]⟩⟩
def drive_cs : Cons := [(35, fit_con), (36, timed_con)]
def drive_la : List (Nat × LA) := []
def good_con : Con := ⟨[.r (.f .fault)], fun f => one [.c (.b (good f))]⟩
def good_cs : Cons := []
def good_la : List (Nat × LA) := []
def rFind_con : Con := ⟨[.c (.a (.f .order)), .c .i], fun os id => one [.c (.i (ixO os id 0))]⟩
def rFind_cs : Cons := []
def rFind_la : List (Nat × LA) := [(2, ⟨[0, 1], [.i 5]⟩)]
def rSite_con : Con := ⟨[.r (.f .order), .r (.f .stop)], fun o s => one [.r (SK.enc (.f .site) (siteOf o s.drop))]⟩
def rSite_cs : Cons := []
def rSite_la : List (Nat × LA) := []
def rHas_con' : Con := ⟨[.c (.a (.f .stop)), .r (.f .stop)], fun l s => one [.c (.b (stands l s))]⟩
def rStands_con : Con := rHas_con'
def rStands_cs : Cons := []
def rStands_la : List (Nat × LA) := [(2, ⟨[0, 3], [.i 5]⟩)]
def rDrive_con : Con := ⟨[.q .map 91, .r (.f .driver), .c (.a (.f .order)), .c (.a (.f .stop))], fun m d os ss => ⟨some (MapOkO m), [⟨none, [.c (.o .visit 71 (visR (drive m d os ss))), .r (SK.enc (.f .fault) (fauR (drive m d os ss)))]⟩]⟩⟩
def rDrive_cs : Cons := [(38, rDriver_con), (39, rKnown_con), (32, rFind_con), (40, rStands_con), (31, rSite_con), (33, rTime_con), (41, served_con)]
def rDrive_la : List (Nat × LA) := [(6, ⟨[0, 2, 3, 5, 9], [.app 10 .visit 71, .i 11, .i 12, .i 13, .i 14]⟩)]
end Go.Eng
