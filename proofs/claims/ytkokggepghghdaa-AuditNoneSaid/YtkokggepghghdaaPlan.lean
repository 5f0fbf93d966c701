/- Plans, in plain words: what is right about one, where an order stands, which driver's it is; what the functions tell. -/
import Derived.Test.YtkokggepghghdaaRouteOk2
import Derived.Test.YtkokggepghghdaaWithinOk
set_option linter.unusedVariables false
set_option linter.unusedSimpArgs false
namespace Go.Eng
open Go Go.Proofs
deriving instance DecidableEq for Stop
/-- The number of the first such stop; -1: there is none. -/
def whereS (s : Stop) : List Stop → Int
  | [] => -1
  | x :: l => if x = s then 0 else if whereS s l < 0 then -1 else whereS s l + 1
def okS : List Stop → List Stop → Prop
  | _, [] => True
  | all, s :: l => (1 ≤ s.order ∧ s.order ≤ 1000000 ∧ s ∉ all) ∧ okS (all ++ [s]) l
def okR1 (last : Int) (r : Route) : Prop := last < r.driver ∧ r.driver ≤ 1000000 ∧ r.stops.length ≤ 80 ∧ 0 ≤ r.served ∧ r.served ≤ r.stops.length
def okR : Int → List Stop → List Route → Prop
  | _, _, [] => True
  | last, all, r :: l => okR1 last r ∧ okS all r.stops ∧ okR r.driver (all ++ r.stops) l
def RightP (p : List Route) : Prop := p.length ≤ 8 ∧ okR 0 [] p
noncomputable def rightP (p : List Route) : Bool := @decide (RightP p) (Classical.propDecidable _)
def spotAt (r : Route) (id : Int) : Spot := ⟨r.driver, whereS ⟨id, false⟩ r.stops, whereS ⟨id, true⟩ r.stops, 0⟩
def findP (id : Int) : List Route → Option Spot
  | [] => none
  | r :: l => if 0 ≤ (spotAt r id).pick ∨ 0 ≤ (spotAt r id).drop then some (spotAt r id) else findP id l
def findD (id : Int) : List Driver → Option Driver
  | [] => none
  | d :: l => if d.id = id then some d else findD id l
def okD (m : Option MapD) (ds : List Driver) (k : Nat) : Bool := decide (driverE m (ds.getD k (FK.zero .driver)) = 0) && (findD (ds.getD k (FK.zero .driver)).id (ds.take k)).isNone
noncomputable def wellP (m : Option MapD) (ds : List Driver) (os : List Order) (p : List Route) : Bool :=
  m.isSome && decide (ds.length ≤ 8) && knownO m os && rightP p && (List.range ds.length).all (okD m ds)
def numberP (id : Int) : List Route → Int
  | [] => -1
  | r :: l => if r.driver = id then 0 else if numberP id l < 0 then -1 else numberP id l + 1
def routed (id : Int) : List Route → Option Route
  | [] => none
  | r :: l => if r.driver = id then some r else routed id l
noncomputable def keptR (old : List Route) (r : Route) : Prop := r.served = ((routed r.driver old).getD ⟨0, 0, []⟩).served ∧ r.stops.take r.served.toNat = ((routed r.driver old).getD ⟨0, 0, []⟩).stops.take r.served.toNat
def KeptP (old new : List Route) : Prop := RightP old ∧ RightP new ∧ (∀ r ∈ old, (routed r.driver new).isSome = true) ∧ (∀ r ∈ new, keptR old r)
noncomputable def keptP (old new : List Route) : Bool := @decide (KeptP old new) (Classical.propDecidable _)
/-! ### Contracts -/
def sidx_con : Con := ⟨[.c (.a (.f .stop)), .r (.f .stop)], fun l s => one [.c (.i (whereS s l))]⟩
def sidx_cs : Cons := []
def sidx_la : List (Nat × LA) := [(2, ⟨[0, 3, 7], [.i 8]⟩)]
def rWhere_con : Con := ⟨[.c (.a (.f .stop)), .r (.f .stop)], fun l s => one [.c (.i (whereS s l))]⟩
def rWhere_cs : Cons := []
def rWhere_la : List (Nat × LA) := [(2, ⟨[0, 3], [.i 5]⟩)]
noncomputable def pright_con : Con := ⟨[.c (.a .route)], fun p => one [.c (.b (rightP p))]⟩
def pright_cs : Cons := []
def pright_la : List (Nat × LA) := [(6, ⟨[4, 13, 14], [.i 3, .i 15, .mp 4 .stop]⟩), (12, ⟨[3, 4, 13, 14, 15, 50, 51], [.i 52, .mp 4 .stop]⟩)]
noncomputable def rPright_con : Con := ⟨[.c (.a .route)], fun p => one [.c (.b (rightP p))]⟩
def rPright_cs : Cons := []
def rPright_la : List (Nat × LA) := [(5, ⟨[0], [.app 3 .stop 36, .i 4]⟩), (11, ⟨[0, 4, 5], [.app 3 .stop 36, .i 6]⟩), (17, ⟨[0, 3, 4, 5, 6, 7], [.i 8]⟩)]
def pfind_con : Con := ⟨[.c (.a .route), .c .i], fun p id => one [.r (SK.enc (.f .spot) ((findP id p).getD (FK.zero .spot))), .c (.b (findP id p).isSome)]⟩
def pfind_cs : Cons := [(50, sidx_con)]
def pfind_la : List (Nat × LA) := [(2, ⟨[1, 4, 9, 10], [.i 11]⟩)]
def rPfind_con : Con := ⟨[.c (.a .route), .c .i], fun p id => one [.r (SK.enc (.f .spot) ((findP id p).getD (FK.zero .spot))), .c (.b (findP id p).isSome)]⟩
def rPfind_cs : Cons := [(68, rWhere_con)]
def rPfind_la : List (Nat × LA) := [(2, ⟨[0, 1, 4], [.i 6]⟩)]
def cdriver_con : Con := ⟨[.c (.a (.f .driver)), .c .i], fun ds id => one [.r (SK.enc (.f .driver) ((findD id ds).getD (FK.zero .driver))), .c (.b (findD id ds).isSome)]⟩
def cdriver_cs : Cons := []
def cdriver_la : List (Nat × LA) := [(2, ⟨[1, 4, 8, 9], [.i 10]⟩)]
def rCdriver_con : Con := ⟨[.c (.a (.f .driver)), .c .i], fun ds id => one [.r (SK.enc (.f .driver) ((findD id ds).getD (FK.zero .driver))), .c (.b (findD id ds).isSome)]⟩
def rCdriver_cs : Cons := []
def rCdriver_la : List (Nat × LA) := [(2, ⟨[0, 1, 4], [.i 6]⟩)]
noncomputable def ctog_con : Con := ⟨[.q .map 91, .c (.a (.f .driver)), .c (.a (.f .order)), .c (.a .route)], fun m ds os p => ⟨some (MapOkO m), [⟨none, [.c (.b (wellP m ds os p))]⟩]⟩⟩
noncomputable def ctog_cs : Cons := [(59, known_con), (26, pright_con), (40, cdriver_con), (60, driver_con)]
def ctog_la : List (Nat × LA) := [(4, ⟨[0, 1, 31, 32], [.i 33]⟩)]
noncomputable def rWell_con : Con := ⟨[.q .map 125, .c (.a (.f .driver)), .c (.a (.f .order)), .c (.a .route)], fun m ds os p => ⟨some (MapOkO m), [⟨none, [.c (.b (wellP m ds os p))]⟩]⟩⟩
noncomputable def rWell_cs : Cons := [(65, rKnown_con), (24, rPright_con), (66, rDriver_con)]
def rWell_la : List (Nat × LA) := [(4, ⟨[0, 1], [.i 9]⟩), (9, ⟨[0, 1, 9], [.i 10]⟩)]
def rNumber_con : Con := ⟨[.c (.a .route), .c .i], fun p id => one [.c (.i (numberP id p))]⟩
def rNumber_cs : Cons := []
def rNumber_la : List (Nat × LA) := [(2, ⟨[0, 1], [.i 5]⟩)]
noncomputable def akept_con : Con := ⟨[.c (.a .route), .c (.a .route)], fun a b => one [.c (.b (keptP a b))]⟩
noncomputable def akept_cs : Cons := [(26, pright_con)]
noncomputable def akept_in : Inls := [(42, ⟨Try.f42, [(2, ⟨[1, 4, 8, 9], [.i 10]⟩)]⟩)]
def akept_la : List (Nat × LA) := [(4, ⟨[0, 1, 22, 23], [.i 24]⟩), (11, ⟨[0, 38, 39], [.i 40]⟩), (17, ⟨[0, 10, 11, 38, 39, 40, 57], [.i 58]⟩)]
noncomputable def rAkept_con : Con := ⟨[.c (.a .route), .c (.a .route)], fun a b => one [.c (.b (keptP a b))]⟩
noncomputable def rAkept_cs : Cons := [(24, rPright_con), (49, rNumber_con)]
def rAkept_la : List (Nat × LA) := [(4, ⟨[0, 1], [.i 5]⟩), (9, ⟨[0, 1], [.i 6]⟩), (18, ⟨[0, 1, 6, 7], [.i 8]⟩)]
end Go.Eng
