/- Plans copied, stops put in and taken out, in plain words; what the functions tell. -/
import Derived.Test.YtkokggepghghdaaPlanOk2
import Derived.Test.YtkokggepghghdaaSlackOk
set_option linter.unusedVariables false
set_option linter.unusedSimpArgs false
namespace Go.Eng
open Go Go.Proofs
/-- A list of routes that fits into memory. -/
def PlanFits (p : List Route) : Prop := p.length * 40 ≤ 140737488351232 ∧ ∀ r ∈ p, r.stops.length * 16 ≤ 140737488351232
noncomputable def sameP (a b : List Route) : Bool := @decide (a = b) (Classical.propDecidable _)
def begunP (id : Int) (p : List Route) : Bool := p.any fun r => (r.stops.take r.served.toNat).any fun s => decide (s.order = id)
def goneP (p : List Route) (ids : List Int) (id : Int) : Bool := ids.contains id && !begunP id p
def keepS (p : List Route) (ids : List Int) (ss : List Stop) : List Stop := ss.filter fun s => !goneP p ids s.order
def withoutP (p : List Route) (ids : List Int) : List Route := p.map fun r => ⟨r.driver, r.served, keepS p ids r.stops⟩
def spotOk (r : Route) (s : Spot) : Bool := decide (r.stops.length ≤ 78) && decide (r.served ≤ s.pick) && decide (s.pick ≤ s.drop) && decide (s.drop ≤ r.stops.length)
def withAt (id : Int) (s : Spot) : List Route → Option (List Route)
  | [] => none
  | r :: l => if r.driver = s.driver then (if spotOk r s then some (⟨r.driver, r.served, putS r.stops id s.pick s.drop⟩ :: l) else none) else match withAt id s l with | none => none | some l' => some (r :: l')
noncomputable def withP (p : List Route) (id : Int) (s : Spot) : Option (List Route) := if rightP p && decide (1 ≤ id) && decide (id ≤ 1000000) && (findP id p).isNone then withAt id s p else none
/-! ### Contracts -/
def kcopy_con : Con := ⟨[.c (.a .route)], fun p => ⟨some (PlanFits p), [⟨none, [.c (.od .route 40 p)]⟩]⟩⟩
def kcopy_cs : Cons := []
def kcopy_la : List (Nat × LA) := [(3, ⟨[0], [.appd 3 .route 40, .i 4]⟩)]
def pcopy_con : Con := ⟨[.c (.a .route)], fun p => ⟨some (PlanFits p), [⟨none, [.c (.od .route 40 p)]⟩]⟩⟩
def pcopy_cs : Cons := []
def pcopy_la : List (Nat × LA) := [(3, ⟨[6, 7], [.appd 3 .route 40, .i 8]⟩)]
noncomputable def kroutes_con : Con := ⟨[.c (.a .route), .c (.a .route)], fun a b => one [.c (.b (sameP a b))]⟩
noncomputable def kroutes_cs : Cons := [(48, sameS_con)]
def kroutes_la : List (Nat × LA) := [(4, ⟨[0, 1], [.i 5]⟩)]
def pbegun_con : Con := ⟨[.c (.a .route), .c .i], fun p id => one [.c (.b (begunP id p))]⟩
def pbegun_cs : Cons := []
def pbegun_la : List (Nat × LA) := [(2, ⟨[1, 9, 10], [.i 11]⟩), (5, ⟨[1, 6, 9, 10, 11, 16, 17], [.i 18]⟩)]
def pwithout_con : Con := ⟨[.c (.a .route), .c (.a (.f .int))], fun p ids => ⟨some (PlanFits p), [⟨none, [.c (.od .route 40 (withoutP p ids))]⟩]⟩⟩
def pwithout_cs : Cons := [(53, pbegun_con)]
def pwithout_la : List (Nat × LA) := [(3, ⟨[0, 5, 15, 16], [.i 17, .mp 5 .int]⟩), (10, ⟨[5, 30, 31], [.appd 8 .route 40, .i 32]⟩), (14, ⟨[5, 8, 10, 30, 31, 32, 37, 38], [.app 11 .stop 36, .i 39]⟩)]
noncomputable def pwith_con : Con := ⟨[.c (.a .route), .c .i, .r (.f .spot)], fun p id s => one [.c (.od .route 40 ((withP p id s).getD [])), .c (.b (withP p id s).isSome)]⟩
noncomputable def pwith_cs : Cons := [(25, pfind_con), (26, pright_con), (51, pcopy_con), (52, sput_con)]
def pwith_la : List (Nat × LA) := [(5, ⟨[0, 1, 5, 33, 34], [.i 35]⟩)]
end Go.Eng
