/- How late stops may be begun; an order put between stops: in plain words; what the functions tell. -/
import Derived.Test.YtindbdefjandkaaRouteOk2
set_option linter.unusedVariables false
set_option linter.unusedSimpArgs false
namespace Go.Eng
open Go Go.Proofs
def untilOf (m : MapD) (d : Driver) (os : List Order) (s : Stop) : List Stop → List Int → Int
  | n :: _, t :: _ => min d.hi (t - tm m (stopSite os s).pl (stopSite os n).pl)
  | _, _ => d.hi
def latest (m : MapD) (d : Driver) (os : List Order) : List Stop → List Int
  | [] => []
  | s :: l => (last_ (stopSite os s).win (stopSite os s).sv (untilOf m d os s l (latest m d os l))).1 :: latest m d os l
def latR (m : Option MapD) (d : Driver) (os : List Order) (ss : List Stop) : List Int := match m with
  | none => []
  | some x => if good (fauR (drive m d os ss)) then latest x d os ss else []
def putOk (ss : List Stop) (i j : Int) : Bool := decide (0 ≤ i) && decide (i ≤ j) && decide (j ≤ ss.length)
def putS (ss : List Stop) (id i j : Int) : List Stop := if putOk ss i j then ss.take i.toNat ++ [⟨id, false⟩] ++ (ss.drop i.toNat).take (j.toNat - i.toNat) ++ [⟨id, true⟩] ++ ss.drop j.toNat else []
def fits (m : Option MapD) (d : Driver) (os : List Order) (ss : List Stop) (o : Order) (i j : Int) : Bool :=
  putOk ss i j && good (fauR (drive m d os ss)) && (findO os o.id).isNone && good (fauR (drive m d (os ++ [o]) (putS ss o.id i j)))

/-! ### Contracts -/
def slat_con : Con := ⟨[.q .map 75, .r (.f .driver), .c (.a (.f .order)), .c (.a (.f .stop))], fun m d os ss => ⟨some (MapOkO m), [⟨none, [.c (.o .int 3 (latR m d os ss)), .c (.b (good (fauR (drive m d os ss))))]⟩]⟩⟩
def slat_cs : Cons := [(21, drive_con), (22, good_con), (25, find_con), (26, site_con), (27, time_con), (28, last_con)]
def slat_la : List (Nat × LA) := [(7, ⟨[0, 2, 3, 5, 12], [.i 13, .i 14, .i 15, .arr 12 .int]⟩)]
def sput_con : Con := ⟨[.c (.a (.f .stop)), .c .i, .c .i, .c .i], fun ss id i j => ⟨some (ss.length * 16 ≤ 140737488351232), [⟨none, [.c (.o .stop 35 (putS ss id i j))]⟩]⟩⟩
def sput_cs : Cons := []
def sput_la : List (Nat × LA) := []
def sfits_con : Con := ⟨[.q .map 75, .r (.f .driver), .c (.a (.f .order)), .c (.a (.f .stop)), .r (.f .order), .c .i, .c .i], fun m d os ss o i j => ⟨some (MapOkO m ∧ os.length * 80 ≤ 140737488351232 ∧ ss.length * 16 ≤ 140737488351232), [⟨none, [.c (.b (fits m d os ss o i j))]⟩]⟩⟩
def sfits_cs : Cons := [(21, drive_con), (25, find_con), (22, good_con), (12, sput_con)]
def sfits_la : List (Nat × LA) := []
def rSlat_con : Con := ⟨[.q .map 91, .r (.f .driver), .c (.a (.f .order)), .c (.a (.f .stop))], fun m d os ss => ⟨some (MapOkO m), [⟨none, [.c (.o .int 3 (latR m d os ss)), .c (.b (good (fauR (drive m d os ss))))]⟩]⟩⟩
def rSlat_cs : Cons := [(30, rDrive_con), (32, rFind_con), (31, rSite_con), (33, rTime_con), (34, rLast_con)]
def rSlat_la : List (Nat × LA) := [(6, ⟨[0, 2, 3, 5, 12], [.i 13, .arr 12 .int]⟩)]
def rSput_con : Con := ⟨[.c (.a (.f .stop)), .c .i, .c .i, .c .i], fun ss id i j => ⟨some (ss.length * 16 ≤ 140737488351232 ∧ putOk ss i j = true), [⟨none, [.c (.o .stop 35 (putS ss id i j))]⟩]⟩⟩
def rSput_cs : Cons := []
def rSput_la : List (Nat × LA) := [(3, ⟨[0, 1, 2, 3], [.app 9 .stop 35, .i 10]⟩)]
def rSfits_con : Con := ⟨[.q .map 91, .r (.f .driver), .c (.a (.f .order)), .c (.a (.f .stop)), .r (.f .order), .c .i, .c .i], fun m d os ss o i j => ⟨some (MapOkO m ∧ os.length * 80 ≤ 140737488351232 ∧ ss.length * 16 ≤ 140737488351232), [⟨none, [.c (.b (fits m d os ss o i j))]⟩]⟩⟩
def rSfits_cs : Cons := [(32, rFind_con), (30, rDrive_con), (19, rSput_con)]
def rSfits_la : List (Nat × LA) := []
end Go.Eng
