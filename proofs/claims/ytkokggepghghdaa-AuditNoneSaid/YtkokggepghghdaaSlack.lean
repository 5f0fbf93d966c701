/- How late stops may be begun; an order put between stops: in plain words; what the functions tell. -/
import Derived.Test.YtkokggepghghdaaRouteOk2
set_option linter.unusedVariables false
set_option linter.unusedSimpArgs false
namespace Go.Eng
open Go Go.Proofs
def untilOf (m : MapD) (d : Driver) (os : List Order) (s : Stop) : List Stop → List Int → Int
  | n :: _, t :: _ => min d.hi (t - tm m (stopSite os s).pl (stopSite os n).pl)
  | _, _ => d.hi
def latest (m : MapD) (d : Driver) (os : List Order) : List Stop → List Int
  | [] => []
  | s :: l => (last_ (stopSite os s).win (stopSite os s).sv (untilOf m d os s l (latest m d os l))).1 :: latest m d os l
def latR (m : Option MapD) (d : Driver) (os : List Order) (ss : List Stop) : List Int := match m with
  | none => []
  | some x => if good (fauR (drive m d os ss)) then latest x d os ss else []
def putOk (ss : List Stop) (i j : Int) : Bool := decide (0 ≤ i) && decide (i ≤ j) && decide (j ≤ ss.length)
def putS (ss : List Stop) (id i j : Int) : List Stop := if putOk ss i j then ss.take i.toNat ++ [⟨id, false⟩] ++ (ss.drop i.toNat).take (j.toNat - i.toNat) ++ [⟨id, true⟩] ++ ss.drop j.toNat else []
def fits (m : Option MapD) (d : Driver) (os : List Order) (ss : List Stop) (o : Order) (i j : Int) : Bool :=
  putOk ss i j && good (fauR (drive m d os ss)) && (findO os o.id).isNone && good (fauR (drive m d (os ++ [o]) (putS ss o.id i j)))

/-! ### Contracts -/
def sput_con : Con := ⟨[.c (.a (.f .stop)), .c .i, .c .i, .c .i], fun ss id i j => ⟨some (ss.length * 16 ≤ 140737488351232), [⟨none, [.c (.o .stop 36 (putS ss id i j))]⟩]⟩⟩
def sput_cs : Cons := []
def sput_la : List (Nat × LA) := []
end Go.Eng
