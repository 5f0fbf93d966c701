/- What the functions of windows tell: the program's, the document's own. -/
import Derived.Test.YtindbdefjandkaaLists
set_option linter.unusedVariables false
set_option linter.unusedSimpArgs false
namespace Go.Eng
open Go Go.Proofs
def right (w : Win) : Bool := decide (0 ≤ w.lo) && decide (w.lo ≤ w.hi) && decide (w.hi ≤ 1000000)
def has (w : Win) (t : Int) : Bool := right w && decide (w.lo ≤ t) && decide (t ≤ w.hi)
def begin_ (w : Win) (t : Int) : Int × Bool := if right w && decide (t ≤ w.hi) then (max t w.lo, true) else (0, false)
def last_ (w : Win) (s u : Int) : Int × Bool := if right w && decide (0 ≤ s) && decide (0 ≤ u) && decide (w.lo ≤ wrap (u - s)) then (min w.hi (wrap (u - s)), true) else (0, false)
def lastRef (w : Win) (s u : Int) : Int × Bool := if right w && decide (0 ≤ s) && decide (s ≤ u) then (if w.lo ≤ min w.hi (wrap (u - s)) then (min w.hi (wrap (u - s)), true) else (0, false)) else (0, false)
def right_con : Con := ⟨[.r (.f .win)], fun w => one [.c (.b (right w))]⟩
def has_con : Con := ⟨[.r (.f .win), .c .i], fun w t => one [.c (.b (has w t))]⟩
def begin_con : Con := ⟨[.r (.f .win), .c .i], fun w t => one [.c (.i (begin_ w t).1), .c (.b (begin_ w t).2)]⟩
def last_con : Con := ⟨[.r (.f .win), .c .i, .c .i], fun w s u => one [.c (.i (last_ w s u).1), .c (.b (last_ w s u).2)]⟩
def rLast_con : Con := ⟨[.r (.f .win), .c .i, .c .i], fun w s u => one [.c (.i (lastRef w s u).1), .c (.b (lastRef w s u).2)]⟩
def right_cs : Cons := []
def right_la : List (Nat × LA) := []
def rRight_con : Con := right_con
def rRight_cs : Cons := []
def rRight_la : List (Nat × LA) := []
def has_cs : Cons := [(37, right_con)]
def has_la : List (Nat × LA) := []
def begin_cs : Cons := [(37, right_con)]
def begin_la : List (Nat × LA) := []
def rBegin_con : Con := begin_con
def rBegin_cs : Cons := [(42, right_con)]
def rBegin_la : List (Nat × LA) := []
def last_cs : Cons := [(37, right_con)]
def last_la : List (Nat × LA) := []
def rLast_cs : Cons := [(42, right_con)]
def rLast_la : List (Nat × LA) := []
end Go.Eng
