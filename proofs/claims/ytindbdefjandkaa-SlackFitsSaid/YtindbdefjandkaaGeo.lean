/- What the functions of maps tell. -/
import Derived.Test.YtindbdefjandkaaMap
set_option linter.unusedVariables false
set_option linter.unusedSimpArgs false
namespace Go.Eng
open Go Go.Proofs

def new_con : Con := ⟨[.c .i, .c (.a (.f .int))], fun n ts => ⟨none, [⟨some (newE n ts ≠ 0), [.c .np, .c (.i (newE n ts))]⟩, ⟨some (newE n ts = 0), [.p true 75 [.i n, .o .int 3 ts], .c (.i 0)]⟩]⟩⟩
/-- .. of numbers that are known. -/
def newC_con : Con := ⟨[.c .i, .c (.a (.f .int))], fun n ts => ⟨none, [bif decide (newE n ts = 0) then ⟨none, [.p true 75 [.i n, .o .int 3 ts], .c (.i 0)]⟩ else ⟨none, [.c .np, .c (.i (newE n ts))]⟩]⟩⟩
def new_cs : Cons := []
def new_la : List (Nat × LA) := [(6, ⟨[0, 1, 21, 22], [.i 23]⟩), (12, ⟨[0, 1, 34], [.i 35]⟩)]
def rNew_con : Con := ⟨[.c .i, .c (.a (.f .int))], fun n ts => ⟨none, [⟨some (newE n ts ≠ 0), [.c .np, .c (.i (newE n ts))]⟩, ⟨some (newE n ts = 0), [.p true 91 [.i n, .o .int 3 ts], .c (.i 0)]⟩]⟩⟩
def rNew_cs : Cons := []
def rNew_la : List (Nat × LA) := [(6, ⟨[0, 1], [.i 6]⟩), (11, ⟨[0, 1], [.i 7]⟩)]
def time_con : Con := ⟨[.q .map 75, .c .i, .c .i], fun m a b => ⟨some (MapOkO m), [⟨none, [.c (.i (mtime m a b).1), .c (.b (mtime m a b).2)]⟩]⟩⟩
def time_cs : Cons := []
def time_la : List (Nat × LA) := []
def rTime_con : Con := ⟨[.p .map 91, .c .i, .c .i], fun m a b => ⟨some (MapOk m), [⟨none, [.c (.i (mtime (some m) a b).1), .c (.b (mtime (some m) a b).2)]⟩]⟩⟩
def rTime_cs : Cons := []
def rTime_la : List (Nat × LA) := []
def places_con : Con := ⟨[.q .map 75], fun m => one [.c (.i (places m))]⟩
def places_cs : Cons := []
def places_la : List (Nat × LA) := []
def times_con : Con := ⟨[.q .map 75], fun m => ⟨some (MapOkO m), [⟨none, [.c (.o .int 3 (times m))]⟩]⟩⟩
def times_cs : Cons := []
def times_la : List (Nat × LA) := []
def closed_con : Con := ⟨[.q .map 75], fun m => ⟨some (MapOkO m), [⟨none, [match m with | none => .c .np | some m => .p true 75 [.i m.n, .o .int 3 (fw m.n.toNat m.l)]]⟩]⟩⟩
def closed_la : List (Nat × LA) := [(5, ⟨[0, 3, 20], [.i 21, .car 3 1 .int]⟩), (8, ⟨[0, 3, 4, 20, 21, 27], [.i 28, .car 3 1 .int]⟩), (11, ⟨[0, 3, 4, 5, 20, 21, 27, 28, 34], [.i 35, .car 3 1 .int]⟩)]
noncomputable def even_con : Con := ⟨[.q .map 75], fun m => ⟨some (MapOkO m), [⟨none, [.c (.b (even m))]⟩]⟩⟩
def even_cs : Cons := []
def even_la : List (Nat × LA) := [(4, ⟨[0, 11], [.i 12]⟩), (7, ⟨[0, 3, 11, 12, 18], [.i 19]⟩), (10, ⟨[0, 3, 4, 11, 12, 18, 19, 25], [.i 26]⟩)]
end Go.Eng
