/- Books of memory: lists with room, compared. What is told of them. -/
import Derived.Test.YtadblcopmoiaaaaLists
set_option linter.unusedVariables false
set_option linter.unusedSimpArgs false
namespace Go.Eng
open Go Go.Proofs
noncomputable def sameO_con : Con := ⟨[.c (.a (.f .order)), .c (.a (.f .order))], fun xs ys => one [.c (.b (same xs ys))]⟩
def sameO_cs : Cons := []
def sameO_la : List (Nat × LA) := [(4, ⟨[0, 1], [.i 5]⟩)]
def roomyO_con : Con := ⟨[.c (.a (.f .order)), .r (.f .order)], fun xs m => ⟨some (xs.length * 80 ≤ 140737488351232), [⟨none, [.c (.o .order 31 (roomy xs m))]⟩]⟩⟩
def roomyO_cs : Cons := []
def roomyO_la : List (Nat × LA) := [(4, ⟨[3, 5], [.i 6, .arr 5 .order]⟩)]
noncomputable def intactO_con : Con := ⟨[.c (.a (.f .order)), .c (.a (.f .order)), .r (.f .order)], fun f xs m => one [.c (.b (same f (roomy xs m)))]⟩
noncomputable def intactO_cs : Cons := [(36, sameO_con)]
def intactO_la : List (Nat × LA) := [(4, ⟨[0, 5], [.i 7]⟩)]
noncomputable def sameS_con : Con := ⟨[.c (.a (.f .stop)), .c (.a (.f .stop))], fun xs ys => one [.c (.b (same xs ys))]⟩
def sameS_cs : Cons := []
def sameS_la : List (Nat × LA) := [(4, ⟨[0, 1], [.i 5]⟩)]
def roomyS_con : Con := ⟨[.c (.a (.f .stop)), .r (.f .stop)], fun xs m => ⟨some (xs.length * 16 ≤ 140737488351232), [⟨none, [.c (.o .stop 35 (roomy xs m))]⟩]⟩⟩
def roomyS_cs : Cons := []
def roomyS_la : List (Nat × LA) := [(4, ⟨[3, 5], [.i 6, .arr 5 .stop]⟩)]
noncomputable def intactS_con : Con := ⟨[.c (.a (.f .stop)), .c (.a (.f .stop)), .r (.f .stop)], fun f xs m => one [.c (.b (same f (roomy xs m)))]⟩
noncomputable def intactS_cs : Cons := [(35, sameS_con)]
def intactS_la : List (Nat × LA) := [(4, ⟨[0, 5], [.i 7]⟩)]
noncomputable def sameV_con : Con := ⟨[.c (.a (.f .visit)), .c (.a (.f .visit))], fun xs ys => one [.c (.b (same xs ys))]⟩
def sameV_cs : Cons := []
def sameV_la : List (Nat × LA) := [(4, ⟨[0, 1], [.i 5]⟩)]
end Go.Eng
