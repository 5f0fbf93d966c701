/- Books of memory: lists with room, compared. What is told of them. -/
import Derived.Test.YtindbdefjandkaaLists
set_option linter.unusedVariables false
set_option linter.unusedSimpArgs false
namespace Go.Eng
open Go Go.Proofs
noncomputable def sameS_con : Con := ⟨[.c (.a (.f .stop)), .c (.a (.f .stop))], fun xs ys => one [.c (.b (same xs ys))]⟩
def sameS_cs : Cons := []
def sameS_la : List (Nat × LA) := [(4, ⟨[0, 1], [.i 5]⟩)]
def roomyS_con : Con := ⟨[.c (.a (.f .stop)), .r (.f .stop)], fun xs m => ⟨some (xs.length * 16 ≤ 140737488351232), [⟨none, [.c (.o .stop 35 (roomy xs m))]⟩]⟩⟩
def roomyS_cs : Cons := []
def roomyS_la : List (Nat × LA) := [(4, ⟨[3, 5], [.i 6, .arr 5 .stop]⟩)]
noncomputable def intactS_con : Con := ⟨[.c (.a (.f .stop)), .c (.a (.f .stop)), .r (.f .stop)], fun f xs m => one [.c (.b (same f (roomy xs m)))]⟩
noncomputable def intactS_cs : Cons := [(13, sameS_con)]
def intactS_la : List (Nat × LA) := [(4, ⟨[0, 5], [.i 7]⟩)]
noncomputable def sameI_con : Con := ⟨[.c (.a (.f .int)), .c (.a (.f .int))], fun xs ys => one [.c (.b (same xs ys))]⟩
def sameI_cs : Cons := []
def sameI_la : List (Nat × LA) := [(4, ⟨[0, 1], [.i 5]⟩)]
end Go.Eng
