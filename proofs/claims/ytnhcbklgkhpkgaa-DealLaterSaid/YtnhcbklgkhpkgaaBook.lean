/- Books of memory: lists with room, compared. What is told of them. -/
import Derived.Test.YtnhcbklgkhpkgaaLists
set_option linter.unusedVariables false
set_option linter.unusedSimpArgs false
namespace Go.Eng
open Go Go.Proofs
noncomputable def sameO_con : Con := ⟨[.c (.a (.f .order)), .c (.a (.f .order))], fun xs ys => one [.c (.b (same xs ys))]⟩
def sameO_cs : Cons := []
def sameO_la : List (Nat × LA) := [(4, ⟨[0, 1], [.i 5]⟩)]
def roomyO_con : Con := ⟨[.c (.a (.f .order)), .r (.f .order)], fun xs m => ⟨some (xs.length * 80 ≤ 140737488351232), [⟨none, [.c (.o .order 31 (roomy xs m))]⟩]⟩⟩
def roomyO_cs : Cons := []
def roomyO_la : List (Nat × LA) := [(4, ⟨[3, 5], [.i 6, .arr 5 .order]⟩)]
noncomputable def intactO_con : Con := ⟨[.c (.a (.f .order)), .c (.a (.f .order)), .r (.f .order)], fun f xs m => one [.c (.b (same f (roomy xs m)))]⟩
noncomputable def intactO_cs : Cons := [(32, sameO_con)]
def intactO_la : List (Nat × LA) := [(4, ⟨[0, 5], [.i 7]⟩)]
end Go.Eng
