/- Books of memory: lists with room, compared. What is told of them. -/
import Derived.Test.YtkokggepghghdaaLists
set_option linter.unusedVariables false
set_option linter.unusedSimpArgs false
namespace Go.Eng
open Go Go.Proofs
noncomputable def sameS_con : Con := ⟨[.c (.a (.f .stop)), .c (.a (.f .stop))], fun xs ys => one [.c (.b (same xs ys))]⟩
def sameS_cs : Cons := []
def sameS_la : List (Nat × LA) := [(4, ⟨[0, 1], [.i 5]⟩)]
noncomputable def sameV_con : Con := ⟨[.c (.a (.f .visit)), .c (.a (.f .visit))], fun xs ys => one [.c (.b (same xs ys))]⟩
def sameV_cs : Cons := []
def sameV_la : List (Nat × LA) := [(4, ⟨[0, 1], [.i 5]⟩)]
noncomputable def sameT_con : Con := ⟨[.c (.a (.f .trouble)), .c (.a (.f .trouble))], fun xs ys => one [.c (.b (same xs ys))]⟩
def sameT_cs : Cons := []
def sameT_la : List (Nat × LA) := [(4, ⟨[0, 1], [.i 5]⟩)]
end Go.Eng
