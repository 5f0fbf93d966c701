/- Books of memory: lists with room, compared. What is told of them. -/
import Derived.Test.YtidneanbjijjjaaLists
set_option linter.unusedVariables false
set_option linter.unusedSimpArgs false
namespace Go.Eng
open Go Go.Proofs
noncomputable def sameW_con : Con := ⟨[.c (.a (.f .win)), .c (.a (.f .win))], fun xs ys => one [.c (.b (same xs ys))]⟩
def sameW_cs : Cons := []
def sameW_la : List (Nat × LA) := [(4, ⟨[0, 1], [.i 5]⟩)]
def roomyW_con : Con := ⟨[.c (.a (.f .win)), .r (.f .win)], fun xs m => ⟨some (xs.length * 16 ≤ 140737488351232), [⟨none, [.c (.o .win 23 (roomy xs m))]⟩]⟩⟩
def roomyW_cs : Cons := []
def roomyW_la : List (Nat × LA) := [(4, ⟨[3, 5], [.i 6, .arr 5 .win]⟩)]
noncomputable def intactW_con : Con := ⟨[.c (.a (.f .win)), .c (.a (.f .win)), .r (.f .win)], fun f xs m => one [.c (.b (same f (roomy xs m)))]⟩
noncomputable def intactW_cs : Cons := [(48, sameW_con)]
def intactW_la : List (Nat × LA) := [(4, ⟨[0, 5], [.i 7]⟩)]
noncomputable def sameI_con : Con := ⟨[.c (.a (.f .int)), .c (.a (.f .int))], fun xs ys => one [.c (.b (same xs ys))]⟩
def sameI_cs : Cons := []
def sameI_la : List (Nat × LA) := [(4, ⟨[0, 1], [.i 5]⟩)]
def roomyI_con : Con := ⟨[.c (.a (.f .int)), .c .i], fun xs m => ⟨some (xs.length * 8 ≤ 140737488351232), [⟨none, [.c (.o .int 3 (roomy xs m))]⟩]⟩⟩
def roomyI_cs : Cons := []
def roomyI_la : List (Nat × LA) := [(4, ⟨[1, 5], [.i 6, .arr 5 .int]⟩)]
noncomputable def intactI_con : Con := ⟨[.c (.a (.f .int)), .c (.a (.f .int)), .c .i], fun f xs m => one [.c (.b (same f (roomy xs m)))]⟩
noncomputable def intactI_cs : Cons := [(34, sameI_con)]
def intactI_la : List (Nat × LA) := [(4, ⟨[0, 2], [.i 7]⟩)]
end Go.Eng
