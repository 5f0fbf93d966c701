/- What the document's functions of maps tell; two maps side by side. -/
import Derived.Test.YtidneanbjijjjaaClosure
import Derived.Test.YtidneanbjijjjaaBookOk
set_option linter.unusedVariables false
set_option linter.unusedSimpArgs false
namespace Go.Eng
open Go Go.Proofs
def rClosed_con : Con := ⟨[.p .map 75], fun m => ⟨some (MapOk m), [⟨none, [.p true 75 [.i m.n, .o .int 3 (fw m.n.toNat m.l)]]⟩]⟩⟩
def rClosed_cs : Cons := []
def rClosed_la : List (Nat × LA) := [(3, ⟨[0, 3], [.b 4, .car 3 1 .int]⟩), (6, ⟨[0, 3], [.b 4, .i 5, .car 3 1 .int]⟩), (9, ⟨[0, 3, 5], [.b 4, .i 6, .car 3 1 .int]⟩), (12, ⟨[0, 3, 5, 6], [.b 4, .i 7, .car 3 1 .int]⟩)]
noncomputable def rEven_con : Con := ⟨[.p .map 75], fun m => ⟨some (MapOk m), [⟨none, [.c (.b (even (some m)))]⟩]⟩⟩
def rEven_cs : Cons := []
def rEven_la : List (Nat × LA) := [(2, ⟨[0], [.i 3]⟩), (5, ⟨[0, 3], [.i 4]⟩), (8, ⟨[0, 3, 4], [.i 5]⟩)]
def both_con : Con := ⟨[.c .i, .c (.a (.f .int))], fun n ts => ⟨none, [⟨some (newE n ts ≠ 0), [.c .np, .c .np, .c (.b true)]⟩, ⟨some (newE n ts = 0), [.p true 73 [.i n, .o .int 3 ts], .p true 75 [.i n, .o .int 3 ts], .c (.b true)]⟩]⟩⟩
def both_cs : Cons := [(29, new_con), (37, rNew_con)]
def both_la : List (Nat × LA) := []
noncomputable def alike_con : Con := ⟨[.q .map 73, .p .map 75], fun m w => ⟨some (MapOkO m), [⟨none, [.c (.b (decide (places m = w.n) && same (times m) w.l))]⟩]⟩⟩
noncomputable def alike_cs : Cons := [(39, places_con), (33, times_con), (34, sameI_con)]
def alike_la : List (Nat × LA) := []
end Go.Eng
