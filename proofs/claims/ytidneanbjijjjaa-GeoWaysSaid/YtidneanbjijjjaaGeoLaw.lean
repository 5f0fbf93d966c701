/- The statements of maps: what is told of them. -/
import Derived.Test.YtidneanbjijjjaaGeo2Ok
import Derived.Test.YtidneanbjijjjaaNewC
import Derived.Test.YtidneanbjijjjaaWithinOk
set_option linter.unusedVariables false
set_option linter.unusedSimpArgs false
namespace Go.Eng
open Go Go.Proofs
def geoRuns_con : Con := yes_con
noncomputable def geoRuns_cs : Cons := [(29, newC_con), (30, time_con), (31, closed_con), (32, even_con)]
def geoRuns_la : List (Nat × LA) := []
def geoMakes_con : Con := ⟨[.c .i, .c (.a (.f .int)), .c .i, .c .i], fun n ts a b => law (pA (.c (.i n)) ∧ pA (.c (.a (.f .int) ts)) ∧ pA (.c (.i a)) ∧ pA (.c (.i b)))⟩
noncomputable def geoMakes_cs : Cons := [(36, roomyI_con), (29, new_con), (37, rNew_con), (38, intactI_con), (30, time_con), (39, places_con), (33, times_con), (31, closed_con), (32, even_con), (9, yes_con), (40, rTime_con), (41, alike_con)]
def geoMakes_la : List (Nat × LA) := [(7, ⟨[2, 3, 9, 10, 12], [.i 14, .arr 9 .int]⟩)]
def geoCloses_con : Con := ⟨[.c .i, .c (.a (.f .int))], fun n ts => law (pA (.c (.i n)) ∧ pA (.c (.a (.f .int) ts)))⟩
noncomputable def geoCloses_cs : Cons := [(42, both_con), (9, yes_con), (31, closed_con), (43, rClosed_con), (41, alike_con), (32, even_con), (44, rEven_con)]
def geoCloses_la : List (Nat × LA) := []
def geoLeast_con : Con := geoCloses_con
noncomputable def geoLeast_cs : Cons := [(29, new_con), (9, yes_con), (31, closed_con), (33, times_con), (32, even_con), (34, sameI_con)]
def geoLeast_la : List (Nat × LA) := [(11, ⟨[5, 7, 8, 9], [.i 10]⟩)]
def geoWays_con : Con := ⟨[.c .i, .c (.a (.f .int)), .c (.a (.f .int))], fun n ts ws => law (pA (.c (.i n)) ∧ pA (.c (.a (.f .int) ts)) ∧ pA (.c (.a (.f .int) ws)))⟩
noncomputable def geoWays_cs : Cons := [(29, new_con), (9, yes_con), (31, closed_con), (35, bWithin_con), (30, time_con)]
def geoWays_la : List (Nat × LA) := [(11, ⟨[0, 2, 7, 9, 11], [.i 10, .i 12, .i 13]⟩)]
end Go.Eng
