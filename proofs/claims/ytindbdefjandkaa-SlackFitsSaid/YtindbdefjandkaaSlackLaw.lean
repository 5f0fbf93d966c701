/- The statements of latest times: what is told of them. -/
import Derived.Test.YtindbdefjandkaaSlackOk
import Derived.Test.YtindbdefjandkaaBookOk
import Derived.Test.YtindbdefjandkaaNewC
import Derived.Test.YtindbdefjandkaaRouteCut
import Derived.Test.YtindbdefjandkaaWithinOk
set_option linter.unusedVariables false
set_option linter.unusedSimpArgs false
namespace Go.Eng
open Go Go.Proofs
def slackRuns_con : Con := yes_con
noncomputable def slackRuns_cs : Cons := [(9, newC_con), (10, slat_con), (11, sameI_con), (12, sput_con), (13, sameS_con), (14, sfits_con)]
def slackRuns_la : List (Nat × LA) := []
def slackTells_con : Con := ⟨[.r .world, .r (.f .driver), .c (.a (.f .stop))], fun w d ss => law (pA (.r (SK.enc .world w)) ∧ pA (.r (SK.enc (.f .driver) d)) ∧ pA (.c (.a (.f .stop) ss)))⟩
noncomputable def slackTells_cs : Cons := [(15, maps_con), (16, roomyS_con), (10, slat_con), (17, rSlat_con), (11, sameI_con), (18, intactS_con), (3, yes_con)]
def slackTells_la : List (Nat × LA) := [(11, ⟨[2, 10, 11, 13, 15], [.i 17, .arr 11 .int]⟩)]
def slackPuts_con : Con := ⟨[.c (.a (.f .stop)), .c .i, .c .i, .c .i], fun ss id i j => law (pA (.c (.a (.f .stop) ss)) ∧ pA (.c (.i id)) ∧ pA (.c (.i i)) ∧ pA (.c (.i j)))⟩
noncomputable def slackPuts_cs : Cons := [(16, roomyS_con), (12, sput_con), (18, intactS_con), (3, yes_con), (19, rSput_con), (13, sameS_con)]
def slackPuts_la : List (Nat × LA) := [(8, ⟨[0, 9, 10], [.i 11, .arr 10 .stop]⟩)]
def slackAll_con : Con := ⟨[.r .world, .r (.f .driver), .c (.a (.f .stop)), .r (.f .order)], fun w d ss o => law (pA (.r (SK.enc .world w)) ∧ pA (.r (SK.enc (.f .driver) d)) ∧ pA (.c (.a (.f .stop) ss)) ∧ pA (.r (SK.enc (.f .order) o)))⟩
def slackAll_cs : Cons := [(15, maps_con), (21, drive_con), (12, sput_con), (14, sfits_con), (22, good_con), (3, yes_con)]
def slackAll_la : List (Nat × LA) := [(9, ⟨[2, 4, 5, 7, 9, 13], [.b 14, .i 15]⟩), (14, ⟨[2, 4, 5, 7, 9, 13, 14, 16], [.i 17]⟩), (17, ⟨[2, 4, 5, 7, 9, 13, 14, 16, 17], [.i 18]⟩)]
def slackLimit_con : Con := ⟨[.r .world, .r (.f .driver), .c (.a (.f .stop)), .c .i, .c .i], fun w d ss a l => law (pA (.r (SK.enc .world w)) ∧ pA (.r (SK.enc (.f .driver) d)) ∧ pA (.c (.a (.f .stop) ss)) ∧ pA (.c (.i a)) ∧ pA (.c (.i l)))⟩
def slackLimit_cs : Cons := [(15, maps_con), (21, drive_con), (10, slat_con), (22, good_con), (3, yes_con), (23, bWithin_con), (24, has_con)]
def slackLimit_la : List (Nat × LA) := [(13, ⟨[2, 4, 6, 11, 14, 16, 18, 19], [.i 20, .arr 19 .order]⟩)]
def slackFits_con : Con := ⟨[.r .world, .r (.f .driver), .c (.a (.f .stop)), .r (.f .win), .r (.f .order)], fun w d ss a o => law (pA (.r (SK.enc .world w)) ∧ pA (.r (SK.enc (.f .driver) d)) ∧ pA (.c (.a (.f .stop) ss)) ∧ pA (.r (SK.enc (.f .win) a)) ∧ pA (.r (SK.enc (.f .order) o)))⟩
def slackFits_cs : Cons := [(15, maps_con), (14, sfits_con), (20, rSfits_con), (3, yes_con)]
def slackFits_la : List (Nat × LA) := []
end Go.Eng
