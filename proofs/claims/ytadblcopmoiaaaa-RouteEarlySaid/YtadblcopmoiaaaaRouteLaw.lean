/- The statements of routes: what is told of them. -/
import Derived.Test.YtadblcopmoiaaaaRouteOk2
import Derived.Test.YtadblcopmoiaaaaBookOk
set_option linter.unusedVariables false
set_option linter.unusedSimpArgs false
namespace Go.Eng
open Go Go.Proofs
def lsite_con : Con := ⟨[.c (.a (.f .order)), .r (.f .stop)], fun os s => one [.r (SK.enc (.f .order) (fo os s.order)), .r (SK.enc (.f .site) (stopSite os s)), .c (.b (findO os s.order).isSome)]⟩
def lsite_cs : Cons := []
def lsite_la : List (Nat × LA) := [(2, ⟨[0, 3, 4, 5], [.i 7]⟩)]
def routeRuns_con : Con := yes_con
def routeRuns_cs : Cons := [(10, newC_con), (11, drive_con), (12, cost_con)]
def routeRuns_la : List (Nat × LA) := []
def wds (w : WorldD) (d : Driver) (ss : List Stop) : Prop := pA (.r (SK.enc .world w)) ∧ pA (.r (SK.enc (.f .driver) d)) ∧ pA (.c (.a (.f .stop) ss))
def routeDrives_con : Con := ⟨[.r .world, .r (.f .driver), .c (.a (.f .stop))], fun w d ss => law (pA (.r (SK.enc .world w)) ∧ pA (.r (SK.enc (.f .driver) d)) ∧ pA (.c (.a (.f .stop) ss)))⟩
noncomputable def routeDrives_cs : Cons := [(13, maps_con), (14, roomyS_con), (15, roomyO_con), (11, drive_con), (16, rDrive_con), (12, cost_con), (17, rCost_con), (18, sameV_con), (19, intactS_con), (20, intactO_con), (3, yes_con)]
def routeDrives_la : List (Nat × LA) := [(14, ⟨[2, 3, 10, 11, 12, 14, 16], [.i 22, .arr 12 .visit]⟩)]
def routeVisits_con : Con := routeDrives_con
def routeVisits_cs : Cons := [(13, maps_con), (11, drive_con), (21, good_con), (3, yes_con), (22, lsite_con), (23, time_con), (12, cost_con)]
def routeVisits_la : List (Nat × LA) := [(11, ⟨[2, 3, 4, 7, 10], [.i 12, .i 13, .i 14, .i 15, .i 16]⟩)]
def routeEarly_con : Con := ⟨[.r .world, .r (.f .driver), .c (.a (.f .stop)), .c (.a (.f .int))], fun w d ss ws => law (pA (.r (SK.enc .world w)) ∧ pA (.r (SK.enc (.f .driver) d)) ∧ pA (.c (.a (.f .stop) ss)) ∧ pA (.c (.a (.f .int) ws)))⟩
def routeEarly_cs : Cons := [(13, maps_con), (11, drive_con), (3, yes_con), (22, lsite_con), (23, time_con)]
def routeEarly_la : List (Nat × LA) := [(9, ⟨[2, 3, 4, 5, 9, 12, 13], [.i 14, .i 15, .i 16]⟩), (1000018, ⟨[2, 3, 4, 5, 9, 12, 13, 16, 18], [.i 22]⟩), (1000020, ⟨[2, 3, 4, 5, 9, 12, 13, 16, 18], [.i 22]⟩)]
def routeLater_con : Con := ⟨[.r .world, .r (.f .driver), .c (.a (.f .stop)), .c .i], fun w d ss n => law (pA (.r (SK.enc .world w)) ∧ pA (.r (SK.enc (.f .driver) d)) ∧ pA (.c (.a (.f .stop) ss)) ∧ pA (.c (.i n)))⟩
def routeLater_cs : Cons := [(13, maps_con), (11, drive_con), (3, yes_con), (21, good_con)]
def routeLater_la : List (Nat × LA) := [(16, ⟨[12, 15], [.i 17]⟩)]
def routeListed_con : Con := routeDrives_con
noncomputable def routeListed_cs : Cons := [(13, maps_con), (11, drive_con), (3, yes_con), (18, sameV_con)]
def routeListed_la : List (Nat × LA) := [(9, ⟨[2, 3, 4, 7, 10, 11], [.app 12 .order 31, .app 13 .order 31, .i 14]⟩), (14, ⟨[2, 3, 4, 7, 10, 11, 12, 13, 14], [.b 15, .i 16]⟩)]
def routeFaults_con : Con := ⟨[.r .world, .r (.f .driver), .c (.a (.f .stop)), .c (.a (.f .stop))], fun w d ss ms => law (pA (.r (SK.enc .world w)) ∧ pA (.r (SK.enc (.f .driver) d)) ∧ pA (.c (.a (.f .stop) ss)) ∧ pA (.c (.a (.f .stop) ms)))⟩
def routeFaults_cs : Cons := [(13, maps_con), (11, drive_con), (21, good_con), (3, yes_con)]
def routeFaults_la : List (Nat × LA) := []
end Go.Eng
