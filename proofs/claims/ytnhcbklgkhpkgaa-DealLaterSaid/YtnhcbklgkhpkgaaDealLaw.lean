/- The statements of orders and drivers: what is told of them. -/
import Derived.Test.YtnhcbklgkhpkgaaDealOk
import Derived.Test.YtnhcbklgkhpkgaaBookOk
set_option linter.unusedVariables false
set_option linter.unusedSimpArgs false
namespace Go.Eng
open Go Go.Proofs
/-- A number brought into bounds. -/
def bwithin (n lo hi : Int) : Int := lo + n % (hi - lo + 1)
def bWithin_con : Con := ⟨[.c .i, .c .i, .c .i], fun n lo hi => ⟨some (lo ≤ hi ∧ 0 ≤ lo ∧ hi ≤ 9223372036854775806), [⟨none, [.c (.i (bwithin n lo hi))]⟩]⟩⟩
def bWithin_cs : Cons := []
def bWithin_la : List (Nat × LA) := []
def wdriver (w : WorldD) (at' : Int) : Driver := if w.drivers.length = 0 then (FK.zero .driver) else w.drivers.getD (bwithin at' 0 ((w.drivers.length : Int) - 1)).toNat (FK.zero .driver)
def wDriver_con : Con := ⟨[.r .world, .c .i], fun w a => one [.r (SK.enc (.f .driver) (wdriver w a))]⟩
def wDriver_cs : Cons := [(31, bWithin_con)]
def wDriver_la : List (Nat × LA) := []
def smallO : Order := ⟨1, 3, 0, 2, 9, 1, 1, 0, 20, 2⟩
def smallD : Driver := ⟨4, 3, 1, 1, 30, false⟩
def small_con : Con := ⟨[], one [.r (SK.enc (.f .order) smallO), .r (SK.enc (.f .driver) smallD)]⟩
def small_cs : Cons := []
def small_la : List (Nat × LA) := []
def dealRuns_con : Con := yes_con
def dealRuns_cs : Cons := [(8, newC_con), (9, small_con), (10, order_con), (11, driver_con), (12, alone_con)]
def dealRuns_la : List (Nat × LA) := []
def dealTells_con : Con := ⟨[.r .world, .r (.f .order), .r (.f .driver)], fun w o d => law (pA (.r (SK.enc .world w)) ∧ pA (.r (SK.enc (.f .order) o)) ∧ pA (.r (SK.enc (.f .driver) d)))⟩
def dealTells_cs : Cons := [(13, maps_con), (12, alone_con), (14, rAlone_con), (10, order_con), (15, rOrder_con), (11, driver_con), (16, rDriver_con), (3, yes_con)]
def dealTells_la : List (Nat × LA) := []
def dealMore_con : Con := ⟨[.r .world, .r (.f .order), .c .i, .c .i, .c .i], fun w o a b c => law (pA (.r (SK.enc .world w)) ∧ pA (.r (SK.enc (.f .order) o)) ∧ pA (.c (.i a)) ∧ pA (.c (.i b)) ∧ pA (.c (.i c)))⟩
def dealMore_cs : Cons := [(13, maps_con), (17, wDriver_con), (12, alone_con), (3, yes_con)]
def dealMore_la : List (Nat × LA) := []
def dealLater_con : Con := dealMore_con
def dealLater_cs : Cons := [(13, maps_con), (17, wDriver_con), (12, alone_con), (11, driver_con), (10, order_con), (3, yes_con)]
def dealLater_la : List (Nat × LA) := []
def dealKnows_con : Con := ⟨[.r .world], fun w => law (pA (.r (SK.enc .world w)))⟩
noncomputable def dealKnows_cs : Cons := [(13, maps_con), (18, roomyO_con), (19, known_con), (20, rKnown_con), (21, intactO_con), (3, yes_con)]
def dealKnows_la : List (Nat × LA) := []
end Go.Eng
