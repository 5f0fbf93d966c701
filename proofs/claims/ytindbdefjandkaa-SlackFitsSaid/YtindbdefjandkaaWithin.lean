/- Numbers brought into bounds; a world's driver. -/
import Derived.Test.YtindbdefjandkaaDealOk
set_option linter.unusedVariables false
set_option linter.unusedSimpArgs false
namespace Go.Eng
open Go Go.Proofs
/-- A number brought into bounds. -/
def bwithin (n lo hi : Int) : Int := lo + n % (hi - lo + 1)
def bWithin_con : Con := ⟨[.c .i, .c .i, .c .i], fun n lo hi => ⟨some (lo ≤ hi ∧ 0 ≤ lo ∧ hi ≤ 9223372036854775806), [⟨none, [.c (.i (bwithin n lo hi))]⟩]⟩⟩
def bWithin_cs : Cons := []
def bWithin_la : List (Nat × LA) := []
def wdriver (w : WorldD) (at' : Int) : Driver := if w.drivers.length = 0 then (FK.zero .driver) else w.drivers.getD (bwithin at' 0 ((w.drivers.length : Int) - 1)).toNat (FK.zero .driver)
end Go.Eng
