/- The conditions of functions, as print.. of the engine told them. -/
import Derived.Test.YtkokggepghghdaaAuditLaw
import Derived.KernelRfl
set_option linter.unusedVariables false
namespace Go.Eng
open Go Go.Proofs
def auditRuns_vc : Prop :=
  ((!decide ((0 : Int) = (0 : Int))) = false → (∀ (x : MapD), some (MapD.mk (2 : Int) [(0 : Int), (5 : Int), (7 : Int), (0 : Int)]) = some x → MapOk x) ∧ (∀ (x : MapD), some (MapD.mk (2 : Int) [(0 : Int), (5 : Int), (7 : Int), (0 : Int)]) =
  some x → MapOk x) ∧ (∀ (x : MapD), some (MapD.mk (2 : Int) [(0 : Int), (5 : Int), (7 : Int), (0 : Int)]) = some x → MapOk x) ∧ (∀ (x : MapD), some (MapD.mk (2 : Int) [(0 : Int), (5 : Int), (7 : Int), (0 : Int)]) = some x → MapOk x) ∧ (∀ (x
  : MapD), some (MapD.mk (2 : Int) [(0 : Int), (5 : Int), (7 : Int), (0 : Int)]) = some x → MapOk x) ∧ ((!decide ((↑(auditA (some (MapD.mk (2 : Int) [(0 : Int), (5 : Int), (7 : Int), (0 : Int)])) [Driver.mk (4 : Int) (3 : Int) (1 : Int) (1 :
  Int) (30 : Int) false] [Order.mk (1 : Int) (3 : Int) (0 : Int) (2 : Int) (9 : Int) (1 : Int) (1 : Int) (0 : Int) (20 : Int) (2 : Int)] [Route.mk (4 : Int) (0 : Int) [Stop.mk (1 : Int) false, Stop.mk (1 : Int) true]]).length : Int) = (0 :
  Int))) = false → ((!same (auditA (some (MapD.mk (2 : Int) [(0 : Int), (5 : Int), (7 : Int), (0 : Int)])) [Driver.mk (4 : Int) (3 : Int) (1 : Int) (1 : Int) (30 : Int) false] [Order.mk (1 : Int) (3 : Int) (0 : Int) (2 : Int) (9 : Int) (1 :
  Int) (1 : Int) (0 : Int) (20 : Int) (2 : Int)] [Route.mk (4 : Int) (0 : Int) [Stop.mk (1 : Int) true, Stop.mk (1 : Int) false]]) [Trouble.mk (4 : Int) (1 : Int) (17 : Int), Trouble.mk (4 : Int) (1 : Int) (15 : Int), Trouble.mk (4 : Int) (1
  : Int) (18 : Int)]) = true → false = true) ∧ ((!same (auditA (some (MapD.mk (2 : Int) [(0 : Int), (5 : Int), (7 : Int), (0 : Int)])) [Driver.mk (4 : Int) (3 : Int) (1 : Int) (1 : Int) (30 : Int) false] [Order.mk (1 : Int) (3 : Int) (0 :
  Int) (2 : Int) (9 : Int) (1 : Int) (1 : Int) (0 : Int) (20 : Int) (2 : Int)] [Route.mk (4 : Int) (0 : Int) [Stop.mk (1 : Int) true, Stop.mk (1 : Int) false]]) [Trouble.mk (4 : Int) (1 : Int) (17 : Int), Trouble.mk (4 : Int) (1 : Int) (15 :
  Int), Trouble.mk (4 : Int) (1 : Int) (18 : Int)]) = false → ((!same (auditA (some (MapD.mk (2 : Int) [(0 : Int), (5 : Int), (7 : Int), (0 : Int)])) [Driver.mk (4 : Int) (3 : Int) (1 : Int) (1 : Int) (30 : Int) false] [Order.mk (1 : Int) (3
  : Int) (0 : Int) (2 : Int) (9 : Int) (1 : Int) (1 : Int) (0 : Int) (20 : Int) (2 : Int)] []) [Trouble.mk (0 : Int) (1 : Int) (19 : Int)]) = false → ((!same (auditA (some (MapD.mk (2 : Int) [(0 : Int), (5 : Int), (7 : Int), (0 : Int)])) []
  [Order.mk (1 : Int) (3 : Int) (0 : Int) (2 : Int) (9 : Int) (1 : Int) (1 : Int) (0 : Int) (20 : Int) (2 : Int)] [Route.mk (4 : Int) (0 : Int) [Stop.mk (1 : Int) false, Stop.mk (1 : Int) true]]) [Trouble.mk (4 : Int) (0 : Int) (8 : Int)]) =
  false → ((!same (auditA (some (MapD.mk (2 : Int) [(0 : Int), (5 : Int), (7 : Int), (0 : Int)])) [Driver.mk (4 : Int) (3 : Int) (1 : Int) (1 : Int) (30 : Int) false] [] [Route.mk (4 : Int) (0 : Int) [Stop.mk (1 : Int) false, Stop.mk (1 :
  Int) true]]) [Trouble.mk (4 : Int) (1 : Int) (8 : Int), Trouble.mk (4 : Int) (1 : Int) (8 : Int)]) = true → false = true) ∧ ((!same (auditA (some (MapD.mk (2 : Int) [(0 : Int), (5 : Int), (7 : Int), (0 : Int)])) [Driver.mk (4 : Int) (3 :
  Int) (1 : Int) (1 : Int) (30 : Int) false] [] [Route.mk (4 : Int) (0 : Int) [Stop.mk (1 : Int) false, Stop.mk (1 : Int) true]]) [Trouble.mk (4 : Int) (1 : Int) (8 : Int), Trouble.mk (4 : Int) (1 : Int) (8 : Int)]) = false → (keptP [Route.mk
  (4 : Int) (0 : Int) [Stop.mk (1 : Int) false, Stop.mk (1 : Int) true]] [Route.mk (4 : Int) (0 : Int) [Stop.mk (1 : Int) false, Stop.mk (1 : Int) true]] = true → ((!keptP [Route.mk (4 : Int) (1 : Int) [Stop.mk (1 : Int) false, Stop.mk (1 :
  Int) true]] [Route.mk (4 : Int) (0 : Int) [Stop.mk (1 : Int) false, Stop.mk (1 : Int) true]]) = true → (!keptP [Route.mk (4 : Int) (0 : Int) [Stop.mk (1 : Int) false, Stop.mk (1 : Int) true]] [Route.mk (4 : Int) (1 : Int) [Stop.mk (1 : Int)
  false, Stop.mk (1 : Int) true]]) = true) ∧ ((!keptP [Route.mk (4 : Int) (1 : Int) [Stop.mk (1 : Int) false, Stop.mk (1 : Int) true]] [Route.mk (4 : Int) (0 : Int) [Stop.mk (1 : Int) false, Stop.mk (1 : Int) true]]) = !true → false = true))
  ∧ (keptP [Route.mk (4 : Int) (0 : Int) [Stop.mk (1 : Int) false, Stop.mk (1 : Int) true]] [Route.mk (4 : Int) (0 : Int) [Stop.mk (1 : Int) false, Stop.mk (1 : Int) true]] = !true → false = true))) ∧ ((!same (auditA (some (MapD.mk (2 : Int)
  [(0 : Int), (5 : Int), (7 : Int), (0 : Int)])) [] [Order.mk (1 : Int) (3 : Int) (0 : Int) (2 : Int) (9 : Int) (1 : Int) (1 : Int) (0 : Int) (20 : Int) (2 : Int)] [Route.mk (4 : Int) (0 : Int) [Stop.mk (1 : Int) false, Stop.mk (1 : Int)
  true]]) [Trouble.mk (4 : Int) (0 : Int) (8 : Int)]) = !false → false = true)) ∧ ((!same (auditA (some (MapD.mk (2 : Int) [(0 : Int), (5 : Int), (7 : Int), (0 : Int)])) [Driver.mk (4 : Int) (3 : Int) (1 : Int) (1 : Int) (30 : Int) false]
  [Order.mk (1 : Int) (3 : Int) (0 : Int) (2 : Int) (9 : Int) (1 : Int) (1 : Int) (0 : Int) (20 : Int) (2 : Int)] []) [Trouble.mk (0 : Int) (1 : Int) (19 : Int)]) = !false → false = true))) ∧ ((!decide ((↑(auditA (some (MapD.mk (2 : Int) [(0
  : Int), (5 : Int), (7 : Int), (0 : Int)])) [Driver.mk (4 : Int) (3 : Int) (1 : Int) (1 : Int) (30 : Int) false] [Order.mk (1 : Int) (3 : Int) (0 : Int) (2 : Int) (9 : Int) (1 : Int) (1 : Int) (0 : Int) (20 : Int) (2 : Int)] [Route.mk (4 :
  Int) (0 : Int) [Stop.mk (1 : Int) false, Stop.mk (1 : Int) true]]).length : Int) = (0 : Int))) = !false → false = true)) ∧ ((!decide ((0 : Int) = (0 : Int))) = !false → false = true)
theorem auditRuns_told (hc : CsOk Try.prog auditRuns_cs) (h : auditRuns_vc) : Told Try.prog 3 auditRuns_con := told (A := auditRuns_la) tabOk mixed hc Try.func3 (by kernel_rfl) (by kernel_rfl) h
end Go.Eng
