/- The statements of what is wrong with a plan: what is told of them. -/
import Derived.Test.YtkokggepghghdaaAuditOk
import Derived.Test.YtkokggepghghdaaCopyOk
import Derived.Test.YtkokggepghghdaaCert
import Derived.Test.YtkokggepghghdaaBookOk
import Derived.Test.YtkokggepghghdaaNewC
import Derived.Test.YtkokggepghghdaaRouteCut
set_option linter.unusedVariables false
set_option linter.unusedSimpArgs false
namespace Go.Eng
open Go Go.Proofs
def auditRuns_con : Con := yes_con
noncomputable def auditRuns_cs : Cons := [(15, newC_con), (16, audit_con), (17, sameT_con), (18, akept_con)]
def auditRuns_la : List (Nat × LA) := []
def auditTells_con : Con := ⟨[.r .world], fun w => law (pA (.r (SK.enc .world w)))⟩
noncomputable def auditTells_cs : Cons := [(19, maps_con), (20, kcopy_con), (16, audit_con), (21, rAudit_con), (17, sameT_con), (22, kroutes_con), (3, auditRuns_con)]
def auditTells_la : List (Nat × LA) := [(11, ⟨[1, 6, 7, 8, 9], [.i 10, .arr 7 .trouble]⟩)]
def auditKeeps_con : Con := ⟨[.c (.a .route), .c (.a .route)], fun a b => law (pA (.c (.a .route a)) ∧ pA (.c (.a .route b)))⟩
noncomputable def auditKeeps_cs : Cons := [(18, akept_con), (23, rAkept_con), (24, rPright_con), (3, auditRuns_con)]
def auditKeeps_la : List (Nat × LA) := []
def auditNone_con : Con := ⟨[.r .world], fun w => law (pA (.r (SK.enc .world w)))⟩
noncomputable def auditNone_cs : Cons := [(19, maps_con), (29, cmake_con), (25, pfind_con), (16, audit_con), (30, good_con), (3, auditRuns_con)]
def auditNone_la : List (Nat × LA) := [(7, ⟨[1, 3, 7], [.b 8, .i 9]⟩)]
def auditParts_con : Con := ⟨[.r .world], fun w => law (pA (.r (SK.enc .world w)))⟩
noncomputable def auditParts_cs : Cons := [(19, maps_con), (16, audit_con), (3, auditRuns_con), (25, pfind_con), (17, sameT_con)]
def auditParts_la : List (Nat × LA) := [(9, ⟨[1, 3, 6], [.app 7 .trouble 47, .i 8]⟩), (13, ⟨[1, 3, 6, 8, 9], [.app 7 .trouble 47, .i 10]⟩), (18, ⟨[1, 6], [.app 7 .trouble 47, .i 11]⟩)]
def auditOnward_con : Con := ⟨[.c (.a .route), .c (.a .route), .c (.a .route), .c .i, .r (.f .spot)], fun a b c id s => law (pA (.c (.a .route a)) ∧ pA (.c (.a .route b)) ∧ pA (.c (.a .route c)) ∧ pA (.c (.i id)) ∧ pA (.r (SK.enc (.f .spot) s)))⟩
noncomputable def auditOnward_cs : Cons := [(18, akept_con), (26, pright_con), (3, auditRuns_con), (27, pwith_con), (28, pwithout_con)]
def auditOnward_la : List (Nat × LA) := []
end Go.Eng
