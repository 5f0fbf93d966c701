/- What is wrong with a plan, in plain words; what the functions tell. -/
import Derived.Test.YtkokggepghghdaaPlanOk2
set_option linter.unusedVariables false
set_option linter.unusedSimpArgs false
namespace Go.Eng
open Go Go.Proofs
def noPick (ah : List Stop) (s : Stop) : Bool := s.drop && !stands ah ⟨s.order, false⟩
def loadA (os : List Order) (ah : List Stop) (s : Stop) (load : Int) : Int := if noPick ah s then load else loadOf os s load
def startA (m : MapD) (os : List Order) (s : Stop) (p : Pos) : Int := max (p.now + tm m p.pos (stopSite os s).pl) (stopSite os s).lo
def lateA (m : MapD) (d : Driver) (os : List Order) (s : Stop) (p : Pos) : Bool := decide ((stopSite os s).hi < startA m os s p) || decide (d.hi < startA m os s p + (stopSite os s).sv)
def toldA (m : MapD) (d : Driver) (os : List Order) (ah : List Stop) (s : Stop) (p : Pos) : List Trouble :=
  (if noPick ah s then [⟨d.id, s.order, 17⟩] else if !s.drop && decide (d.room < loadOf os s p.load) then [⟨d.id, s.order, 14⟩] else []) ++ (if lateA m d os s p then [⟨d.id, s.order, 15⟩] else [])
def afterA (m : MapD) (os : List Order) (ah : List Stop) (s : Stop) (p : Pos) : Pos := ⟨startA m os s p + (stopSite os s).sv, (stopSite os s).pl, loadA os ah s p.load⟩
def walkA (m : MapD) (d : Driver) (os : List Order) : List Stop → List Stop → Pos → List Trouble
  | _, [], _ => []
  | ah, s :: l, p => if (findO os s.order).isNone then ⟨d.id, s.order, 8⟩ :: walkA m d os (ah ++ [s]) l p else toldA m d os ah s p ++ walkA m d os (ah ++ [s]) l (afterA m os ah s p)
def lack1 (d : Driver) (os : List Order) (s : Stop) (l : List Stop) : List Trouble := if (findO os s.order).isSome && !s.drop && !stands l ⟨s.order, true⟩ then [⟨d.id, s.order, 18⟩] else []
def lackA (d : Driver) (os : List Order) : List Stop → List Trouble
  | [] => []
  | s :: l => lack1 d os s l ++ lackA d os l
def alongA (m : MapD) (d : Driver) (os : List Order) (ss : List Stop) : List Trouble := walkA m d os [] ss ⟨d.lo, d.home, 0⟩ ++ lackA d os ss
def routeA (m : MapD) (ds : List Driver) (os : List Order) (r : Route) : List Trouble := match findD r.driver ds with
  | none => [⟨r.driver, 0, 8⟩]
  | some d => alongA m d os r.stops
def missA (p : List Route) (os : List Order) : List Trouble := os.flatMap fun o => if (findP o.id p).isNone then [⟨0, o.id, 19⟩] else []
noncomputable def auditA (m : Option MapD) (ds : List Driver) (os : List Order) (p : List Route) : List Trouble := match m with
  | none => [⟨0, 0, 1⟩]
  | some x => if wellP m ds os p then p.flatMap (routeA x ds os) ++ missA p os else [⟨0, 0, 1⟩]
/-! ### Contracts -/
def aordered_con : Con := ⟨[.c (.a (.f .stop)), .c .i, .c .b], fun l id b => one [.c (.b (stands l ⟨id, b⟩))]⟩
def aordered_cs : Cons := []
def aordered_la : List (Nat × LA) := [(2, ⟨[1, 2, 9, 10], [.i 11]⟩)]
def along_con : Con := ⟨[.p .map 91, .r (.f .driver), .c (.a (.f .order)), .c (.a (.f .stop))], fun m d os ss => ⟨some (TimedPre m d os ss), [⟨none, [.c (.o .trouble 47 (alongA m d os ss))]⟩]⟩⟩
def along_cs : Cons := [(61, find_con), (64, aordered_con)] ++ [(72, site_con), (73, time_con)]
noncomputable def along_in : Inls := [(62, ⟨Try.f62, []⟩), (63, ⟨Try.f63, [(1000008, ⟨[0, 6, 7], [.ci 0 9, .capp 0 10 .trouble 47]⟩), (1000013, ⟨[0, 8, 11], [.capp 0 10 .trouble 47]⟩)]⟩)]
def along_la : List (Nat × LA) := [(3, ⟨[0, 2, 3, 9, 27, 28], [.i 29, .ci 9 7, .ci 9 8, .ci 9 9, .capp 9 10 .trouble 47]⟩), (11, ⟨[0, 2, 3, 9, 55, 56], [.i 57, .capp 9 10 .trouble 47]⟩)]
def rAlong_con : Con := ⟨[.p .map 125, .r (.f .driver), .c (.a (.f .order)), .c (.a (.f .stop))], fun m d os ss => ⟨some (TimedPre m d os ss), [⟨none, [.c (.o .trouble 47 (alongA m d os ss))]⟩]⟩⟩
def rAlong_cs : Cons := [(67, rFind_con), (68, rWhere_con), (69, rSite_con), (70, rTime_con)]
def rAlong_la : List (Nat × LA) := [(4, ⟨[0, 2, 3, 5], [.app 9 .trouble 47, .i 10, .i 11, .i 12, .i 13]⟩), (26, ⟨[2, 3, 5], [.app 9 .trouble 47, .i 20]⟩), (1000017, ⟨[0, 2, 3, 5, 10, 11, 13, 14, 15], [.app 9 .trouble 47, .i 12]⟩), (1000022, ⟨[0, 2, 3, 5, 9, 12, 13, 14, 16], [.i 19]⟩), (1000024, ⟨[0, 2, 3, 5, 12, 13, 16, 19], [.app 9 .trouble 47]⟩)]
noncomputable def audit_con : Con := ⟨[.q .map 91, .c (.a (.f .driver)), .c (.a (.f .order)), .c (.a .route)], fun m ds os p => ⟨some (MapOkO m), [⟨none, [.c (.o .trouble 47 (auditA m ds os p))]⟩]⟩⟩
noncomputable def audit_cs : Cons := [(39, ctog_con), (40, cdriver_con), (41, along_con), (25, pfind_con)]
def audit_la : List (Nat × LA) := [(5, ⟨[0, 1, 2, 3, 26, 27], [.app 9 .trouble 47, .i 28]⟩), (13, ⟨[3, 56, 57], [.app 9 .trouble 47, .i 58]⟩)]
noncomputable def rAudit_con : Con := ⟨[.q .map 125, .c (.a (.f .driver)), .c (.a (.f .order)), .c (.a .route)], fun m ds os p => ⟨some (MapOkO m), [⟨none, [.c (.o .trouble 47 (auditA m ds os p))]⟩]⟩⟩
noncomputable def rAudit_cs : Cons := [(44, rWell_con), (45, rCdriver_con), (46, rAlong_con), (47, rPfind_con)]
def rAudit_la : List (Nat × LA) := [(5, ⟨[0, 1, 2, 3], [.app 9 .trouble 47, .i 10]⟩), (12, ⟨[2, 3], [.app 9 .trouble 47, .i 13]⟩)]
end Go.Eng
