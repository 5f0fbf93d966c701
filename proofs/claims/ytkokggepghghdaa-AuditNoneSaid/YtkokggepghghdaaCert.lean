/- Certificates, in plain words; what the functions tell. -/
import Derived.Test.YtkokggepghghdaaPlanOk2
set_option linter.unusedVariables false
set_option linter.unusedSimpArgs false
namespace Go.Eng
open Go Go.Proofs
def makeGo (m : MapD) (ds : List Driver) (os : List Order) : Nat → List Route → Except Fault (List (List Visit))
  | _, [] => .ok []
  | i, r :: l => match findD r.driver ds with
    | none => .error ⟨i, 8⟩
    | some d => match drive (some m) d os r.stops with
      | .error f => .error ⟨i, f.why⟩
      | .ok v => match makeGo m ds os (i + 1) l with
        | .error f => .error f
        | .ok vs => .ok (v :: vs)
noncomputable def makeP (m : Option MapD) (ds : List Driver) (os : List Order) (p : List Route) : Except Fault (List (List Visit)) := match m with
  | none => .error ⟨0, 1⟩
  | some x => if wellP m ds os p then makeGo x ds os 0 p else .error ⟨0, 1⟩
def certR (r : Except Fault (List (List Visit))) : List (List Visit) := match r with | .ok vs => vs | .error _ => []
def cfauR (r : Except Fault (List (List Visit))) : Fault := match r with | .ok _ => ⟨0, 0⟩ | .error f => f
def Visit.stop (v : Visit) : Stop := ⟨v.order, v.drop⟩
def loadN (o : Order) (v : Visit) (load : Int) : Int := if v.drop then load - o.size else load + o.size
def lateN (m : MapD) (d : Driver) (o : Order) (left at' : Int) (v : Visit) : Bool :=
  decide (v.arrive ≠ left + tm m at' (siteOf o v.drop).pl) || !(begin_ (siteOf o v.drop).win v.arrive).2 || decide (v.start ≠ (begin_ (siteOf o v.drop).win v.arrive).1) || decide (v.leave ≠ (begin_ (siteOf o v.drop).win v.arrive).1 + (siteOf o v.drop).sv) || decide (d.hi < v.leave)
def nextE (m : MapD) (d : Driver) (o : Order) (left load : Int) (v : Visit) (at' : Int) : Int :=
  if v.load ≠ loadN o v load ∨ d.room < loadN o v load then 14 else if lateN m d o left at' v then 15 else 0
def checkGo (m : MapD) (d : Driver) (os : List Order) : List Stop → List Visit → Pos → Int
  | _, [], p => if p.load = 0 then 0 else 18
  | ah, v :: l, p => match findO os v.order with
    | none => 8
    | some o => if v.drop && !stands ah ⟨v.order, false⟩ then 17 else if nextE m d o p.now p.load v p.pos ≠ 0 then nextE m d o p.now p.load v p.pos
      else checkGo m d os (ah ++ [v.stop]) l ⟨v.leave, (siteOf o v.drop).pl, v.load⟩
def checkedE (m : MapD) (d : Driver) (os : List Order) (ss : List Stop) (l : List Visit) : Int := if l.map Visit.stop = ss then checkGo m d os [] l ⟨d.lo, d.home, 0⟩ else 4
def checkAll (m : MapD) (ds : List Driver) (os : List Order) : Nat → List Route → List (List Visit) → Fault
  | i, r :: p, l :: c => match findD r.driver ds with
    | none => ⟨i, 8⟩
    | some d => if checkedE m d os r.stops l ≠ 0 then ⟨i, checkedE m d os r.stops l⟩ else checkAll m ds os (i + 1) p c
  | _, _, _ => ⟨0, 0⟩
noncomputable def checkP (m : Option MapD) (ds : List Driver) (os : List Order) (p : List Route) (c : List (List Visit)) : Fault := match m with
  | none => ⟨0, 1⟩
  | some x => if wellP m ds os p then (if c.length = p.length then checkAll x ds os 0 p c else ⟨0, 4⟩) else ⟨0, 1⟩
def CertFits (c : List (List Visit)) : Prop := c.length * 24 ≤ 140737488351232 ∧ ∀ l ∈ c, l.length * 48 ≤ 140737488351232
structure NextPre (m : MapD) (o : Order) (ahead v : Visit) (at' : Int) : Prop where
  map : MapOk m
  site : SiteOk m (siteOf o v.drop)
  at_ : AtOk m at' ahead.leave
  load : -1000000 ≤ ahead.load ∧ ahead.load ≤ 1000000
  size : 0 ≤ o.size ∧ o.size ≤ 1000
structure CheckPre (m : MapD) (d : Driver) (os : List Order) (ss : List Stop) : Prop where
  timed : TimedPre m d os ss
  nodup : ss.Nodup
/-! ### Contracts -/
noncomputable def cmake_con : Con := ⟨[.q .map 91, .c (.a (.f .driver)), .c (.a (.f .order)), .c (.a .route)], fun m ds os p => ⟨some (MapOkO m), [⟨none, [.c (.od (.rows .visit) 76 (certR (makeP m ds os p))), .r (SK.enc (.f .fault) (cfauR (makeP m ds os p)))]⟩]⟩⟩
noncomputable def cmake_cs : Cons := [(39, ctog_con), (40, cdriver_con), (54, timed_con), (30, good_con)]
def cmake_la : List (Nat × LA) := [(5, ⟨[0, 1, 2, 9, 24, 25], [.appd 10 (.rows .visit) 76, .i 26]⟩)]
noncomputable def rCmake_con : Con := ⟨[.q .map 125, .c (.a (.f .driver)), .c (.a (.f .order)), .c (.a .route)], fun m ds os p => ⟨some (MapOkO m), [⟨none, [.c (.od (.rows .visit) 76 (certR (makeP m ds os p))), .r (SK.enc (.f .fault) (cfauR (makeP m ds os p)))]⟩]⟩⟩
noncomputable def rCmake_cs : Cons := [(44, rWell_con), (45, rCdriver_con), (56, rDrive_con)]
def rCmake_la : List (Nat × LA) := [(5, ⟨[0, 1, 2, 3, 9], [.appd 10 (.rows .visit) 76, .i 11]⟩)]
def cshaped_con : Con := ⟨[.c (.a (.f .stop)), .c (.a (.f .visit))], fun ss l => one [.c (.b (decide (l.map Visit.stop = ss)))]⟩
def cshaped_cs : Cons := []
def cshaped_la : List (Nat × LA) := [(4, ⟨[0, 12, 13], [.i 14]⟩)]
def cnext_con : Con := ⟨[.p .map 91, .r (.f .driver), .r (.f .order), .r (.f .visit), .r (.f .visit), .c .i], fun m d o ah v a => ⟨some (NextPre m o ah v a), [⟨none, [.c (.i (nextE m d o ah.leave ah.load v a))]⟩]⟩⟩
def cnext_cs : Cons := [(72, site_con), (73, time_con), (74, begin_con)]
def cnext_la : List (Nat × LA) := []
def cchecked_con : Con := ⟨[.p .map 91, .r (.f .driver), .c (.a (.f .order)), .c (.a (.f .stop)), .c (.a (.f .visit))], fun m d os ss l => ⟨some (CheckPre m d os ss), [⟨none, [.c (.i (checkedE m d os ss l))]⟩]⟩⟩
def cchecked_cs : Cons := [(75, cshaped_con), (61, find_con), (76, cnext_con), (72, site_con)]
def cchecked_la : List (Nat × LA) := [(6, ⟨[0, 2, 6, 11, 13, 30, 31], [.i 12, .i 32, .ci 11 0, .cb 11 1, .ci 11 2, .ci 11 3, .ci 11 4, .ci 11 5, .mp 13 .int]⟩)]
def rOne_con : Con := ⟨[.p .map 125, .r (.f .driver), .c (.a (.f .order)), .c (.a (.f .stop)), .c (.a (.f .visit))], fun m d os ss l => ⟨some (CheckPre m d os ss), [⟨none, [.c (.i (checkedE m d os ss l))]⟩]⟩⟩
def rOne_cs : Cons := [(67, rFind_con), (68, rWhere_con), (69, rSite_con), (70, rTime_con), (79, begin_con)]
def rOne_la : List (Nat × LA) := [(4, ⟨[0, 2, 3, 4, 6], [.i 11]⟩), (10, ⟨[0, 2, 3, 4, 6], [.i 12, .i 13, .i 14, .i 15]⟩)]
noncomputable def ccheck_con : Con := ⟨[.q .map 91, .c (.a (.f .driver)), .c (.a (.f .order)), .c (.a .route), .c (.a (.rows .visit))], fun m ds os p c => ⟨some (MapOkO m), [⟨none, [.r (SK.enc (.f .fault) (checkP m ds os p c))]⟩]⟩⟩
noncomputable def ccheck_cs : Cons := [(39, ctog_con), (40, cdriver_con), (55, cchecked_con)]
def ccheck_la : List (Nat × LA) := [(6, ⟨[0, 1, 2, 4, 10, 29, 30], [.i 31]⟩)]
noncomputable def rCcheck_con : Con := ⟨[.q .map 125, .c (.a (.f .driver)), .c (.a (.f .order)), .c (.a .route), .c (.a (.rows .visit))], fun m ds os p c => ⟨some (MapOkO m), [⟨none, [.r (SK.enc (.f .fault) (checkP m ds os p c))]⟩]⟩⟩
noncomputable def rCcheck_cs : Cons := [(44, rWell_con), (45, rCdriver_con), (57, rOne_con)]
def rCcheck_la : List (Nat × LA) := [(6, ⟨[0, 1, 2, 3, 4, 10], [.i 11]⟩)]
noncomputable def clists_con : Con := ⟨[.c (.a (.rows .visit)), .c (.a (.rows .visit))], fun a b => one [.c (.b (same a b))]⟩
noncomputable def clists_cs : Cons := [(38, sameV_con)]
def clists_la : List (Nat × LA) := [(4, ⟨[0, 1], [.i 5]⟩)]
def ccopied_con : Con := ⟨[.c (.a (.rows .visit))], fun c => ⟨some (CertFits c), [⟨none, [.c (.od (.rows .visit) 76 c)]⟩]⟩⟩
def ccopied_cs : Cons := []
def ccopied_la : List (Nat × LA) := [(3, ⟨[0], [.appd 3 (.rows .visit) 76, .i 4]⟩)]
end Go.Eng
