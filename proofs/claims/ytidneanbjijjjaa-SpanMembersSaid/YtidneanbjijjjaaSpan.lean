/- What span's functions and the document's own of windows tell. -/
import Derived.Test.YtidneanbjijjjaaEOpen
import Derived.Test.YtidneanbjijjjaaProg
import Derived.KernelRfl
set_option linter.unusedVariables false
set_option linter.unusedSimpArgs false
namespace Go.Eng
open Go Go.Proofs
def tab : Tab := [
  (2, .sc none (.i 0)),
  (3, .sc none (.i 0)),
  (4, .sc none (.l false)),
  (15, .sc none (.nlp)),
  (16, .sc none (.nlp)),
  (17, .sc none (.nlp)),
  (18, .st 1 [⟨0, 1, false, 17⟩] [.nlp] false),
  (19, .st 1 [⟨0, 1, false, 17⟩] [.nlp] false),
  (22, .st 2 [⟨0, 1, false, 3⟩, ⟨1, 1, false, 3⟩] [.i 0, .i 0] true),
  (23, .st 2 [⟨0, 1, false, 3⟩, ⟨1, 1, false, 3⟩] [.i 0, .i 0] true),
  (29, .sc (some (.f .win, 23)) (.nls)),
  (42, .sc none (.nlp)),
  (43, .sc none (.i 0)),
  (48, .sc (some (.f .int, 3)) (.nls)),
  (55, .sc none (.nlp)),
  (65, .sc (some (.rows .int, 48)) (.nls)),
  (66, .st 4 [⟨0, 1, false, 65⟩, ⟨1, 1, false, 65⟩, ⟨2, 1, false, 3⟩, ⟨3, 1, false, 4⟩] [.nls, .nls, .i 0, .l false] false),
  (67, .st 4 [⟨0, 1, false, 65⟩, ⟨1, 1, false, 65⟩, ⟨2, 1, false, 3⟩, ⟨3, 1, false, 4⟩] [.nls, .nls, .i 0, .l false] false),
  (72, .st 2 [⟨0, 1, false, 3⟩, ⟨1, 1, false, 48⟩] [.i 0, .nls] false),
  (73, .st 2 [⟨0, 1, false, 3⟩, ⟨1, 1, false, 48⟩] [.i 0, .nls] false),
  (74, .st 2 [⟨0, 1, false, 3⟩, ⟨1, 1, false, 48⟩] [.i 0, .nls] false),
  (75, .st 2 [⟨0, 1, false, 3⟩, ⟨1, 1, false, 48⟩] [.i 0, .nls] false),
  (76, .sc none (.nlp)),
  (87, .sc none (.nlp))]
theorem tabOk : TabOk Try.prog tab := tabOk_of (by kernel_rfl)
theorem mixed : Try.prog.follows .mixedOrders = true := by kernel_rfl

def right (w : Win) : Bool := decide (0 ≤ w.lo) && decide (w.lo ≤ w.hi) && decide (w.hi ≤ 1000000)
def has (w : Win) (t : Int) : Bool := right w && decide (w.lo ≤ t) && decide (t ≤ w.hi)
def begin_ (w : Win) (t : Int) : Int × Bool := if right w && decide (t ≤ w.hi) then (max t w.lo, true) else (0, false)
def last_ (w : Win) (s u : Int) : Int × Bool := if right w && decide (0 ≤ s) && decide (0 ≤ u) && decide (w.lo ≤ wrap (u - s)) then (min w.hi (wrap (u - s)), true) else (0, false)
def meets : Win → List Win → Option Win
  | m, [] => if m.lo ≤ m.hi then some m else none
  | m, w :: l => if right w then meets ⟨max m.lo w.lo, min m.hi w.hi⟩ l else none
def meet (l : List Win) : Option Win := meets ⟨0, 1000000⟩ l
def winR (w : Option Win) : List AV := match w with
  | some w => [.r [.i w.lo, .i w.hi], .c (.b true)]
  | none => [.r [.i 0, .i 0], .c (.b false)]
def one (r : List AV) : Res := ⟨none, [⟨none, r⟩]⟩
def right_con : Con := ⟨[.r (.f .win)], fun w => one [.c (.b (right w))]⟩
def has_con : Con := ⟨[.r (.f .win), .c .i], fun w t => one [.c (.b (has w t))]⟩
def begin_con : Con := ⟨[.r (.f .win), .c .i], fun w t => one [.c (.i (begin_ w t).1), .c (.b (begin_ w t).2)]⟩
def last_con : Con := ⟨[.r (.f .win), .c .i, .c .i], fun w s u => one [.c (.i (last_ w s u).1), .c (.b (last_ w s u).2)]⟩
def meetW (l : List Win) : Win := (meet l).getD ⟨0, 0⟩
def meet_con : Con := ⟨[.c (.a (.f .win))], fun l => one [.r [.i (meetW l).lo, .i (meetW l).hi], .c (.b (meet l).isSome)]⟩
def begins_con : Con := ⟨[.r (.f .win), .c .i, .c .i, .c .b], fun w a t ok => one [.c (.b (decide (begin_ w a = (t, ok))))]⟩
def lasts_con : Con := ⟨[.r (.f .win), .c .i, .c .i, .c .i, .c .b], fun w s u t ok => one [.c (.b (decide (last_ w s u = (t, ok))))]⟩
def yes_con : Con := ⟨[], one [.c (.b true)]⟩

def right_cs : Cons := []
def right_la : List (Nat × LA) := []
def has_cs : Cons := [(25, right_con)]
def has_la : List (Nat × LA) := []
def begin_cs : Cons := [(25, right_con)]
def begin_la : List (Nat × LA) := []
def last_cs : Cons := [(25, right_con)]
def last_la : List (Nat × LA) := []
def meet_cs : Cons := [(25, right_con)]
def meet_la : List (Nat × LA) := [(3, ⟨[2, 4, 8, 9], [.i 10, .ci 4 0, .ci 4 1]⟩)]
def begins_cs : Cons := [(21, begin_con)]
def begins_la : List (Nat × LA) := []
def lasts_cs : Cons := [(23, last_con)]
def lasts_la : List (Nat × LA) := []
def spanRuns_cs : Cons := [(15, meet_con), (16, begins_con), (17, lasts_con)]
def spanRuns_la : List (Nat × LA) := []
def spanRuns_con : Con := yes_con

/-! ### The document's own; lists -/
structure Given (p : Prop) : Prop where
  is : p
def lastRef (w : Win) (s u : Int) : Int × Bool := if right w && decide (0 ≤ s) && decide (s ≤ u) then (if w.lo ≤ min w.hi (wrap (u - s)) then (min w.hi (wrap (u - s)), true) else (0, false)) else (0, false)
def rRight_con : Con := right_con
def rRight_cs : Cons := []
def rRight_la : List (Nat × LA) := []
def rHas_con : Con := has_con
def rHas_cs : Cons := [(26, right_con)]
def rHas_la : List (Nat × LA) := []
def rBegin_con : Con := begin_con
def rBegin_cs : Cons := [(26, right_con)]
def rBegin_la : List (Nat × LA) := []
def rLast_con : Con := ⟨[.r (.f .win), .c .i, .c .i], fun w s u => one [.c (.i (lastRef w s u).1), .c (.b (lastRef w s u).2)]⟩
def rLast_cs : Cons := [(26, right_con)]
def rLast_la : List (Nat × LA) := []
def rMeet_con : Con := meet_con
def rMeet_cs : Cons := [(26, right_con)]
def rMeet_la : List (Nat × LA) := [(3, ⟨[0, 2, 4], [.i 5, .ci 4 0, .ci 4 1]⟩)]
noncomputable def same {α : Type} (xs ys : List α) : Bool := @decide (xs = ys) (Classical.propDecidable _)
/-- The list with 80 more places, all of them the mark. -/
def roomy {α : Type} (xs : List α) (m : α) : List α := xs ++ List.replicate 80 m
def roomyW_con : Con := ⟨[.c (.a (.f .win)), .r (.f .win)], fun xs m => ⟨some (xs.length * 16 ≤ 140737488351232), [⟨none, [.c (.o .win 23 (roomy xs m))]⟩]⟩⟩
def roomyW_cs : Cons := []
def roomyW_la : List (Nat × LA) := [(4, ⟨[3], [.i 6, .arr 5 .win]⟩)]
noncomputable def sameW_con : Con := ⟨[.c (.a (.f .win)), .c (.a (.f .win))], fun xs ys => one [.c (.b (same xs ys))]⟩
def sameW_cs : Cons := []
def sameW_la : List (Nat × LA) := [(4, ⟨[0, 1], [.i 5]⟩)]
noncomputable def intactW_con : Con := ⟨[.c (.a (.f .win)), .c (.a (.f .win)), .r (.f .win)], fun f xs m => one [.c (.b (same f (roomy xs m)))]⟩
noncomputable def intactW_cs : Cons := [(48, sameW_con)]
def intactW_la : List (Nat × LA) := [(4, ⟨[0, 5], [.i 7]⟩)]
/-! ### The statements -/
def pI (n : Int) : Prop := avR (.c (.i n))
def pW (w : Win) : Prop := avR (.r (SK.enc (.f .win) w))
def pL (k : K) (l : List k.T) : Prop := avR (.c (.a k l))
def law (p : Prop) : Res := ⟨some (Given p), [⟨none, [.c (.b true)]⟩]⟩
def spanTells_con : Con := ⟨[.r (.f .win), .c .i, .c .i, .c .i], fun w t s u => law (pW w ∧ pI t ∧ pI s ∧ pI u)⟩
def spanTells_cs : Cons := [(21, begin_con), (22, rBegin_con), (23, last_con), (24, rLast_con), (25, right_con), (26, right_con), (27, has_con), (28, has_con), (3, yes_con)]
def spanTells_la : List (Nat × LA) := []
def spanMeets_con : Con := ⟨[.c (.a (.f .win))], fun l => law (pL (.f .win) l ∧ l.length * 16 ≤ 140737488351232)⟩
noncomputable def spanMeets_cs : Cons := [(18, roomyW_con), (15, meet_con), (19, meet_con), (20, intactW_con), (3, yes_con)]
def spanMeets_la : List (Nat × LA) := []
def spanEarly_con : Con := ⟨[.r (.f .win), .c .i, .c .i], fun w a l => law (pW w ∧ pI a ∧ pI l)⟩
def spanEarly_cs : Cons := [(21, begin_con), (25, right_con), (27, has_con), (3, yes_con)]
def spanEarly_la : List (Nat × LA) := []
def spanLate_con : Con := ⟨[.r (.f .win), .c .i, .c .i], fun w s u => law (pW w ∧ pI s ∧ pI u)⟩
def spanLate_cs : Cons := [(23, last_con), (25, right_con), (27, has_con), (3, yes_con)]
def spanLate_la : List (Nat × LA) := []
def spanMembers_con : Con := ⟨[.c (.a (.f .win)), .c .i], fun l t => law (pL (.f .win) l ∧ pI t ∧ l.length * 16 ≤ 140737488351232)⟩
def spanMembers_cs : Cons := [(25, right_con), (27, has_con), (15, meet_con), (3, yes_con)]
def spanMembers_la : List (Nat × LA) := [(4, ⟨[0, 1], [.b 5, .b 6, .i 7]⟩)]
end Go.Eng
