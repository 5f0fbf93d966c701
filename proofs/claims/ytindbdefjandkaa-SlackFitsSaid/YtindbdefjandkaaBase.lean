/- The seat's table of types; words of contracts. -/
import Derived.Test.YtindbdefjandkaaEOpen
import Derived.Test.YtindbdefjandkaaProg
import Derived.KernelRfl
set_option linter.unusedVariables false
set_option linter.unusedSimpArgs false
namespace Go.Eng
open Go Go.Proofs
def tab : Tab := [
  (2, .sc none (.i 0)),
  (3, .sc none (.i 0)),
  (4, .sc none (.l false)),
  (15, .sc none (.nlp)),
  (16, .sc none (.nlp)),
  (17, .sc none (.nlp)),
  (18, .st 1 [⟨0, 1, false, 17⟩] [.nlp] false),
  (19, .st 1 [⟨0, 1, false, 17⟩] [.nlp] false),
  (22, .sc none (.nlp)),
  (23, .sc none (.i 0)),
  (26, .st 2 [⟨0, 1, false, 3⟩, ⟨1, 1, false, 3⟩] [.i 0, .i 0] true),
  (27, .st 2 [⟨0, 1, false, 3⟩, ⟨1, 1, false, 3⟩] [.i 0, .i 0] true),
  (28, .st 4 [⟨0, 1, false, 3⟩, ⟨1, 2, true, 27⟩, ⟨3, 1, false, 3⟩] [.i 0, .i 0, .i 0, .i 0] true),
  (29, .st 4 [⟨0, 1, false, 3⟩, ⟨1, 2, true, 27⟩, ⟨3, 1, false, 3⟩] [.i 0, .i 0, .i 0, .i 0] true),
  (30, .st 10 [⟨0, 1, false, 3⟩, ⟨1, 1, false, 3⟩, ⟨2, 4, true, 29⟩, ⟨6, 4, true, 29⟩] [.i 0, .i 0, .i 0, .i 0, .i 0, .i 0, .i 0, .i 0, .i 0, .i 0] true),
  (31, .st 10 [⟨0, 1, false, 3⟩, ⟨1, 1, false, 3⟩, ⟨2, 4, true, 29⟩, ⟨6, 4, true, 29⟩] [.i 0, .i 0, .i 0, .i 0, .i 0, .i 0, .i 0, .i 0, .i 0, .i 0] true),
  (32, .st 6 [⟨0, 1, false, 3⟩, ⟨1, 1, false, 3⟩, ⟨2, 1, false, 3⟩, ⟨3, 2, true, 27⟩, ⟨5, 1, false, 4⟩] [.i 0, .i 0, .i 0, .i 0, .i 0, .l false] true),
  (33, .st 6 [⟨0, 1, false, 3⟩, ⟨1, 1, false, 3⟩, ⟨2, 1, false, 3⟩, ⟨3, 2, true, 27⟩, ⟨5, 1, false, 4⟩] [.i 0, .i 0, .i 0, .i 0, .i 0, .l false] true),
  (34, .st 2 [⟨0, 1, false, 3⟩, ⟨1, 1, false, 4⟩] [.i 0, .l false] true),
  (35, .st 2 [⟨0, 1, false, 3⟩, ⟨1, 1, false, 4⟩] [.i 0, .l false] true),
  (36, .sc (some (.f .order, 31)) (.nls)),
  (37, .sc (some (.f .int, 3)) (.nls)),
  (41, .sc (some (.f .stop, 35)) (.nls)),
  (46, .sc (some (.f .driver, 33)) (.nls)),
  (47, .sc (some (.route, 124)) (.nls)),
  (48, .sc (some (.route, 124)) (.nls)),
  (49, .st 5 [⟨0, 1, false, 3⟩, ⟨1, 1, false, 37⟩, ⟨2, 1, false, 46⟩, ⟨3, 1, false, 36⟩, ⟨4, 1, false, 48⟩] [.i 0, .nls, .nls, .nls, .nls] false),
  (50, .st 5 [⟨0, 1, false, 3⟩, ⟨1, 1, false, 37⟩, ⟨2, 1, false, 46⟩, ⟨3, 1, false, 36⟩, ⟨4, 1, false, 48⟩] [.i 0, .nls, .nls, .nls, .nls] false),
  (51, .sc none (.nlp)),
  (59, .ar 2 3),
  (62, .sc (some (.f .visit, 71)) (.nls)),
  (63, .st 2 [⟨0, 1, false, 3⟩, ⟨1, 1, false, 23⟩] [.i 0, .i 0] true),
  (64, .st 2 [⟨0, 1, false, 3⟩, ⟨1, 1, false, 23⟩] [.i 0, .i 0] true),
  (69, .sc none (.nlp)),
  (70, .st 6 [⟨0, 2, true, 35⟩, ⟨2, 1, false, 3⟩, ⟨3, 1, false, 3⟩, ⟨4, 1, false, 3⟩, ⟨5, 1, false, 3⟩] [.i 0, .l false, .i 0, .i 0, .i 0, .i 0] true),
  (71, .st 6 [⟨0, 2, true, 35⟩, ⟨2, 1, false, 3⟩, ⟨3, 1, false, 3⟩, ⟨4, 1, false, 3⟩, ⟨5, 1, false, 3⟩] [.i 0, .l false, .i 0, .i 0, .i 0, .i 0] true),
  (74, .st 2 [⟨0, 1, false, 3⟩, ⟨1, 1, false, 37⟩] [.i 0, .nls] false),
  (75, .st 2 [⟨0, 1, false, 3⟩, ⟨1, 1, false, 37⟩] [.i 0, .nls] false),
  (90, .st 2 [⟨0, 1, false, 3⟩, ⟨1, 1, false, 37⟩] [.i 0, .nls] false),
  (91, .st 2 [⟨0, 1, false, 3⟩, ⟨1, 1, false, 37⟩] [.i 0, .nls] false),
  (118, .sc none (.nlp)),
  (123, .st 3 [⟨0, 1, false, 3⟩, ⟨1, 1, false, 3⟩, ⟨2, 1, false, 41⟩] [.i 0, .i 0, .nls] false),
  (124, .st 3 [⟨0, 1, false, 3⟩, ⟨1, 1, false, 3⟩, ⟨2, 1, false, 41⟩] [.i 0, .i 0, .nls] false)]
theorem tabOk : TabOk Try.prog tab := tabOk_of (by kernel_rfl)
theorem mixed : Try.prog.follows .mixedOrders = true := by kernel_rfl
def one (r : List AV) : Res := ⟨none, [⟨none, r⟩]⟩
def yes_con : Con := ⟨[], one [.c (.b true)]⟩
structure Given (p : Prop) : Prop where
  is : p
noncomputable def same {α : Type} (xs ys : List α) : Bool := @decide (xs = ys) (Classical.propDecidable _)
/-- The list with 80 more places, all of them the mark. -/
def roomy {α : Type} (xs : List α) (m : α) : List α := xs ++ List.replicate 80 m
def pI (n : Int) : Prop := avR (.c (.i n))
def pS (s : SK) (x : s.T) : Prop := avR (.r (s.enc x))
def pL (k : K) (l : List k.T) : Prop := avR (.c (.a k l))
/-- A statement's argument: its numbers, its sizes. -/
def pA (x : AV) : Prop := avR x ∧ x.szd
def law (p : Prop) : Res := ⟨some (Given p), [⟨none, [.c (.b true)]⟩]⟩
/-- What is told by more cases is told by fewer, where they are known. -/
theorem told_alt {P : Program} {f : Nat} {ps : List PK} {run run' : Fun ps Res} (h : Told P f ⟨ps, run⟩)
    (hr : ∀ x : Args ps, holdsO (appF ps run' x).pre → holdsO (appF ps run x).pre ∧ ∀ a ∈ (appF ps run x).alts, holdsO a.h → ∃ a' ∈ (appF ps run' x).alts, holdsO a'.h ∧ a'.r = a.r) : Told P f ⟨ps, run'⟩ := by
  refine ⟨?_, h.2⟩
  have key : ∀ (ps : List PK) (run run' : Fun ps Res) (e : Env) (Hs : Heap), (∀ x : Args ps, holdsO (appF ps run' x).pre → holdsO (appF ps run x).pre ∧ ∀ a ∈ (appF ps run x).alts, holdsO a.h → ∃ a' ∈ (appF ps run' x).alts, holdsO a'.h ∧ a'.r = a.r) →
      allArgs ps e Hs run (fun e H r => ∀ (w : World) (vs : List Value), Start e H vs w → holdsO r.pre → Calls P f vs.toArray w (RetOk r.alts w)) →
      allArgs ps e Hs run' (fun e H r => ∀ (w : World) (vs : List Value), Start e H vs w → holdsO r.pre → Calls P f vs.toArray w (RetOk r.alts w)) := by
    intro ps
    induction ps with
    | nil =>
      intro run run' e Hs hr hk w vs hs hp
      obtain ⟨h1, h2⟩ := hr () hp
      refine Calls.mono (hk w vs hs h1) fun en w' he => ?_
      cases en with
      | panicked c => exact he
      | outgrown => exact he
      | returned v =>
        obtain ⟨a, ha, hh, hm⟩ := he
        obtain ⟨a', ha', hh', e⟩ := h2 a ha hh
        refine ⟨a', ha', hh', ?_⟩
        rw [e]; exact hm
    | cons p ps ih =>
      intro run run' e Hs hr hk
      refine overP_iff.2 fun x => imp_iff.2 fun ho => ?_
      have := imp_iff.1 (overP_iff.1 hk x) ho
      exact ih (run x) (run' x) _ _ (fun y => hr (x, y)) this
  exact key ps run run' [] [] hr h.1
end Go.Eng
