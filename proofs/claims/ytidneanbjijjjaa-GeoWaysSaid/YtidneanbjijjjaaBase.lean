/- The seat's table of types; words of contracts. -/
import Derived.Test.YtidneanbjijjjaaEOpen
import Derived.Test.YtidneanbjijjjaaProg
import Derived.KernelRfl
set_option linter.unusedVariables false
set_option linter.unusedSimpArgs false
namespace Go.Eng
open Go Go.Proofs
def tab : Tab := [
  (2, .sc none (.i 0)),
  (3, .sc none (.i 0)),
  (4, .sc none (.l false)),
  (15, .sc none (.nlp)),
  (16, .sc none (.nlp)),
  (17, .sc none (.nlp)),
  (18, .st 1 [⟨0, 1, false, 17⟩] [.nlp] false),
  (19, .st 1 [⟨0, 1, false, 17⟩] [.nlp] false),
  (22, .st 2 [⟨0, 1, false, 3⟩, ⟨1, 1, false, 3⟩] [.i 0, .i 0] true),
  (23, .st 2 [⟨0, 1, false, 3⟩, ⟨1, 1, false, 3⟩] [.i 0, .i 0] true),
  (29, .sc (some (.f .win, 23)) (.nls)),
  (42, .sc none (.nlp)),
  (43, .sc none (.i 0)),
  (48, .sc (some (.f .int, 3)) (.nls)),
  (55, .sc none (.nlp)),
  (65, .sc (some (.rows .int, 48)) (.nls)),
  (66, .st 4 [⟨0, 1, false, 65⟩, ⟨1, 1, false, 65⟩, ⟨2, 1, false, 3⟩, ⟨3, 1, false, 4⟩] [.nls, .nls, .i 0, .l false] false),
  (67, .st 4 [⟨0, 1, false, 65⟩, ⟨1, 1, false, 65⟩, ⟨2, 1, false, 3⟩, ⟨3, 1, false, 4⟩] [.nls, .nls, .i 0, .l false] false),
  (72, .st 2 [⟨0, 1, false, 3⟩, ⟨1, 1, false, 48⟩] [.i 0, .nls] false),
  (73, .st 2 [⟨0, 1, false, 3⟩, ⟨1, 1, false, 48⟩] [.i 0, .nls] false),
  (74, .st 2 [⟨0, 1, false, 3⟩, ⟨1, 1, false, 48⟩] [.i 0, .nls] false),
  (75, .st 2 [⟨0, 1, false, 3⟩, ⟨1, 1, false, 48⟩] [.i 0, .nls] false),
  (76, .sc none (.nlp)),
  (87, .sc none (.nlp))]
theorem tabOk : TabOk Try.prog tab := tabOk_of (by kernel_rfl)
theorem mixed : Try.prog.follows .mixedOrders = true := by kernel_rfl
def one (r : List AV) : Res := ⟨none, [⟨none, r⟩]⟩
def yes_con : Con := ⟨[], one [.c (.b true)]⟩
structure Given (p : Prop) : Prop where
  is : p
noncomputable def same {α : Type} (xs ys : List α) : Bool := @decide (xs = ys) (Classical.propDecidable _)
/-- The list with 80 more places, all of them the mark. -/
def roomy {α : Type} (xs : List α) (m : α) : List α := xs ++ List.replicate 80 m
def pI (n : Int) : Prop := avR (.c (.i n))
def pS (s : SK) (x : s.T) : Prop := avR (.r (s.enc x))
def pL (k : K) (l : List k.T) : Prop := avR (.c (.a k l))
/-- A statement's argument: its numbers, its sizes. -/
def pA (x : AV) : Prop := avR x ∧ x.szd
def law (p : Prop) : Res := ⟨some (Given p), [⟨none, [.c (.b true)]⟩]⟩
/-- What is told by more cases is told by fewer, where they are known. -/
theorem told_alt {P : Program} {f : Nat} {ps : List PK} {run run' : Fun ps Res} (h : Told P f ⟨ps, run⟩)
    (hr : ∀ x : Args ps, holdsO (appF ps run' x).pre → holdsO (appF ps run x).pre ∧ ∀ a ∈ (appF ps run x).alts, holdsO a.h → ∃ a' ∈ (appF ps run' x).alts, holdsO a'.h ∧ a'.r = a.r) : Told P f ⟨ps, run'⟩ := by
  refine ⟨?_, h.2⟩
  have key : ∀ (ps : List PK) (run run' : Fun ps Res) (e : Env) (Hs : Heap), (∀ x : Args ps, holdsO (appF ps run' x).pre → holdsO (appF ps run x).pre ∧ ∀ a ∈ (appF ps run x).alts, holdsO a.h → ∃ a' ∈ (appF ps run' x).alts, holdsO a'.h ∧ a'.r = a.r) →
      allArgs ps e Hs run (fun e H r => ∀ (w : World) (vs : List Value), Start e H vs w → holdsO r.pre → Calls P f vs.toArray w (RetOk r.alts w)) →
      allArgs ps e Hs run' (fun e H r => ∀ (w : World) (vs : List Value), Start e H vs w → holdsO r.pre → Calls P f vs.toArray w (RetOk r.alts w)) := by
    intro ps
    induction ps with
    | nil =>
      intro run run' e Hs hr hk w vs hs hp
      obtain ⟨h1, h2⟩ := hr () hp
      refine Calls.mono (hk w vs hs h1) fun en w' he => ?_
      cases en with
      | panicked c => exact he
      | outgrown => exact he
      | returned v =>
        obtain ⟨a, ha, hh, hm⟩ := he
        obtain ⟨a', ha', hh', e⟩ := h2 a ha hh
        refine ⟨a', ha', hh', ?_⟩
        rw [e]; exact hm
    | cons p ps ih =>
      intro run run' e Hs hr hk
      refine overP_iff.2 fun x => imp_iff.2 fun ho => ?_
      have := imp_iff.1 (overP_iff.1 hk x) ho
      exact ih (run x) (run' x) _ _ (fun y => hr (x, y)) this
  exact key ps run run' [] [] hr h.1
end Go.Eng
