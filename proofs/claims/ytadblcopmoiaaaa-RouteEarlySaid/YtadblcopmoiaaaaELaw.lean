/- From what is told of a statement's function to its row. -/
import Derived.Test.YtadblcopmoiaaaaEForce
set_option linter.unusedVariables false
set_option linter.unusedSimpArgs false
namespace Go.Eng
open Go Go.RowKit
section
variable {P : Program} {w : World}
def Args : List PK → Type
  | [] => Unit
  | p :: l => p.T × Args l
def appF {R : Type} : (ps : List PK) → Fun ps R → Args ps → R
  | [], r, _ => r
  | _ :: ps, f, x => appF ps (f x.1) x.2
def PDs (w : World) : (ps : List PK) → Args ps → List Value → Prop
  | [], _, [] => True
  | p :: ps, x, v :: vs => PD w (p.enc x.1) v ∧ PDs w ps x.2 vs
  | _, _, _ => False
theorem allArgs_vals {R : Type} {k : Env → Heap → R → Prop} : ∀ {ps : List PK} {f : Fun ps R} {e : Env} {Hs : Heap} {vs0 vs : List Value} {x : Args ps}, PDs w ps x vs → Start e Hs vs0 w → allArgs ps e Hs f k → ∃ e' Hs', k e' Hs' (appF ps f x) ∧ Start e' Hs' (vs0 ++ vs) w
  | [], f, e, Hs, vs0, vs, x, hd, hs, hk => by
    cases vs with
    | nil => exact ⟨e, Hs, hk, by simpa using hs⟩
    | cons v vs => exact hd.elim
  | p :: ps, f, e, Hs, vs0, vs, x, hd, hs, hk => by
    cases vs with
    | nil => exact hd.elim
    | cons v vs =>
      have hk' := imp_iff.1 (overP_iff.1 hk x.1) (pd_ok hd.1)
      generalize hx : (p.enc x.1).conc (len Hs) = q at hk'
      obtain ⟨s', h'⟩ := q
      obtain ⟨e', Hs', h3, h4⟩ := allArgs_vals hd.2 (start_push hs hd.1 hx) hk'
      exact ⟨e', Hs', h3, by simpa using h4⟩
theorem law_calls {f : Nat} {con : Con} (h : Told P f con) {x : Args con.ps} {vs : List Value} (hx : PDs w con.ps x vs) {pre : Option Prop} (hr : appF con.ps con.run x = ⟨pre, [⟨none, [.c (.b true)]⟩]⟩) (hp : holdsO pre) :
    Calls P f vs.toArray w fun e w' => e = .returned (.bool true) ∧ Below w.heap.size w w' := by
  obtain ⟨e', Hs', hk, hs⟩ := allArgs_vals hx start_nil h.1
  rw [hr] at hk
  refine Calls.mono (hk w vs (by simpa using hs) hp) fun e w' he => ?_
  cases e with
  | panicked c => exact he.elim
  | outgrown => exact he.elim
  | returned v =>
    obtain ⟨a, ha, _, ρ, φ, hm, hd, _⟩ := he
    simp only [List.mem_singleton] at ha
    subst ha
    have hd : v = .bool true := hd
    subst hd
    exact ⟨rfl, hm.below⟩
end
end Go.Eng
