/- A map of numbers that are known. -/
import Derived.Test.YtindbdefjandkaaGeoOk
set_option linter.unusedVariables false
set_option linter.unusedSimpArgs false
namespace Go.Eng
open Go Go.Proofs
theorem newC_t : Told Try.prog 9 newC_con := by
  refine told_alt (ps := [.c .i, .c (.a (.f .int))]) new_t fun x _ => ⟨trivial, fun a ha h => ?_⟩
  obtain ⟨n, ts, _⟩ := x
  have ha : a = ⟨some (newE n ts ≠ 0), [.c .np, .c (.i (newE n ts))]⟩ ∨ a = ⟨some (newE n ts = 0), [.p true 75 [.i n, .o .int 3 ts], .c (.i 0)]⟩ := by
    have : a ∈ ([⟨some (newE n ts ≠ 0), [.c .np, .c (.i (newE n ts))]⟩, ⟨some (newE n ts = 0), [.p true 75 [.i n, .o .int 3 ts], .c (.i 0)]⟩] : List Alt) := ha
    simpa using this
  rcases ha with rfl | rfl
  · refine ⟨_, List.mem_singleton.2 rfl, ?_⟩
    have h : newE n ts ≠ 0 := h
    rw [decide_eq_false h]
    exact ⟨trivial, rfl⟩
  · refine ⟨_, List.mem_singleton.2 rfl, ?_⟩
    have h : newE n ts = 0 := h
    rw [decide_eq_true h]
    exact ⟨trivial, rfl⟩
theorem mapOkO_none : ∀ (x : MapD), none = some x → MapOk x := fun x h => by cases h
theorem mapOkO_some {n : Int} {ts : List Int} (h : newE n ts = 0) : ∀ (x : MapD), some ⟨n, ts⟩ = some x → MapOk x := fun x hx => by
  injection hx with hx
  subst hx
  exact newE_ok.1 h
end Go.Eng
