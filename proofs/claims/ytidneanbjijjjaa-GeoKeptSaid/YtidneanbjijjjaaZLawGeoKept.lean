/- GeoKept: whatever the input: true; the input reads as it did. -/
import Derived.Test.YtidneanbjijjjaaZ1LawGeoKept
import Derived.Test.YtidneanbjijjjaaRows
import Derived.Test.YtidneanbjijjjaaEOpen
import Derived.ShutString
import Derived.Below
import Derived.Carry
namespace Go.Proofs.Ytidneanbjijjjaa.geoKept
open Go Go.ChangeShapes Go.WideShapes Go.ChangeAt Go.RowKit
open Go.Eng
set_option linter.unusedVariables false
theorem own : ownKnob Try.prog.godebug = none := by kernel_rfl
theorem laidOut : laidOutB Try.prog = true := by kernel_rfl
set_option maxRecDepth 100000 in
theorem lifted (os : Os) (started : os.Started) (H : Type) (enc : TypeId × Value → H) :
    ReturnsInHanded {} Try.checked os 14 .any (Rows.geoKeptSpec.pre6 enc Try.prog Try.f14 Rows.geoKeptRow.domain false) (Rows.geoKeptSpec.post enc Try.prog Try.f14 false true false false) := by
  refine returnsInHanded_of_change_sized (C := Try.checked) own started (by kernel_rfl) Try.func14
    (ChangeSpec.witness6 (enc := enc) (C := Try.checked) false ⟨#[], #[.int .i64 0, .slice none 0 0], []⟩ 8 (by kernel_rfl) (by kernel_rfl) (by kernel_rfl) (by kernel_rfl)) ?_
  intro W base args ds gs before hval0 hW hcnd hsz0 _
  have hsz : (DataW.weightsEach Try.prog (Try.f14.params.toList ++ Rows.geoKeptSpec.plain.varTypes Try.prog) (ds ++ gs)).all (· ≤ reachBytes) = true := hsz0
  have hval : ∀ (j : Nat) t v, Try.f14.params[j]? = some t → args[j]? = some v → Value.okWide Try.prog W .any base t v := hval0
  have hW' := hW
  obtain ⟨p, q, hA0, hV, rfl, hfz, hnd⟩ := hW
  have hA : DataW.TrodAll enc Try.prog W 0 (fun _ => true) true Try.f14.params.toList args.toList ds p := hA0
  rw [Try.params14] at hA hval hsz
  obtain ⟨v0, vs0, d0, ds0, p0, q0, hargs, rfl, rfl, h0, r0⟩ := trodAll_cons hA
  obtain ⟨v1, vs1, d1, ds1, p1, q1, rfl, rfl, rfl, h1, r1⟩ := trodAll_cons r0
  obtain ⟨rfl, rfl, rfl⟩ := trodAll_nil r1
  obtain rfl : args = #[v0, v1] := by cases args; simp_all
  obtain ⟨rfl, rfl⟩ := trodVars_none hV
  have lt0 : ∀ x ∈ p0, x.block < W.heap.size := by obtain ⟨m, hm⟩ := h0; exact DataW.trod_lt m _ _ _ hm
  obtain ⟨y0, pd0, ar0, ld0, sz0⟩ := pk_open (p := .c .i) (by kernel_rfl) (hval 0 3 v0 rfl rfl) h0
  have sz0 := sz0 (light_at hsz (j := 0) (t := 3) rfl rfl)
  have lt1 : ∀ x ∈ p1, x.block < W.heap.size := by obtain ⟨m, hm⟩ := h1; exact DataW.trod_lt m _ _ _ hm
  obtain ⟨y1, pd1, ar1, ld1, sz1⟩ := pk_open (p := .c (.a (.f .int))) (by kernel_rfl) (hval 1 48 v1 rfl rfl) h1
  have sz1 := sz1 (light_at hsz (j := 1) (t := 48) rfl rfl)
  clear hA0 hval0 hsz0
  refine (law_calls (w := W) geoKept_t (x := (y0, y1, ())) (vs := [v0, v1]) ⟨pd0, pd1, trivial⟩ rfl ⟨⟨⟨ar0, sz0⟩, ⟨ar1, sz1⟩⟩⟩).mono fun e W' ⟨he, bel⟩ => ?_
  subst he
  exact ⟨_, rfl, _, _, _, [], _, [], hW', trodAll_mk1 (shut_bool Try.underlying4 _), (trodAll_cons_mk (Below.trod laidOut (by kernel_rfl) (of_decide_eq_true (by kernel_rfl)) h0 bel lt0) (trodAll_cons_mk (Below.trod laidOut (by kernel_rfl) (of_decide_eq_true (by kernel_rfl)) h1 bel lt1) trodAll_mk0)), rfl, bel.frame _, fun h => by cases h⟩
theorem over : Rows.geoKeptRow.holds Try.pinned (OpenSpec.ofChange Rows.geoKeptSpec) :=
  OpenClaim.holds_of_wide 14 Try.f14 rfl rfl rfl rfl rfl rfl rfl ⟨rfl, rfl, rfl, rfl, rfl⟩ rfl rfl rfl rfl rfl (by kernel_rfl) Try.func14 (by kernel_rfl)
    (of_decide_eq_true (by kernel_rfl)) (by unfold Func.isWrapper; first | (rw [if_pos (by decide +kernel)]; kernel_rfl) | (rw [if_neg (by decide +kernel)]; exact ⟨rfl, rfl⟩))
    (fun os started H enc _ => lifted os started H enc)
theorem proved : Rows.GeoKeptSaid := over
end Go.Proofs.Ytidneanbjijjjaa.geoKept
namespace Go.Proofs.Ytidneanbjijjjaa
/-- The row, under a short name, for the claim. -/
theorem geoKept_holds : Rows.GeoKeptSaid := geoKept.proved
#print axioms geoKept_holds
end Go.Proofs.Ytidneanbjijjjaa
