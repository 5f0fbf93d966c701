/- InsertLeast: whatever the input: true; the input reads as it did. -/
import Derived.Test.YtennnnifppichaaZ3LawInsertLeast
import Derived.Test.YtennnnifppichaaRows
import Derived.Test.YtennnnifppichaaEOpen
import Derived.ShutString
import Derived.Below
import Derived.Carry
namespace Go.Proofs.Ytennnnifppichaa.insertLeast
open Go Go.ChangeShapes Go.WideShapes Go.ChangeAt Go.RowKit
open Go.Eng
set_option linter.unusedVariables false
theorem own : ownKnob Try.prog.godebug = none := by kernel_rfl
theorem laidOut : laidOutB Try.prog = true := by kernel_rfl
set_option maxRecDepth 100000 in
theorem lifted (os : Os) (started : os.Started) (H : Type) (enc : TypeId × Value → H) :
    ReturnsInHanded {} Try.checked os 3 .any (Rows.insertLeastSpec.pre6 enc Try.prog Try.f3 Rows.insertLeastRow.domain false) (Rows.insertLeastSpec.post enc Try.prog Try.f3 false true false false) := by
  refine returnsInHanded_of_change_sized (C := Try.checked) own started (by kernel_rfl) Try.func3
    (ChangeSpec.witness6 (enc := enc) (C := Try.checked) false ⟨#[], #[.agg #[.int .i64 0, .slice none 0 0, .slice none 0 0, .slice none 0 0, .slice none 0 0], .agg #[.int .i64 0, .int .i64 0, .int .i64 0, .int .i64 0, .int .i64 0, .int .i64 0, .int .i64 0, .int .i64 0, .int .i64 0, .int .i64 0], .int .i64 0, .int .i64 0], []⟩ 8 (by kernel_rfl) (by kernel_rfl) (by kernel_rfl) (by kernel_rfl)) ?_
  intro W base args ds gs before hval0 hW hcnd hsz0 _
  have hsz : (DataW.weightsEach Try.prog (Try.f3.params.toList ++ Rows.insertLeastSpec.plain.varTypes Try.prog) (ds ++ gs)).all (· ≤ reachBytes) = true := hsz0
  have hval : ∀ (j : Nat) t v, Try.f3.params[j]? = some t → args[j]? = some v → Value.okWide Try.prog W .any base t v := hval0
  have hW' := hW
  obtain ⟨p, q, hA0, hV, rfl, hfz, hnd⟩ := hW
  have hA : DataW.TrodAll enc Try.prog W 0 (fun _ => true) true Try.f3.params.toList args.toList ds p := hA0
  rw [Try.params3] at hA hval hsz
  obtain ⟨v0, vs0, d0, ds0, p0, q0, hargs, rfl, rfl, h0, r0⟩ := trodAll_cons hA
  obtain ⟨v1, vs1, d1, ds1, p1, q1, rfl, rfl, rfl, h1, r1⟩ := trodAll_cons r0
  obtain ⟨v2, vs2, d2, ds2, p2, q2, rfl, rfl, rfl, h2, r2⟩ := trodAll_cons r1
  obtain ⟨v3, vs3, d3, ds3, p3, q3, rfl, rfl, rfl, h3, r3⟩ := trodAll_cons r2
  obtain ⟨rfl, rfl, rfl⟩ := trodAll_nil r3
  obtain rfl : args = #[v0, v1, v2, v3] := by cases args; simp_all
  obtain ⟨rfl, rfl⟩ := trodVars_none hV
  have lt0 : ∀ x ∈ p0, x.block < W.heap.size := by obtain ⟨m, hm⟩ := h0; exact DataW.trod_lt m _ _ _ hm
  obtain ⟨y0, pd0, ar0, ld0, sz0⟩ := pk_open (p := .r .world) (by kernel_rfl) (hval 0 28 v0 rfl rfl) h0
  have sz0 := sz0 (light_at hsz (j := 0) (t := 28) rfl rfl)
  have lt1 : ∀ x ∈ p1, x.block < W.heap.size := by obtain ⟨m, hm⟩ := h1; exact DataW.trod_lt m _ _ _ hm
  obtain ⟨y1, pd1, ar1, ld1, sz1⟩ := pk_open (p := .r (.f .order)) (by kernel_rfl) (hval 1 34 v1 rfl rfl) h1
  have sz1 := sz1 (light_at hsz (j := 1) (t := 34) rfl rfl)
  have lt2 : ∀ x ∈ p2, x.block < W.heap.size := by obtain ⟨m, hm⟩ := h2; exact DataW.trod_lt m _ _ _ hm
  obtain ⟨y2, pd2, ar2, ld2, sz2⟩ := pk_open (p := .c .i) (by kernel_rfl) (hval 2 3 v2 rfl rfl) h2
  have sz2 := sz2 (light_at hsz (j := 2) (t := 3) rfl rfl)
  have lt3 : ∀ x ∈ p3, x.block < W.heap.size := by obtain ⟨m, hm⟩ := h3; exact DataW.trod_lt m _ _ _ hm
  obtain ⟨y3, pd3, ar3, ld3, sz3⟩ := pk_open (p := .c .i) (by kernel_rfl) (hval 3 3 v3 rfl rfl) h3
  have sz3 := sz3 (light_at hsz (j := 3) (t := 3) rfl rfl)
  clear hA0 hval0 hsz0
  refine (law_calls (w := W) insertLeast_t (x := (y0, y1, y2, y3, ())) (vs := [v0, v1, v2, v3]) ⟨pd0, pd1, pd2, pd3, trivial⟩ rfl ⟨⟨⟨ar0, sz0⟩, ⟨ar1, sz1⟩, ⟨ar2, sz2⟩, ⟨ar3, sz3⟩⟩⟩).mono fun e W' ⟨he, bel⟩ => ?_
  subst he
  exact ⟨_, rfl, _, _, _, [], _, [], hW', trodAll_mk1 (shut_bool Try.underlying4 _), (trodAll_cons_mk (Below.trod laidOut (by kernel_rfl) (of_decide_eq_true (by kernel_rfl)) h0 bel lt0) (trodAll_cons_mk (Below.trod laidOut (by kernel_rfl) (of_decide_eq_true (by kernel_rfl)) h1 bel lt1) (trodAll_cons_mk (Below.trod laidOut (by kernel_rfl) (of_decide_eq_true (by kernel_rfl)) h2 bel lt2) (trodAll_cons_mk (Below.trod laidOut (by kernel_rfl) (of_decide_eq_true (by kernel_rfl)) h3 bel lt3) trodAll_mk0)))), rfl, bel.frame _, fun h => by cases h⟩
theorem over : Rows.insertLeastRow.holds Try.pinned (OpenSpec.ofChange Rows.insertLeastSpec) :=
  OpenClaim.holds_of_wide 3 Try.f3 rfl rfl rfl rfl rfl rfl rfl ⟨rfl, rfl, rfl, rfl, rfl⟩ rfl rfl rfl rfl rfl (by kernel_rfl) Try.func3 (by kernel_rfl)
    (of_decide_eq_true (by kernel_rfl)) (by unfold Func.isWrapper; first | (rw [if_pos (by decide +kernel)]; kernel_rfl) | (rw [if_neg (by decide +kernel)]; exact ⟨rfl, rfl⟩))
    (fun os started H enc _ => lifted os started H enc)
theorem proved : Rows.InsertLeastSaid := over
end Go.Proofs.Ytennnnifppichaa.insertLeast
namespace Go.Proofs.Ytennnnifppichaa
/-- The row, under a short name, for the claim. -/
theorem insertLeast_holds : Rows.InsertLeastSaid := insertLeast.proved
#print axioms insertLeast_holds
end Go.Proofs.Ytennnnifppichaa
