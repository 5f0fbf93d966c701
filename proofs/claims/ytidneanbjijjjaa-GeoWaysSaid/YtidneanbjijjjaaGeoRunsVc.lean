/- The conditions of functions, as print.. of the engine told them. -/
import Derived.Test.YtidneanbjijjjaaGeoLaw
import Derived.KernelRfl
set_option linter.unusedVariables false
namespace Go.Eng
open Go Go.Proofs
def geoRuns_vc : Prop :=
  (∀ (x : MapD), some (MapD.mk (2 : Int) [(0 : Int), (5 : Int), (7 : Int), (0 : Int)]) = some x → MapOk x) ∧ (∀ (x : MapD), some (MapD.mk (2 : Int) [(0 : Int), (5 : Int), (7 : Int), (0 : Int)]) = some x → MapOk x) ∧ (∀ (x : MapD), some
  (MapD.mk (2 : Int) [(0 : Int), (5 : Int), (7 : Int), (0 : Int)]) = some x → MapOk x) ∧ ((!decide ((0 : Int) = (0 : Int))) = false → ((!decide ((mtime (some (MapD.mk (2 : Int) [(0 : Int), (5 : Int), (7 : Int), (0 : Int)])) (0 : Int) (1 :
  Int)).fst = (5 : Int))) = false → ((!(mtime (some (MapD.mk (2 : Int) [(0 : Int), (5 : Int), (7 : Int), (0 : Int)])) (0 : Int) (1 : Int)).snd) = false → ((!decide ((mtime (some (MapD.mk (2 : Int) [(0 : Int), (5 : Int), (7 : Int), (0 :
  Int)])) (1 : Int) (0 : Int)).fst = (7 : Int))) = false → ((!(mtime (some (MapD.mk (2 : Int) [(0 : Int), (5 : Int), (7 : Int), (0 : Int)])) (1 : Int) (0 : Int)).snd) = false → ((!decide ((mtime (some (MapD.mk (2 : Int) [(0 : Int), (5 : Int),
  (7 : Int), (0 : Int)])) (2 : Int) (0 : Int)).fst = (0 : Int))) = false → ((mtime (some (MapD.mk (2 : Int) [(0 : Int), (5 : Int), (7 : Int), (0 : Int)])) (2 : Int) (0 : Int)).snd = true → false = true) ∧ ((mtime (some (MapD.mk (2 : Int) [(0
  : Int), (5 : Int), (7 : Int), (0 : Int)])) (2 : Int) (0 : Int)).snd = false → (∀ (x : MapD), some (MapD.mk (3 : Int) [(0 : Int), (9 : Int), (2 : Int), (9 : Int), (0 : Int), (9 : Int), (9 : Int), (3 : Int), (0 : Int)]) = some x → MapOk x) ∧
  (∀ (x : MapD), some (MapD.mk (3 : Int) (fw (Int.toNat (3 : Int)) [(0 : Int), (9 : Int), (2 : Int), (9 : Int), (0 : Int), (9 : Int), (9 : Int), (3 : Int), (0 : Int)])) = some x → MapOk x) ∧ (decide (newE (0 : Int) [] = (1 : Int)) = true →
  (decide (newE (2 : Int) [(0 : Int)] = (2 : Int)) = true → (decide (newE (1 : Int) [(1 : Int)] = (4 : Int)) = true → (decide (newE (1 : Int) [(-1 : Int)] = (7 : Int)) = true → (decide (newE (13 : Int) [] = (1 : Int)) = true → (decide ((0 :
  Int) = (0 : Int)) = true → (decide ((mtime (some (MapD.mk (3 : Int) (fw (Int.toNat (3 : Int)) [(0 : Int), (9 : Int), (2 : Int), (9 : Int), (0 : Int), (9 : Int), (9 : Int), (3 : Int), (0 : Int)]))) (0 : Int) (1 : Int)).fst = (5 : Int)) =
  true → ((mtime (some (MapD.mk (3 : Int) (fw (Int.toNat (3 : Int)) [(0 : Int), (9 : Int), (2 : Int), (9 : Int), (0 : Int), (9 : Int), (9 : Int), (3 : Int), (0 : Int)]))) (0 : Int) (1 : Int)).snd = true → (∀ (x : MapD), some (MapD.mk (3 :
  Int) [(0 : Int), (9 : Int), (2 : Int), (9 : Int), (0 : Int), (9 : Int), (9 : Int), (3 : Int), (0 : Int)]) = some x → MapOk x) ∧ ((!even (some (MapD.mk (3 : Int) [(0 : Int), (9 : Int), (2 : Int), (9 : Int), (0 : Int), (9 : Int), (9 : Int),
  (3 : Int), (0 : Int)]))) = true → (∀ (x : MapD), some (MapD.mk (3 : Int) [(0 : Int), (9 : Int), (2 : Int), (9 : Int), (0 : Int), (9 : Int), (9 : Int), (3 : Int), (0 : Int)]) = some x → MapOk x) ∧ (∀ (x : MapD), some (MapD.mk (3 : Int) (fw
  (Int.toNat (3 : Int)) [(0 : Int), (9 : Int), (2 : Int), (9 : Int), (0 : Int), (9 : Int), (9 : Int), (3 : Int), (0 : Int)])) = some x → MapOk x) ∧ even (some (MapD.mk (3 : Int) (fw (Int.toNat (3 : Int)) [(0 : Int), (9 : Int), (2 : Int), (9 :
  Int), (0 : Int), (9 : Int), (9 : Int), (3 : Int), (0 : Int)]))) = true) ∧ ((!even (some (MapD.mk (3 : Int) [(0 : Int), (9 : Int), (2 : Int), (9 : Int), (0 : Int), (9 : Int), (9 : Int), (3 : Int), (0 : Int)]))) = !true → false = true)) ∧
  ((mtime (some (MapD.mk (3 : Int) (fw (Int.toNat (3 : Int)) [(0 : Int), (9 : Int), (2 : Int), (9 : Int), (0 : Int), (9 : Int), (9 : Int), (3 : Int), (0 : Int)]))) (0 : Int) (1 : Int)).snd = !true → false = true)) ∧ (decide ((mtime (some
  (MapD.mk (3 : Int) (fw (Int.toNat (3 : Int)) [(0 : Int), (9 : Int), (2 : Int), (9 : Int), (0 : Int), (9 : Int), (9 : Int), (3 : Int), (0 : Int)]))) (0 : Int) (1 : Int)).fst = (5 : Int)) = !true → false = true)) ∧ (decide ((0 : Int) = (0 :
  Int)) = !true → false = true)) ∧ (decide (newE (13 : Int) [] = (1 : Int)) = !true → false = true)) ∧ (decide (newE (1 : Int) [(-1 : Int)] = (7 : Int)) = !true → false = true)) ∧ (decide (newE (1 : Int) [(1 : Int)] = (4 : Int)) = !true →
  false = true)) ∧ (decide (newE (2 : Int) [(0 : Int)] = (2 : Int)) = !true → false = true)) ∧ (decide (newE (0 : Int) [] = (1 : Int)) = !true → false = true))) ∧ ((!decide ((mtime (some (MapD.mk (2 : Int) [(0 : Int), (5 : Int), (7 : Int), (0
  : Int)])) (2 : Int) (0 : Int)).fst = (0 : Int))) = !false → false = true)) ∧ ((!(mtime (some (MapD.mk (2 : Int) [(0 : Int), (5 : Int), (7 : Int), (0 : Int)])) (1 : Int) (0 : Int)).snd) = !false → false = true)) ∧ ((!decide ((mtime (some
  (MapD.mk (2 : Int) [(0 : Int), (5 : Int), (7 : Int), (0 : Int)])) (1 : Int) (0 : Int)).fst = (7 : Int))) = !false → false = true)) ∧ ((!(mtime (some (MapD.mk (2 : Int) [(0 : Int), (5 : Int), (7 : Int), (0 : Int)])) (0 : Int) (1 : Int)).snd)
  = !false → false = true)) ∧ ((!decide ((mtime (some (MapD.mk (2 : Int) [(0 : Int), (5 : Int), (7 : Int), (0 : Int)])) (0 : Int) (1 : Int)).fst = (5 : Int))) = !false → false = true)) ∧ ((!decide ((0 : Int) = (0 : Int))) = !false → false =
  true)
theorem geoRuns_told (hc : CsOk Try.prog geoRuns_cs) (h : geoRuns_vc) : Told Try.prog 9 geoRuns_con := told (A := geoRuns_la) tabOk mixed hc Try.func9 (by kernel_rfl) (by kernel_rfl) h
end Go.Eng
