/- The conditions of functions, as print.. of the engine told them. -/
import Derived.Test.YtennnnifppichaaZ1LawInsertBest
import Derived.KernelRfl
set_option linter.unusedVariables false
namespace Go.Eng
open Go Go.Proofs
def cmake_vc : Prop :=
  (∀ (x : List Driver), LenOk x.length → ∀ (x_2 : List Order), LenOk x_2.length → ∀ (x_4 : List Route), (LenOk x_4.length ∧ ∀ (r : Route), List.Mem r x_4 → LenOk r.stops.length) → (∀ (x : MapD), none = some x → MapOk x) → (∀ (x : MapD), none
  = some x → MapOk x) ∧ ((!wellP none x x_2 x_4) = true → ((0 : Int) = (cfauR (makeP none x x_2 x_4)).spot ∧ (1 : Int) = (cfauR (makeP none x x_2 x_4)).why) ∧ certR (makeP none x x_2 x_4) = nilOf (List Visit)) ∧ ((!wellP none x x_2 x_4) =
  false → ∃ (inv : List (List Visit) → Int → Prop), ∃ (μ : List (List Visit) → Int → Nat), ((((↑x_4.length : Int) = (↑x_4.length : Int) ∧ (0 : Int) = (0 : Int)) ∧ ((0 : Int) = (0 : Int) ∧ (0 : Int) = (0 : Int)) ∧ x_4 = x_4 ∧ nilOf (List
  Visit) = nilOf (List Visit) ∧ x_2 = x_2 ∧ x = x) ∧ inv [] (0 : Int)) ∧ ∀ (x_8 : List (List Visit)) (x_9 : Int), inv x_8 x_9 → (decide (x_9 < (↑x_4.length : Int)) = true → ((0 : Int) ≤ x_9 ∧ x_9 < (↑x_4.length : Int)) ∧ x_9.toNat <
  x_4.length ∧ ((!(findD (x_4.getD x_9.toNat (Route.mk (0 : Int) (0 : Int) [])).driver x).isSome) = true → (x_9 = (cfauR (makeP none x x_2 x_4)).spot ∧ (8 : Int) = (cfauR (makeP none x x_2 x_4)).why) ∧ certR (makeP none x x_2 x_4) = nilOf
  (List Visit)) ∧ ((!(findD (x_4.getD x_9.toNat (Route.mk (0 : Int) (0 : Int) [])).driver x).isSome) = false → Bad (nat_lit 4) Oper (Oper.mk (some (nat_lit 48)) (Op.call (Call.mk (Callee.value (Operand.func (nat_lit 41))) (Array.mk
  [Operand.tmp (nat_lit 43), Operand.tmp (nat_lit 44), Operand.tmp (nat_lit 45), Operand.tmp (nat_lit 47)]) (Array.mk [nat_lit 35, nat_lit 44, nat_lit 24, nat_lit 39]))) (nat_lit 84) "cert.go:47" (Array.mk [Edge.mk (nat_lit 0) Ground.data,
  Edge.mk (nat_lit 1) Ground.data, Edge.mk (nat_lit 2) Ground.data, Edge.mk (nat_lit 4) Ground.data]) none))) ∧ (decide (x_9 < (↑x_4.length : Int)) = false → ((0 : Int) = (cfauR (makeP none x x_2 x_4)).spot ∧ (0 : Int) = (cfauR (makeP none x
  x_2 x_4)).why) ∧ x_8 = certR (makeP none x x_2 x_4)))) ∧ ∀ (x : MapD), LenOk x.l.length → ∀ (x_2 : List Driver), LenOk x_2.length → ∀ (x_4 : List Order), LenOk x_4.length → ∀ (x_6 : List Route), (LenOk x_6.length ∧ ∀ (r : Route), List.Mem r
  x_6 → LenOk r.stops.length) → (∀ (x_8 : MapD), some x = some x_8 → MapOk x_8) → (∀ (x_9 : MapD), some x = some x_9 → MapOk x_9) ∧ ((!wellP (some x) x_2 x_4 x_6) = true → ((0 : Int) = (cfauR (makeP (some x) x_2 x_4 x_6)).spot ∧ (1 : Int) =
  (cfauR (makeP (some x) x_2 x_4 x_6)).why) ∧ certR (makeP (some x) x_2 x_4 x_6) = nilOf (List Visit)) ∧ ((!wellP (some x) x_2 x_4 x_6) = false → ∃ (inv : List (List Visit) → Int → Prop), ∃ (μ : List (List Visit) → Int → Nat), ((((↑x_6.length
  : Int) = (↑x_6.length : Int) ∧ (0 : Int) = (0 : Int)) ∧ (x.n = x.n ∧ (0 : Int) = (0 : Int) ∧ (0 : Int) = (0 : Int)) ∧ x.l = x.l ∧ x_6 = x_6 ∧ nilOf (List Visit) = nilOf (List Visit) ∧ x_4 = x_4 ∧ x_2 = x_2) ∧ inv [] (0 : Int)) ∧ ∀ (x_10 :
  List (List Visit)) (x_11 : Int), inv x_10 x_11 → (decide (x_11 < (↑x_6.length : Int)) = true → ((0 : Int) ≤ x_11 ∧ x_11 < (↑x_6.length : Int)) ∧ x_11.toNat < x_6.length ∧ ((!(findD (x_6.getD x_11.toNat (Route.mk (0 : Int) (0 : Int)
  [])).driver x_2).isSome) = true → (x_11 = (cfauR (makeP (some x) x_2 x_4 x_6)).spot ∧ (8 : Int) = (cfauR (makeP (some x) x_2 x_4 x_6)).why) ∧ certR (makeP (some x) x_2 x_4 x_6) = nilOf (List Visit)) ∧ ((!(findD (x_6.getD x_11.toNat
  (Route.mk (0 : Int) (0 : Int) [])).driver x_2).isSome) = false → TimedPre x ((findD (x_6.getD x_11.toNat (Route.mk (0 : Int) (0 : Int) [])).driver x_2).getD FK.driver.zero) x_4 (x_6.getD x_11.toNat (Route.mk (0 : Int) (0 : Int) [])).stops ∧
  ((!good (fauR (driveT x ((findD (x_6.getD x_11.toNat (Route.mk (0 : Int) (0 : Int) [])).driver x_2).getD FK.driver.zero) x_4 (x_6.getD x_11.toNat (Route.mk (0 : Int) (0 : Int) [])).stops))) = true → (x_11 = (cfauR (makeP (some x) x_2 x_4
  x_6)).spot ∧ (fauR (driveT x ((findD (x_6.getD x_11.toNat (Route.mk (0 : Int) (0 : Int) [])).driver x_2).getD FK.driver.zero) x_4 (x_6.getD x_11.toNat (Route.mk (0 : Int) (0 : Int) [])).stops)).why = (cfauR (makeP (some x) x_2 x_4
  x_6)).why) ∧ certR (makeP (some x) x_2 x_4 x_6) = nilOf (List Visit)) ∧ ((!good (fauR (driveT x ((findD (x_6.getD x_11.toNat (Route.mk (0 : Int) (0 : Int) [])).driver x_2).getD FK.driver.zero) x_4 (x_6.getD x_11.toNat (Route.mk (0 : Int) (0
  : Int) [])).stops))) = false → (x_10.length + [visR (driveT x ((findD (x_6.getD x_11.toNat (Route.mk (0 : Int) (0 : Int) [])).driver x_2).getD FK.driver.zero) x_4 (x_6.getD x_11.toNat (Route.mk (0 : Int) (0 : Int) [])).stops)].length) *
  (K.rows FK.visit).byt ≤ (140737488355328 : Nat) ∧ (((↑x_6.length : Int) = (↑x_6.length : Int) ∧ wrap (x_11 + (1 : Int)) = wrap (x_11 + (1 : Int))) ∧ (x.n = x.n ∧ (0 : Int) = (0 : Int) ∧ (0 : Int) = (0 : Int)) ∧ x.l = x.l ∧ x_6 = x_6 ∧ x_10
  ++ [visR (driveT x ((findD (x_6.getD x_11.toNat (Route.mk (0 : Int) (0 : Int) [])).driver x_2).getD FK.driver.zero) x_4 (x_6.getD x_11.toNat (Route.mk (0 : Int) (0 : Int) [])).stops)] = x_10 ++ [visR (driveT x ((findD (x_6.getD x_11.toNat
  (Route.mk (0 : Int) (0 : Int) [])).driver x_2).getD FK.driver.zero) x_4 (x_6.getD x_11.toNat (Route.mk (0 : Int) (0 : Int) [])).stops)] ∧ x_4 = x_4 ∧ x_2 = x_2) ∧ inv (x_10 ++ [visR (driveT x ((findD (x_6.getD x_11.toNat (Route.mk (0 : Int)
  (0 : Int) [])).driver x_2).getD FK.driver.zero) x_4 (x_6.getD x_11.toNat (Route.mk (0 : Int) (0 : Int) [])).stops)]) (wrap (x_11 + (1 : Int))) ∧ μ (x_10 ++ [visR (driveT x ((findD (x_6.getD x_11.toNat (Route.mk (0 : Int) (0 : Int)
  [])).driver x_2).getD FK.driver.zero) x_4 (x_6.getD x_11.toNat (Route.mk (0 : Int) (0 : Int) [])).stops)]) (wrap (x_11 + (1 : Int))) < μ x_10 x_11))) ∧ (decide (x_11 < (↑x_6.length : Int)) = false → ((0 : Int) = (cfauR (makeP (some x) x_2
  x_4 x_6)).spot ∧ (0 : Int) = (cfauR (makeP (some x) x_2 x_4 x_6)).why) ∧ x_10 = certR (makeP (some x) x_2 x_4 x_6)))
theorem cmake_told (hc : CsOk Try.prog cmake_cs) (h : cmake_vc) : Told Try.prog 19 cmake_con := told (A := cmake_la) tabOk mixed hc Try.func19 (by kernel_rfl) (by kernel_rfl) h
end Go.Eng

/- How late stops may be begun; an order put between stops: in plain words; what the functions tell. -/
set_option linter.unusedVariables false
set_option linter.unusedSimpArgs false
namespace Go.Eng
open Go Go.Proofs
def putOk (ss : List Stop) (i j : Int) : Bool := decide (0 ≤ i) && decide (i ≤ j) && decide (j ≤ ss.length)
def putS (ss : List Stop) (id i j : Int) : List Stop := if putOk ss i j then ss.take i.toNat ++ [⟨id, false⟩] ++ (ss.drop i.toNat).take (j.toNat - i.toNat) ++ [⟨id, true⟩] ++ ss.drop j.toNat else []
def fits (m : Option MapD) (d : Driver) (os : List Order) (ss : List Stop) (o : Order) (i j : Int) : Bool :=
  putOk ss i j && good (fauR (drive m d os ss)) && (findO os o.id).isNone && good (fauR (drive m d (os ++ [o]) (putS ss o.id i j)))

def rSput_con : Con := ⟨[.c (.a (.f .stop)), .c .i, .c .i, .c .i], fun ss id i j => ⟨some (ss.length * 16 ≤ 140737488351232 ∧ putOk ss i j = true), [⟨none, [.c (.o .stop 70 (putS ss id i j))]⟩]⟩⟩
def rSput_cs : Cons := []
def rSput_la : List (Nat × LA) := [(3, ⟨[0, 1, 2, 3], [.app 9 .stop 70, .i 10]⟩)]
end Go.Eng

/- The conditions of functions, as print.. of the engine told them. -/
set_option linter.unusedVariables false
namespace Go.Eng
open Go Go.Proofs
def rSput_vc : Prop :=
  ∀ (x : List Stop), LenOk x.length → ∀ (x_2 x_3 x_4 : Int), x.length * (16 : Nat) ≤ (140737488351232 : Nat) ∧ putOk x x_3 x_4 = true → ∃ (inv : List Stop → Int → Prop), ∃ (μ : List Stop → Int → Nat), (((x_2 = x_2 ∧ x_3 = x_3 ∧ x_4 = x_4 ∧ (0
  : Int) = (0 : Int)) ∧ nilOf Stop = nilOf Stop ∧ x = x) ∧ inv [] (0 : Int)) ∧ ∀ (x_6 : List Stop) (x_7 : Int), inv x_6 x_7 → (decide (x_7 ≤ (↑x.length : Int)) = true → (decide (x_7 = x_3) = true → (True ∧ (x_6.length + [Stop.mk x_2
  false].length) * ((8 : Nat) * (2 : Nat)) ≤ (140737488355328 : Nat)) ∧ (decide (x_7 = x_4) = true → (True ∧ ((x_6 ++ [Stop.mk x_2 false]).length + [Stop.mk x_2 true].length) * ((8 : Nat) * (2 : Nat)) ≤ (140737488355328 : Nat)) ∧ (decide (x_7
  < (↑x.length : Int)) = true → ((0 : Int) ≤ x_7 ∧ x_7 < (↑x.length : Int)) ∧ x_7.toNat < x.length ∧ (True ∧ ((x_6 ++ [Stop.mk x_2 false] ++ [Stop.mk x_2 true]).length + [x.getD x_7.toNat FK.stop.zero].length) * ((8 : Nat) * (2 : Nat)) ≤
  (140737488355328 : Nat)) ∧ ((x_2 = x_2 ∧ x_3 = x_3 ∧ x_4 = x_4 ∧ wrap (x_7 + (1 : Int)) = wrap (x_7 + (1 : Int))) ∧ x_6 ++ [Stop.mk x_2 false] ++ [Stop.mk x_2 true] ++ [x.getD x_7.toNat FK.stop.zero] = x_6 ++ [Stop.mk x_2 false] ++ [Stop.mk
  x_2 true] ++ [x.getD x_7.toNat FK.stop.zero] ∧ x = x) ∧ inv (x_6 ++ [Stop.mk x_2 false] ++ [Stop.mk x_2 true] ++ [x.getD x_7.toNat FK.stop.zero]) (wrap (x_7 + (1 : Int))) ∧ μ (x_6 ++ [Stop.mk x_2 false] ++ [Stop.mk x_2 true] ++ [x.getD
  x_7.toNat FK.stop.zero]) (wrap (x_7 + (1 : Int))) < μ x_6 x_7) ∧ (decide (x_7 < (↑x.length : Int)) = false → ((x_2 = x_2 ∧ x_3 = x_3 ∧ x_4 = x_4 ∧ wrap (x_7 + (1 : Int)) = wrap (x_7 + (1 : Int))) ∧ x_6 ++ [Stop.mk x_2 false] ++ [Stop.mk x_2
  true] = x_6 ++ [Stop.mk x_2 false] ++ [Stop.mk x_2 true] ∧ x = x) ∧ inv (x_6 ++ [Stop.mk x_2 false] ++ [Stop.mk x_2 true]) (wrap (x_7 + (1 : Int))) ∧ μ (x_6 ++ [Stop.mk x_2 false] ++ [Stop.mk x_2 true]) (wrap (x_7 + (1 : Int))) < μ x_6
  x_7)) ∧ (decide (x_7 = x_4) = false → (decide (x_7 < (↑x.length : Int)) = true → ((0 : Int) ≤ x_7 ∧ x_7 < (↑x.length : Int)) ∧ x_7.toNat < x.length ∧ (True ∧ ((x_6 ++ [Stop.mk x_2 false]).length + [x.getD x_7.toNat FK.stop.zero].length) *
  ((8 : Nat) * (2 : Nat)) ≤ (140737488355328 : Nat)) ∧ ((x_2 = x_2 ∧ x_3 = x_3 ∧ x_4 = x_4 ∧ wrap (x_7 + (1 : Int)) = wrap (x_7 + (1 : Int))) ∧ x_6 ++ [Stop.mk x_2 false] ++ [x.getD x_7.toNat FK.stop.zero] = x_6 ++ [Stop.mk x_2 false] ++
  [x.getD x_7.toNat FK.stop.zero] ∧ x = x) ∧ inv (x_6 ++ [Stop.mk x_2 false] ++ [x.getD x_7.toNat FK.stop.zero]) (wrap (x_7 + (1 : Int))) ∧ μ (x_6 ++ [Stop.mk x_2 false] ++ [x.getD x_7.toNat FK.stop.zero]) (wrap (x_7 + (1 : Int))) < μ x_6
  x_7) ∧ (decide (x_7 < (↑x.length : Int)) = false → ((x_2 = x_2 ∧ x_3 = x_3 ∧ x_4 = x_4 ∧ wrap (x_7 + (1 : Int)) = wrap (x_7 + (1 : Int))) ∧ x_6 ++ [Stop.mk x_2 false] = x_6 ++ [Stop.mk x_2 false] ∧ x = x) ∧ inv (x_6 ++ [Stop.mk x_2 false])
  (wrap (x_7 + (1 : Int))) ∧ μ (x_6 ++ [Stop.mk x_2 false]) (wrap (x_7 + (1 : Int))) < μ x_6 x_7))) ∧ (decide (x_7 = x_3) = false → (decide (x_7 = x_4) = true → (True ∧ (x_6.length + [Stop.mk x_2 true].length) * ((8 : Nat) * (2 : Nat)) ≤
  (140737488355328 : Nat)) ∧ (decide (x_7 < (↑x.length : Int)) = true → ((0 : Int) ≤ x_7 ∧ x_7 < (↑x.length : Int)) ∧ x_7.toNat < x.length ∧ (True ∧ ((x_6 ++ [Stop.mk x_2 true]).length + [x.getD x_7.toNat FK.stop.zero].length) * ((8 : Nat) *
  (2 : Nat)) ≤ (140737488355328 : Nat)) ∧ ((x_2 = x_2 ∧ x_3 = x_3 ∧ x_4 = x_4 ∧ wrap (x_7 + (1 : Int)) = wrap (x_7 + (1 : Int))) ∧ x_6 ++ [Stop.mk x_2 true] ++ [x.getD x_7.toNat FK.stop.zero] = x_6 ++ [Stop.mk x_2 true] ++ [x.getD x_7.toNat
  FK.stop.zero] ∧ x = x) ∧ inv (x_6 ++ [Stop.mk x_2 true] ++ [x.getD x_7.toNat FK.stop.zero]) (wrap (x_7 + (1 : Int))) ∧ μ (x_6 ++ [Stop.mk x_2 true] ++ [x.getD x_7.toNat FK.stop.zero]) (wrap (x_7 + (1 : Int))) < μ x_6 x_7) ∧ (decide (x_7 <
  (↑x.length : Int)) = false → ((x_2 = x_2 ∧ x_3 = x_3 ∧ x_4 = x_4 ∧ wrap (x_7 + (1 : Int)) = wrap (x_7 + (1 : Int))) ∧ x_6 ++ [Stop.mk x_2 true] = x_6 ++ [Stop.mk x_2 true] ∧ x = x) ∧ inv (x_6 ++ [Stop.mk x_2 true]) (wrap (x_7 + (1 : Int)))
  ∧ μ (x_6 ++ [Stop.mk x_2 true]) (wrap (x_7 + (1 : Int))) < μ x_6 x_7)) ∧ (decide (x_7 = x_4) = false → (decide (x_7 < (↑x.length : Int)) = true → ((0 : Int) ≤ x_7 ∧ x_7 < (↑x.length : Int)) ∧ x_7.toNat < x.length ∧ (True ∧ (x_6.length +
  [x.getD x_7.toNat FK.stop.zero].length) * ((8 : Nat) * (2 : Nat)) ≤ (140737488355328 : Nat)) ∧ ((x_2 = x_2 ∧ x_3 = x_3 ∧ x_4 = x_4 ∧ wrap (x_7 + (1 : Int)) = wrap (x_7 + (1 : Int))) ∧ x_6 ++ [x.getD x_7.toNat FK.stop.zero] = x_6 ++ [x.getD
  x_7.toNat FK.stop.zero] ∧ x = x) ∧ inv (x_6 ++ [x.getD x_7.toNat FK.stop.zero]) (wrap (x_7 + (1 : Int))) ∧ μ (x_6 ++ [x.getD x_7.toNat FK.stop.zero]) (wrap (x_7 + (1 : Int))) < μ x_6 x_7) ∧ (decide (x_7 < (↑x.length : Int)) = false → ((x_2
  = x_2 ∧ x_3 = x_3 ∧ x_4 = x_4 ∧ wrap (x_7 + (1 : Int)) = wrap (x_7 + (1 : Int))) ∧ x_6 = x_6 ∧ x = x) ∧ inv x_6 (wrap (x_7 + (1 : Int))) ∧ μ x_6 (wrap (x_7 + (1 : Int))) < μ x_6 x_7)))) ∧ (decide (x_7 ≤ (↑x.length : Int)) = false → x_6 =
  putS x x_2 x_3 x_4)
theorem rSput_told (hc : CsOk Try.prog rSput_cs) (h : rSput_vc) : Told Try.prog 71 rSput_con := told (A := rSput_la) tabOk mixed hc Try.func71 (by kernel_rfl) (by kernel_rfl) h
end Go.Eng

/- How late stops may be begun; an order put between stops: it is so. -/
set_option linter.unusedVariables false
set_option linter.unusedSimpArgs false
namespace Go.Eng
open Go Go.Proofs

theorem putOk_iff {ss : List Stop} {i j : Int} : putOk ss i j = true ↔ 0 ≤ i ∧ i ≤ j ∧ j ≤ ss.length := by
  simp [putOk, and_assoc]
theorem putS_in {ss : List Stop} {id i j : Int} (h : 0 ≤ i ∧ i ≤ j ∧ j ≤ ss.length) : putS ss id i j = ss.take i.toNat ++ [⟨id, false⟩] ++ (ss.drop i.toNat).take (j.toNat - i.toNat) ++ [⟨id, true⟩] ++ ss.drop j.toNat := by
  unfold putS; rw [if_pos (putOk_iff.2 h)]
theorem putS_length {ss : List Stop} {id i j : Int} (h : 0 ≤ i ∧ i ≤ j ∧ j ≤ ss.length) : (putS ss id i j).length = ss.length + 2 := by
  rw [putS_in h]
  simp only [List.length_append, List.length_take, List.length_drop, List.length_cons, List.length_nil]
  omega
/-- What is still to come. -/
def remS (ss : List Stop) (id : Int) (i j k : Nat) : List Stop :=
  if k ≤ i then (ss.drop k).take (i - k) ++ ([⟨id, false⟩] ++ ((ss.drop i).take (j - i) ++ ([⟨id, true⟩] ++ ss.drop j)))
  else if k ≤ j then (ss.drop k).take (j - k) ++ ([⟨id, true⟩] ++ ss.drop j) else ss.drop k
theorem remS_step {ss : List Stop} {id : Int} {i j k : Nat} (hij : i ≤ j) (hj : j ≤ ss.length) :
    remS ss id i j k = (if k = i then [⟨id, false⟩] else []) ++ ((if k = j then [⟨id, true⟩] else []) ++ ((if k < ss.length then [ss.getD k (FK.zero .stop)] else []) ++ remS ss id i j (k + 1))) := by
  have hd : k < ss.length → ss.drop k = ss.getD k (FK.zero .stop) :: ss.drop (k + 1) := fun h => getD_drop h
  have hd' : ¬ k < ss.length → ss.drop k = [] ∧ ss.drop (k + 1) = [] := fun h => ⟨List.drop_eq_nil_of_le (by omega), List.drop_eq_nil_of_le (by omega)⟩
  unfold remS
  have T : ∀ {p : Prop}, p → (p ↔ True) := fun h => iff_true_intro h
  have F : ∀ {p : Prop}, ¬ p → (p ↔ False) := fun h => iff_false_intro h
  by_cases h1 : k < i
  · rw [hd (by omega), show i - k = (i - (k + 1)) + 1 by omega, List.take_succ_cons]
    simp only [T (show k ≤ i by omega), F (show ¬ k = i by omega), F (show ¬ k = j by omega), T (show k + 1 ≤ i by omega), T (show k < ss.length by omega), if_true, if_false, List.nil_append, List.cons_append]
  · by_cases h2 : k = i
    · subst h2
      by_cases h3 : k = j
      · subst h3
        simp only [Nat.le_refl, F (show ¬ k + 1 ≤ k by omega), if_true, if_false, Nat.sub_self, List.take_zero, List.nil_append]
        by_cases h4 : k < ss.length
        · simp only [h4, if_true, hd h4, List.cons_append, List.nil_append]
        · simp only [h4, if_false, (hd' h4).1, (hd' h4).2]; rfl
      · simp only [Nat.le_refl, h3, F (show ¬ k + 1 ≤ k by omega), T (show k + 1 ≤ j by omega), T (show k < ss.length by omega), if_true, if_false, Nat.sub_self, List.take_zero, List.nil_append]
        rw [hd (by omega), show j - k = (j - (k + 1)) + 1 by omega, List.take_succ_cons]
        simp only [List.cons_append, List.nil_append]
    · by_cases h3 : k < j
      · simp only [F (show ¬ k ≤ i by omega), h2, F (show ¬ k = j by omega), F (show ¬ k + 1 ≤ i by omega), T (show k ≤ j by omega), T (show k + 1 ≤ j by omega), T (show k < ss.length by omega), if_true, if_false, List.nil_append]
        rw [hd (by omega), show j - k = (j - (k + 1)) + 1 by omega, List.take_succ_cons]
        simp only [List.cons_append, List.nil_append]
      · by_cases h4 : k = j
        · subst h4
          simp only [F (show ¬ k ≤ i by omega), h2, F (show ¬ k + 1 ≤ i by omega), Nat.le_refl, F (show ¬ k + 1 ≤ k by omega), if_true, if_false, Nat.sub_self, List.take_zero, List.nil_append]
          by_cases h5 : k < ss.length
          · simp only [h5, if_true, hd h5, List.cons_append, List.nil_append]
          · simp only [h5, if_false, (hd' h5).1, (hd' h5).2]; rfl
        · simp only [F (show ¬ k ≤ i by omega), h2, h4, F (show ¬ k + 1 ≤ i by omega), F (show ¬ k ≤ j by omega), F (show ¬ k + 1 ≤ j by omega), if_false, List.nil_append]
          by_cases h5 : k < ss.length
          · simp only [h5, if_true, hd h5, List.cons_append, List.nil_append]
          · simp only [h5, if_false, (hd' h5).1, (hd' h5).2]; rfl
theorem remS_zero {ss : List Stop} {id i j : Int} (h : 0 ≤ i ∧ i ≤ j ∧ j ≤ ss.length) : remS ss id i.toNat j.toNat 0 = putS ss id i j := by
  rw [putS_in h]
  unfold remS
  rw [if_pos (by omega)]
  simp
theorem remS_end {ss : List Stop} {id : Int} {i j k : Nat} (hij : i ≤ j) (hj : j ≤ ss.length) (h : ss.length < k) : remS ss id i j k = [] := by
  unfold remS
  rw [if_neg (by omega), if_neg (by omega)]
  exact List.drop_eq_nil_of_le (by omega)
theorem rSput_ok : rSput_vc := by
  unfold rSput_vc
  simp only [bad_false, int0, nilOf, decide_eq_true_eq, decide_eq_false_iff_not, Bool.not_eq_true', Bool.not_eq_false', Bool.not_true, Bool.not_false, Bool.false_eq_true, Bool.true_eq_false, eq_self, true_and, and_true, false_or, or_false, false_implies, true_implies, implies_true, Int.not_lt, Int.not_le, gt_iff_lt, ge_iff_le, ne_eq]
  intro ss hl id i j hb
  have hl := hl.le
  obtain ⟨hb, hp⟩ := hb
  have hp := putOk_iff.1 hp
  have hlen := putS_length (id := id) hp
  refine ⟨fun l k => 0 ≤ k ∧ k ≤ ss.length + 1 ∧ l ++ remS ss id i.toNat j.toNat k.toNat = putS ss id i j, fun l k => ss.length + 2 - k.toNat, ⟨by omega, by omega, ?_⟩, fun l k hi => ⟨fun h => ?_, fun h => ?_⟩⟩
  · rw [List.nil_append]; exact remS_zero hp
  · obtain ⟨k0, k1, hI⟩ := hi
    rw [remS_step (by omega) (by omega)] at hI
    have hll : l.length ≤ ss.length + 2 := by rw [← hlen, ← hI]; simp
    rw [wrap_id (by omega) (by omega)]
    dsimp only
    rw [show (k + 1).toNat = k.toNat + 1 by omega]
    have hlt : k < ss.length ↔ k.toNat < ss.length := by omega
    have hki : k = i ↔ k.toNat = i.toNat := by omega
    have hkj : k = j ↔ k.toNat = j.toNat := by omega
    have fin : ∀ l' : List Stop, l' ++ remS ss id i.toNat j.toNat (k.toNat + 1) = putS ss id i j → (0 ≤ k + 1 ∧ k + 1 ≤ ss.length + 1 ∧ l' ++ remS ss id i.toNat j.toNat (k.toNat + 1) = putS ss id i j) ∧ ss.length + 2 - (k.toNat + 1) < ss.length + 2 - k.toNat := fun l' h' => ⟨⟨by omega, by omega, h'⟩, by omega⟩
    have leng : ∀ l' : List Stop, l' ++ remS ss id i.toNat j.toNat (k.toNat + 1) = putS ss id i j → l'.length ≤ ss.length + 2 := fun l' h' => by rw [← hlen, ← h']; simp
    refine ⟨fun h1 => ?_, fun h1 => ?_⟩
    · rw [if_pos (hki.1 h1)] at hI
      refine ⟨?_, fun h2 => ?_, fun h2 => ?_⟩
      · have : (l ++ [Stop.mk id false]).length ≤ ss.length + 2 := by rw [← hlen, ← hI]; simp <;> omega
        simp at this ⊢; omega
      · rw [if_pos (hkj.1 h2)] at hI
        refine ⟨?_, fun h3 => ?_, fun h3 => ?_⟩
        · have : (l ++ [Stop.mk id false] ++ [Stop.mk id true]).length ≤ ss.length + 2 := by rw [← hlen, ← hI]; simp <;> omega
          simp at this ⊢; omega
        · rw [if_pos (hlt.1 h3)] at hI
          have e : l ++ [Stop.mk id false] ++ [Stop.mk id true] ++ [ss.getD k.toNat (FK.zero .stop)] ++ remS ss id i.toNat j.toNat (k.toNat + 1) = putS ss id i j := by rw [← hI]; simp
          refine ⟨⟨k0, h3⟩, by omega, ?_, fin _ e⟩
          have := leng _ e
          simp at this ⊢; omega
        · rw [if_neg (by omega)] at hI
          exact fin _ (by rw [← hI]; simp)
      · rw [if_neg (by omega)] at hI
        refine ⟨fun h3 => ?_, fun h3 => ?_⟩
        · rw [if_pos (hlt.1 h3)] at hI
          have e : l ++ [Stop.mk id false] ++ [ss.getD k.toNat (FK.zero .stop)] ++ remS ss id i.toNat j.toNat (k.toNat + 1) = putS ss id i j := by rw [← hI]; simp
          refine ⟨⟨k0, h3⟩, by omega, ?_, fin _ e⟩
          have := leng _ e
          simp at this ⊢; omega
        · rw [if_neg (by omega)] at hI
          exact fin _ (by rw [← hI]; simp)
    · rw [if_neg (by omega)] at hI
      refine ⟨fun h2 => ?_, fun h2 => ?_⟩
      · rw [if_pos (hkj.1 h2)] at hI
        refine ⟨?_, fun h3 => ?_, fun h3 => ?_⟩
        · have : (l ++ [Stop.mk id true]).length ≤ ss.length + 2 := by rw [← hlen, ← hI]; simp <;> omega
          simp at this ⊢; omega
        · rw [if_pos (hlt.1 h3)] at hI
          have e : l ++ [Stop.mk id true] ++ [ss.getD k.toNat (FK.zero .stop)] ++ remS ss id i.toNat j.toNat (k.toNat + 1) = putS ss id i j := by rw [← hI]; simp
          refine ⟨⟨k0, h3⟩, by omega, ?_, fin _ e⟩
          have := leng _ e
          simp at this ⊢; omega
        · rw [if_neg (by omega)] at hI
          exact fin _ (by rw [← hI]; simp)
      · rw [if_neg (by omega)] at hI
        refine ⟨fun h3 => ?_, fun h3 => ?_⟩
        · rw [if_pos (hlt.1 h3)] at hI
          have e : l ++ [ss.getD k.toNat (FK.zero .stop)] ++ remS ss id i.toNat j.toNat (k.toNat + 1) = putS ss id i j := by rw [← hI]; simp
          refine ⟨⟨k0, h3⟩, by omega, ?_, fin _ e⟩
          have := leng _ e
          simp at this ⊢; omega
        · rw [if_neg (by omega)] at hI
          exact fin _ (by rw [← hI]; simp)
  · obtain ⟨k0, k1, hI⟩ := hi
    rw [remS_end (by omega) (by omega) (by omega), List.append_nil] at hI
    exact hI
theorem rSput_t : Told Try.prog 71 rSput_con := rSput_told csOk_nil rSput_ok
theorem findO_isNone {os : List Order} {id : Int} : (findO os id).isNone = !(findO os id).isSome := by cases findO os id <;> rfl
end Go.Eng

/- Plans copied, stops put in and taken out, in plain words; what the functions tell. -/
set_option linter.unusedVariables false
set_option linter.unusedSimpArgs false
namespace Go.Eng
open Go Go.Proofs
/-- A list of routes that fits into memory. -/
def PlanFits (p : List Route) : Prop := p.length * 40 ≤ 140737488351232 ∧ ∀ r ∈ p, r.stops.length * 16 ≤ 140737488351232
noncomputable def sameP (a b : List Route) : Bool := @decide (a = b) (Classical.propDecidable _)
/-! ### Contracts -/
def kcopy_con : Con := ⟨[.c (.a .route)], fun p => ⟨some (PlanFits p), [⟨none, [.c (.od .route 41 p)]⟩]⟩⟩
def kcopy_cs : Cons := []
def kcopy_la : List (Nat × LA) := [(3, ⟨[0], [.appd 3 .route 41, .i 4]⟩)]
noncomputable def kroutes_con : Con := ⟨[.c (.a .route), .c (.a .route)], fun a b => one [.c (.b (sameP a b))]⟩
noncomputable def kroutes_cs : Cons := [(49, sameS_con)]
def kroutes_la : List (Nat × LA) := [(4, ⟨[0, 1], [.i 5]⟩)]
end Go.Eng

/- The conditions of functions, as print.. of the engine told them. -/
set_option linter.unusedVariables false
namespace Go.Eng
open Go Go.Proofs
def kcopy_vc : Prop :=
  ∀ (x : List Route), (LenOk x.length ∧ ∀ (r : Route), List.Mem r x → LenOk r.stops.length) → (x.length * (40 : Nat) ≤ (140737488351232 : Nat) ∧ ∀ (r : Route), List.Mem r x → r.stops.length * (16 : Nat) ≤ (140737488351232 : Nat)) → ∃ (inv :
  List Route → Int → Prop), ∃ (μ : List Route → Int → Nat), (((0 : Int) = (0 : Int) ∧ nilOf Route = nilOf Route ∧ x = x) ∧ inv [] (0 : Int)) ∧ ∀ (x_3 : List Route) (x_4 : Int), inv x_3 x_4 → (decide (x_4 < (↑x.length : Int)) = true → ((0 :
  Int) ≤ x_4 ∧ x_4 < (↑x.length : Int)) ∧ x_4.toNat < x.length ∧ ((0 : Int) ≤ x_4 ∧ x_4 < (↑x.length : Int)) ∧ x_4.toNat < x.length ∧ ((0 : Int) ≤ x_4 ∧ x_4 < (↑x.length : Int)) ∧ x_4.toNat < x.length ∧ (True ∧ ((0 : Nat) + (x.getD x_4.toNat
  (Route.mk (0 : Int) (0 : Int) [])).stops.length) * ((8 : Nat) * (2 : Nat)) ≤ (140737488355328 : Nat)) ∧ (x_3.length + [Route.mk (x.getD x_4.toNat (Route.mk (0 : Int) (0 : Int) [])).driver (x.getD x_4.toNat (Route.mk (0 : Int) (0 : Int)
  [])).served ([] ++ (x.getD x_4.toNat (Route.mk (0 : Int) (0 : Int) [])).stops)].length) * K.route.byt ≤ (140737488355328 : Nat) ∧ (wrap (x_4 + (1 : Int)) = wrap (x_4 + (1 : Int)) ∧ x_3 ++ [Route.mk (x.getD x_4.toNat (Route.mk (0 : Int) (0 :
  Int) [])).driver (x.getD x_4.toNat (Route.mk (0 : Int) (0 : Int) [])).served ([] ++ (x.getD x_4.toNat (Route.mk (0 : Int) (0 : Int) [])).stops)] = x_3 ++ [Route.mk (x.getD x_4.toNat (Route.mk (0 : Int) (0 : Int) [])).driver (x.getD
  x_4.toNat (Route.mk (0 : Int) (0 : Int) [])).served ([] ++ (x.getD x_4.toNat (Route.mk (0 : Int) (0 : Int) [])).stops)] ∧ x = x) ∧ inv (x_3 ++ [Route.mk (x.getD x_4.toNat (Route.mk (0 : Int) (0 : Int) [])).driver (x.getD x_4.toNat (Route.mk
  (0 : Int) (0 : Int) [])).served ([] ++ (x.getD x_4.toNat (Route.mk (0 : Int) (0 : Int) [])).stops)]) (wrap (x_4 + (1 : Int))) ∧ μ (x_3 ++ [Route.mk (x.getD x_4.toNat (Route.mk (0 : Int) (0 : Int) [])).driver (x.getD x_4.toNat (Route.mk (0 :
  Int) (0 : Int) [])).served ([] ++ (x.getD x_4.toNat (Route.mk (0 : Int) (0 : Int) [])).stops)]) (wrap (x_4 + (1 : Int))) < μ x_3 x_4) ∧ (decide (x_4 < (↑x.length : Int)) = false → x_3 = x)
theorem kcopy_told (hc : CsOk Try.prog kcopy_cs) (h : kcopy_vc) : Told Try.prog 23 kcopy_con := told (A := kcopy_la) tabOk mixed hc Try.func23 (by kernel_rfl) (by kernel_rfl) h
def kroutes_vc : Prop :=
  ∀ (x : List Route), (LenOk x.length ∧ ∀ (r : Route), List.Mem r x → LenOk r.stops.length) → ∀ (x_2 : List Route), (LenOk x_2.length ∧ ∀ (r : Route), List.Mem r x_2 → LenOk r.stops.length) → ((!decide ((↑x.length : Int) = (↑x_2.length :
  Int))) = true → false = sameP x x_2) ∧ ((!decide ((↑x.length : Int) = (↑x_2.length : Int))) = false → ∃ (inv : Int → Prop), ∃ (μ : Int → Nat), (((0 : Int) = (0 : Int) ∧ x_2 = x_2 ∧ x = x) ∧ inv (0 : Int)) ∧ ∀ (x_5 : Int), inv x_5 → (decide
  (x_5 < (↑x.length : Int)) = true → ((0 : Int) ≤ x_5 ∧ x_5 < (↑x.length : Int)) ∧ x_5.toNat < x.length ∧ ((0 : Int) ≤ x_5 ∧ x_5 < (↑x_2.length : Int)) ∧ x_5.toNat < x_2.length ∧ ((!decide ((x.getD x_5.toNat (Route.mk (0 : Int) (0 : Int)
  [])).driver = (x_2.getD x_5.toNat (Route.mk (0 : Int) (0 : Int) [])).driver)) = false → ((0 : Int) ≤ x_5 ∧ x_5 < (↑x.length : Int)) ∧ x_5.toNat < x.length ∧ ((0 : Int) ≤ x_5 ∧ x_5 < (↑x_2.length : Int)) ∧ x_5.toNat < x_2.length ∧ ((!decide
  ((x.getD x_5.toNat (Route.mk (0 : Int) (0 : Int) [])).served = (x_2.getD x_5.toNat (Route.mk (0 : Int) (0 : Int) [])).served)) = false → ((0 : Int) ≤ x_5 ∧ x_5 < (↑x.length : Int)) ∧ x_5.toNat < x.length ∧ ((0 : Int) ≤ x_5 ∧ x_5 <
  (↑x_2.length : Int)) ∧ x_5.toNat < x_2.length ∧ ((!same (x.getD x_5.toNat (Route.mk (0 : Int) (0 : Int) [])).stops (x_2.getD x_5.toNat (Route.mk (0 : Int) (0 : Int) [])).stops) = true → false = sameP x x_2) ∧ ((!same (x.getD x_5.toNat
  (Route.mk (0 : Int) (0 : Int) [])).stops (x_2.getD x_5.toNat (Route.mk (0 : Int) (0 : Int) [])).stops) = false → (wrap (x_5 + (1 : Int)) = wrap (x_5 + (1 : Int)) ∧ x_2 = x_2 ∧ x = x) ∧ inv (wrap (x_5 + (1 : Int))) ∧ μ (wrap (x_5 + (1 :
  Int))) < μ x_5)) ∧ ((!decide ((x.getD x_5.toNat (Route.mk (0 : Int) (0 : Int) [])).served = (x_2.getD x_5.toNat (Route.mk (0 : Int) (0 : Int) [])).served)) = !false → false = sameP x x_2)) ∧ ((!decide ((x.getD x_5.toNat (Route.mk (0 : Int)
  (0 : Int) [])).driver = (x_2.getD x_5.toNat (Route.mk (0 : Int) (0 : Int) [])).driver)) = !false → false = sameP x x_2)) ∧ (decide (x_5 < (↑x.length : Int)) = false → true = sameP x x_2))
theorem kroutes_told (hc : CsOk Try.prog kroutes_cs) (h : kroutes_vc) : Told Try.prog 25 kroutes_con := told (A := kroutes_la) tabOk mixed hc Try.func25 (by kernel_rfl) (by kernel_rfl) h
end Go.Eng

/- Plans copied, stops put in and taken out: it is so. -/
set_option linter.unusedVariables false
set_option linter.unusedSimpArgs false
namespace Go.Eng
open Go Go.Proofs
theorem takeS {α : Type} {l : List α} {i : Nat} (d : α) (h : i < l.length) : l.take (i + 1) = l.take i ++ [l.getD i d] := by
  rw [List.take_succ_eq_append_getElem h, getD_get d h]
theorem kcopy_ok : kcopy_vc := by
  unfold kcopy_vc
  simp only [bad_false, int0, nilOf, decide_eq_true_eq, decide_eq_false_iff_not, Bool.not_eq_true', Bool.not_eq_false', Bool.not_true, Bool.not_false, Bool.false_eq_true, Bool.true_eq_false, eq_self, true_and, and_true, false_or, or_false, false_implies, true_implies, implies_true, Int.not_lt, Int.not_le, gt_iff_lt, ge_iff_le, ne_eq]
  rintro x ⟨hl, hr⟩ ⟨hb, hb'⟩
  have hl := hl.le
  refine ⟨fun o i => 0 ≤ i ∧ i ≤ x.length ∧ o = x.take i.toNat, fun _ i => x.length - i.toNat, ⟨by omega, by omega, by simp⟩, fun o i hi => ⟨fun h => ?_, fun h => ?_⟩⟩
  · obtain ⟨h0, h1, rfl⟩ := hi
    obtain ⟨e1, e2, e3, e4⟩ := ix rz hl h0 h
    have hm := hb' _ (getD_mem rz e3)
    rw [e1]; dsimp only; rw [e2, takeS rz e3]
    change List Route at x
    generalize x.getD i.toNat { driver := 0, served := 0, stops := [] } = r at *
    refine ⟨⟨h0, h⟩, e3, ⟨h0, h⟩, e3, ⟨h0, h⟩, e3, by omega, ?_, ⟨by omega, by omega, by simp⟩, by omega⟩
    simp only [K.byt, List.length_take, List.length_cons, List.length_nil]; omega
  · obtain ⟨h0, h1, rfl⟩ := hi
    exact List.take_of_length_le (by omega)
theorem kcopy_t : Told Try.prog 23 kcopy_con := kcopy_told csOk_nil kcopy_ok
theorem sameP_iff {a b : List Route} : sameP a b = true ↔ a = b := by simp [sameP]
theorem sameP_no {a b : List Route} (h : a ≠ b) : false = sameP a b := by simp [sameP, h]
theorem kroutes_ok : kroutes_vc := by
  unfold kroutes_vc
  simp only [bad_false, int0, nilOf, decide_eq_true_eq, decide_eq_false_iff_not, Bool.not_eq_true', Bool.not_eq_false', Bool.not_true, Bool.not_false, Bool.false_eq_true, Bool.true_eq_false, eq_self, true_and, and_true, false_or, or_false, false_implies, true_implies, implies_true, Int.not_lt, Int.not_le, gt_iff_lt, ge_iff_le, ne_eq]
  rintro x ⟨hl, hr⟩ y ⟨hl', hr'⟩
  have hl := hl.le
  refine ⟨fun hn => sameP_no fun e => hn (by rw [e]), fun hn => ⟨fun i => 0 ≤ i ∧ i ≤ x.length ∧ x.take i.toNat = y.take i.toNat, fun i => x.length - i.toNat, ⟨by omega, by omega, by simp⟩, fun i hi => ⟨fun h => ?_, fun h => ?_⟩⟩⟩
  · obtain ⟨h0, h1, hI⟩ := hi
    obtain ⟨e1, e2, e3, e4⟩ := ix rz hl h0 h
    have e3' : i.toNat < y.length := by omega
    have hT := takeS rz e3
    have hT' := takeS rz e3'
    have hne : x.getD i.toNat rz ≠ y.getD i.toNat rz → false = sameP x y := fun q => sameP_no fun e => q (by rw [e])
    rw [e1]; dsimp only; rw [e2]
    have b1 : 0 ≤ i ∧ i < (x.length : Int) := ⟨h0, h⟩
    have b2 : 0 ≤ i ∧ i < (y.length : Int) := ⟨h0, by omega⟩
    change List Route at x y
    generalize x.getD i.toNat { driver := 0, served := 0, stops := [] } = r at *
    generalize y.getD i.toNat { driver := 0, served := 0, stops := [] } = r' at *
    refine ⟨b1, e3, b2, e3', fun q1 => ⟨b1, e3, b2, e3', fun q2 => ⟨b1, e3, b2, e3', fun q3 => hne fun e => ?_, fun q3 => ⟨⟨by omega, by omega, ?_⟩, by omega⟩⟩, fun q2 => hne fun e => q2 (by rw [e])⟩, fun q1 => hne fun e => q1 (by rw [e])⟩
    · rw [e, same_self] at q3; cases q3
    · rw [hT, hT', hI]
      have : r = r' := by
        cases r; cases r'
        have q4 := same_iff.1 q3
        clear q3
        simp only at q1 q2 q4
        subst q1 q2 q4; rfl
      rw [this]
  · obtain ⟨h0, h1, hI⟩ := hi
    rw [List.take_of_length_le (by omega), List.take_of_length_le (by omega)] at hI
    exact (sameP_iff.2 hI).symm
theorem kroutes_t : Told Try.prog 25 kroutes_con := kroutes_told (csOk_cons sameS_t csOk_nil) kroutes_ok
end Go.Eng

/- Plans: plain laws that others use. -/
set_option linter.unusedVariables false
set_option linter.unusedSimpArgs false
namespace Go.Eng
open Go Go.Proofs
theorem stands_iff {l : List Stop} {s : Stop} : stands l s = true ↔ s ∈ l := by
  unfold stands
  rw [List.any_eq_true]
  constructor
  · rintro ⟨x, hx, he⟩
    have : x = s := by cases x; cases s; simpa [sEq] using he
    exact this ▸ hx
  · intro h
    exact ⟨s, h, by simp [sEq]⟩
theorem findD_mem {id : Int} {l : List Driver} {d : Driver} (h : findD id l = some d) : d ∈ l ∧ d.id = id := by
  induction l with
  | nil => cases h
  | cons a l ih =>
    rw [findD] at h
    split at h
    · cases h; simp [*]
    · exact ⟨List.mem_cons_of_mem _ (ih h).1, (ih h).2⟩
theorem well_driver {m : MapD} {ds : List Driver} {os : List Order} {p : List Route} (h : wellP (some m) ds os p = true) {d : Driver} (hd : d ∈ ds) : driverE (some m) d = 0 := by
  obtain ⟨k, hk, rfl⟩ := List.getElem_of_mem hd
  have := (okD_iff.1 ((wellP_iff.1 h).2.2.2.2 k hk)).1
  rwa [getD_get _ hk] at this
theorem well_timed {m : MapD} {ds : List Driver} {os : List Order} {p : List Route} (hm : MapOk m) (h : wellP (some m) ds os p = true) {r : Route} (hr : r ∈ p) {d : Driver} (hd : d ∈ ds) : TimedPre m d os r.stops :=
  ⟨hm, driverE_ok (well_driver h hd), (wellP_iff.1 h).2.2.1, (okR_mem (rightP_iff.1 (wellP_iff.1 h).2.2.2.1).2 r hr).2.2.1⟩
end Go.Eng

/- Certificates: it is so. -/
set_option linter.unusedVariables false
set_option linter.unusedSimpArgs false
namespace Go.Eng
open Go Go.Proofs
/-- What is still to be made. -/
theorem makeGo_step {m : MapD} {ds : List Driver} {os : List Order} {i : Nat} {r : Route} {l : List Route} {vs : List (List Visit)} {W : Except Fault (List (List Visit))} (h : W = match makeGo m ds os i (r :: l) with | .error f => .error f | .ok w => .ok (vs ++ w)) :
    (findD r.driver ds = none → W = .error ⟨i, 8⟩) ∧ (∀ d, findD r.driver ds = some d → (∀ f, drive (some m) d os r.stops = .error f → W = .error ⟨i, f.why⟩) ∧
      ∀ v, drive (some m) d os r.stops = .ok v → W = match makeGo m ds os (i + 1) l with | .error f => .error f | .ok w => .ok (vs ++ [v] ++ w)) := by
  rw [makeGo] at h
  refine ⟨fun e => by rw [e] at h; exact h, fun d e => ⟨fun f ef => by rw [e] at h; dsimp only at h; rw [ef] at h; exact h, fun v ev => ?_⟩⟩
  rw [e] at h; dsimp only at h; rw [ev] at h; dsimp only at h
  rw [h]
  cases makeGo m ds os (i + 1) l with
  | error f => rfl
  | ok w => simp
theorem well_drive {m : MapD} {ds : List Driver} {os : List Order} {p : List Route} (h : wellP (some m) ds os p = true) {r : Route} (hr : r ∈ p) {d : Driver} (hd : d ∈ ds) : drive (some m) d os r.stops = driveT m d os r.stops := by
  have hR := rightP_iff.1 (wellP_iff.1 h).2.2.2.1
  have : fitB (some m) d os r.stops = true := by
    simp [fitB, well_driver h hd, (wellP_iff.1 h).2.2.1, (okR_mem hR.2 r hr).2.2.1]
  unfold drive
  dsimp only
  rw [if_pos this]
theorem driveT_good {r : Except Fault (List Visit)} : (good (fauR r) = true → (∃ v, r = .ok v) ∨ ∃ f, r = .error f ∧ f.why = 0) ∧ (good (fauR r) = false → ∃ f, r = .error f) := by
  cases r with
  | ok v => exact ⟨fun _ => .inl ⟨v, rfl⟩, fun h => by simp [fauR, good] at h⟩
  | error f => exact ⟨fun h => .inr ⟨f, rfl, of_decide_eq_true h⟩, fun _ => ⟨f, rfl⟩⟩
theorem driveT_ok {m : MapD} {d : Driver} {os : List Order} {ss : List Stop} (h : good (fauR (driveT m d os ss)) = true) : ∃ v, driveT m d os ss = .ok v := by
  rcases driveT_good.1 h with h | ⟨f, h1, h2⟩
  · exact h
  · exact absurd h2 (driveGo_why h1)
theorem byt_rows : (K.rows FK.visit).byt = 24 := rfl
theorem cmake_ok : cmake_vc := by
  unfold cmake_vc
  simp only [bad_false, int0, nilOf, decide_eq_true_eq, decide_eq_false_iff_not, Bool.not_eq_true', Bool.not_eq_false', Bool.not_true, Bool.not_false, Bool.false_eq_true, Bool.true_eq_false, eq_self, true_and, and_true, false_or, or_false, false_implies, true_implies, implies_true, Int.not_lt, Int.not_le, gt_iff_lt, ge_iff_le, ne_eq]
  refine ⟨fun ds _ os _ p _ hmo => ⟨hmo, fun _ => ⟨⟨rfl, rfl⟩, rfl⟩, fun h => by cases h⟩, ?_⟩
  intro m hm ds hd os ho p hp hmo
  have hpl := hp.1.le
  refine ⟨hmo, fun h => by simp [makeP, h, cfauR, certR], fun hw => ?_⟩
  have hR := rightP_iff.1 (wellP_iff.1 hw).2.2.2.1
  have hM : makeP (some m) ds os p = makeGo m ds os 0 p := by simp [makeP, hw]
  rw [hM]
  refine ⟨fun vs i => 0 ≤ i ∧ i ≤ p.length ∧ vs.length ≤ i.toNat ∧ makeGo m ds os 0 p = (match makeGo m ds os i.toNat (p.drop i.toNat) with | .error f => .error f | .ok w => .ok (vs ++ w)), fun _ i => p.length - i.toNat, ⟨by omega, by omega, by simp, ?_⟩, fun vs i hi => ⟨fun h => ?_, fun h => ?_⟩⟩
  · simp only [Int.toNat_zero, List.drop_zero, List.nil_append]
    cases makeGo m ds os 0 p <;> rfl
  · obtain ⟨h0, h1, hL, hI⟩ := hi
    obtain ⟨e1, e2, e3, e4⟩ := ix rz hpl h0 h
    have hrm := getD_mem rz e3
    have h8 := hR.1
    rw [e4] at hI
    rw [e1]; dsimp only; rw [e2]
    obtain ⟨s1, s2⟩ := makeGo_step hI
    change List Route at p
    generalize p.getD i.toNat { driver := 0, served := 0, stops := [] } = r at *
    refine ⟨⟨h0, h⟩, e3, fun q => ?_, fun q => ?_⟩
    · rw [s1 (by simpa using q)]
      exact ⟨⟨by show i = ((i.toNat : Nat) : Int); omega, rfl⟩, rfl⟩
    · obtain ⟨d, hd'⟩ := Option.isSome_iff_exists.1 q
      obtain ⟨t1, t2⟩ := s2 d hd'
      have hwd := well_drive hw hrm (findD_mem hd').1
      rw [hd']
      dsimp only [Option.getD]
      rw [hwd] at t1 t2
      refine ⟨well_timed (hmo m rfl) hw hrm (findD_mem hd').1, fun g => ?_, fun g => ?_⟩
      · obtain ⟨f, hf⟩ := driveT_good.2 g
        rw [t1 f hf, hf]
        exact ⟨⟨by show i = ((i.toNat : Nat) : Int); omega, rfl⟩, rfl⟩
      · obtain ⟨v, hv⟩ := driveT_ok g
        rw [byt_rows, hv]
        refine ⟨by simp only [List.length_cons, List.length_nil]; omega, ⟨by omega, by omega, by simp only [List.length_append, List.length_cons, List.length_nil]; omega, t2 v hv⟩, by omega⟩
  · obtain ⟨h0, h1, hL, hI⟩ := hi
    rw [ixEnd h] at hI
    rw [hI]
    simp [makeGo, cfauR, certR]
theorem cmake_t : Told Try.prog 19 cmake_con := cmake_told (csOk_cons ctog_t (csOk_cons cdriver_t (csOk_cons timed_t (csOk_cons goodF_t csOk_nil)))) cmake_ok
end Go.Eng

/- Plans: plain laws of what is right, and what is kept. -/
set_option linter.unusedVariables false
set_option linter.unusedSimpArgs false
namespace Go.Eng
open Go Go.Proofs
/-- Routes of the same drivers, with the same done. -/
def SimR (r r' : Route) : Prop := r'.driver = r.driver ∧ r'.served = r.served ∧ r'.stops.take r.served.toNat = r.stops.take r.served.toNat
inductive SimL : List Route → List Route → Prop
  | nil : SimL [] []
  | cons {r r' : Route} {l l' : List Route} : SimR r r' → SimL l l' → SimL (r :: l) (r' :: l')
theorem SimL.symm {l l' : List Route} (h : SimL l l') : SimL l' l := by
  induction h with
  | nil => exact .nil
  | cons h _ ih => exact .cons ⟨h.1.symm, h.2.1.symm, by rw [h.2.1]; exact h.2.2.symm⟩ ih
end Go.Eng

/- Certificates looked at: it is so. -/
set_option linter.unusedVariables false
set_option linter.unusedSimpArgs false
namespace Go.Eng
open Go Go.Proofs
end Go.Eng

/- An order's place looked for, in plain words; what the functions tell. -/
set_option linter.unusedVariables false
set_option linter.unusedSimpArgs false
namespace Go.Eng
open Go Go.Proofs
@[reducible] def eLeg : Nat := 119
@[reducible] def eState : Nat := 126
@[reducible] def tMap : Nat := 101
@[reducible] def tSearch : Nat := 124
def legO (o : Order) (drop : Bool) : Leg := if drop then ⟨o.dp, o.df, o.dt, o.ds, wrap (-o.size)⟩ else ⟨o.pp, o.pf, o.pt, o.ps, o.size⟩
def legT (os : List Order) (s : Stop) : Leg := legO (fo os s.order) s.drop
def stepT (m : MapD) (s : State) (l : Leg) : Int := (mtime (some m) s.pos l.pl).1
def stepB (m : MapD) (s : State) (l : Leg) : Int × Bool := begin_ ⟨l.lo, l.hi⟩ (wrap (s.now + stepT m s l))
def stepN (m : MapD) (s : State) (l : Leg) : State := ⟨wrap ((stepB m s l).1 + l.sv), l.pl, wrap (s.load + l.more), wrap (s.way + stepT m s l)⟩
def stepS (m : MapD) (d : Driver) (s : State) (l : Leg) : State × Bool := (stepN m s l, (stepB m s l).2 && decide ((stepN m s l).now ≤ d.hi) && decide ((stepN m s l).load ≤ d.room))
def runS (m : MapD) (d : Driver) : State × Bool → List Leg → State × Bool
  | r, [] => r
  | r, l :: ls => if r.2 then runS m d (stepS m d r.1 l) ls else r
def sz : State := FK.zero .state
def priceR (x : SearchD) (i j : Int) : State × Bool := runS x.m x.d (stepS x.m x.d (x.pre.getD i.toNat sz) x.pick) ((x.legs.drop i.toNat).take (j.toNat - i.toNat) ++ x.drop :: x.legs.drop j.toNat)
def priceS (x : SearchD) (i j : Int) : Int × Bool := (wrap ((priceR x i j).1.way - (x.pre.getD x.legs.length sz).way), (priceR x i j).2 && !x.full)
structure PricePre (x : SearchD) (i j : Int) : Prop where
  map : MapOk x.m
  i : 0 ≤ i ∧ i ≤ j
  j : j ≤ x.legs.length
  pre : x.pre.length = x.legs.length + 1
/-- The open places, one behind the other. -/
def rowP (i : Int) : Nat → Int → List (Int × Int)
  | 0, _ => []
  | k + 1, j => (i, j) :: rowP i k (j + 1)
def pairsP : Nat → Int → List (Int × Int)
  | 0, _ => []
  | k + 1, i => rowP i (k + 1) i ++ pairsP k (i + 1)
def hz : Hunt := ⟨0, 0, 0, 0, false, 0⟩
def huntStep (id : Int) (pr : Int → Int → Int × Bool) (h : Hunt) (p : Int × Int) : Hunt :=
  if (pr p.1 p.2).2 && (!h.found || decide ((pr p.1 p.2).1 < h.cost)) then ⟨id, p.1, p.2, (pr p.1 p.2).1, true, h.steps + 1⟩ else ⟨h.driver, h.pick, h.drop, h.cost, h.found, h.steps + 1⟩
def huntGo (id : Int) (pr : Int → Int → Int × Bool) (b : Int) : List (Int × Int) → Hunt → Hunt
  | [], h => h
  | p :: l, h => if b ≤ h.steps then h else huntGo id pr b l (huntStep id pr h p)
def places_ (served : Int) (n : Nat) : List (Int × Int) := pairsP ((n : Int) + 1 - served).toNat served
def bestS (x : SearchD) (served b : Int) : Hunt := huntGo x.d.id (priceS x) b (places_ served x.legs.length) hz
structure BestPre (x : SearchD) (served : Int) : Prop where
  map : MapOk x.m
  served : 0 ≤ served
  few : x.legs.length ≤ 1000
  pre : x.pre.length = x.legs.length + 1
def preGo (m : MapD) (d : Driver) (os : List Order) : State → List Stop → List State
  | _, [] => []
  | s, t :: l => stepN m s (legT os t) :: preGo m d os (stepN m s (legT os t)) l
def start (d : Driver) : State := ⟨d.lo, d.home, 0, 0⟩
def mkS (m : MapD) (d : Driver) (os : List Order) (ss : List Stop) (o : Order) : SearchD :=
  ⟨m, d, ss.map (legT os), start d :: preGo m d os (start d) ss, legO o false, legO o true, decide (40 ≤ (os.length : Int))⟩
def askedP (m : Option MapD) (os : List Order) (o : Order) (b : Int) : Bool := decide (orderE m o = 0) && !(findO os o.id).isSome && decide (0 ≤ b) && decide (b ≤ 100000)
/-- What bars the looking on a route. -/
def barP (m : Option MapD) (d : Driver) (os : List Order) (r : Route) (o : Order) (b : Int) : Int :=
  if !askedP m os o b || decide (r.driver ≠ d.id) || decide (r.served < 0) || decide ((r.stops.length : Int) < r.served) then 1
  else if !good (fauR (drive m d os r.stops)) then 1 else if d.retired then 23 else if 78 < (r.stops.length : Int) then 10 else 0
def tellH (h : Hunt) : Hunt × Int := if h.found then (h, 0) else (⟨0, 0, 0, 0, false, h.steps⟩, 20)
def bestP (m : Option MapD) (d : Driver) (os : List Order) (r : Route) (o : Order) (b : Int) : Hunt × Int :=
  if barP m d os r o b ≠ 0 then (hz, barP m d os r o b) else match m with
    | none => (hz, 1)
    | some x => tellH (bestS (mkS x d os r.stops o) r.served b)
def hspot (h : Hunt) : Spot := ⟨h.driver, h.pick, h.drop, h.cost⟩
def huntR (h : Hunt × Int) : List AV := [.r (SK.enc (.f .spot) (hspot h.1)), .c (.i h.1.steps), .c (.i h.2)]
/-- The best of two. -/
def huntJoin (h g : Hunt) : Hunt := if g.found && (!h.found || decide (g.cost < h.cost)) then ⟨g.driver, g.pick, g.drop, g.cost, true, h.steps + g.steps⟩ else ⟨h.driver, h.pick, h.drop, h.cost, h.found, h.steps + g.steps⟩
def fdD (ds : List Driver) (id : Int) : Driver := (findD id ds).getD (FK.zero .driver)
def closedTo (d : Driver) (r : Route) : Bool := d.retired || decide (78 < (r.stops.length : Int))
def lookGo (m : MapD) (ds : List Driver) (os : List Order) (o : Order) (b : Int) : List Route → Hunt → Hunt
  | [], h => h
  | r :: l, h => if closedTo (fdD ds r.driver) r then lookGo m ds os o b l h
    else lookGo m ds os o b l (huntJoin h (bestS (mkS m (fdD ds r.driver) os r.stops o) r.served (b - h.steps)))
def lookP (m : Option MapD) (ds : List Driver) (os : List Order) (p : List Route) (o : Order) (b : Int) : Hunt := match m with
  | none => hz
  | some x => lookGo x ds os o b p hz
structure LookPre (m : Option MapD) (p : List Route) (b : Int) : Prop where
  is : m.isSome = true
  map : ∀ x, m = some x → MapOk x
  b : 0 ≤ b ∧ b ≤ 100000
  few : p.length ≤ 1000
  served : ∀ r ∈ p, 0 ≤ r.served
noncomputable def cheapP (m : Option MapD) (ds : List Driver) (os : List Order) (p : List Route) (o : Order) (b : Int) : Hunt × Int :=
  if good (cfauR (makeP m ds os p)) && askedP m os o b then tellH (lookP m ds os p o b) else (hz, 1)
/-! ### The document's own -/
def alongPr (m : MapD) (d : Driver) (os : List Order) (ss : List Stop) (o : Order) (i j : Int) : Int × Bool :=
  (wrap ((cost (some m) d (os ++ [o]) (putS ss o.id i j)).1 - (cost (some m) d os ss).1), (cost (some m) d (os ++ [o]) (putS ss o.id i j)).2)
def alongP (m : MapD) (d : Driver) (os : List Order) (r : Route) (o : Order) (b : Int) (h : Hunt) : Hunt := huntGo d.id (alongPr m d os r.stops o) b (places_ r.served r.stops.length) h
structure AlongPre (m : MapD) (os : List Order) (r : Route) (h : Hunt) : Prop where
  map : MapOk m
  orders : os.length ≤ 1000
  served : 0 ≤ r.served
  few : r.stops.length ≤ 1000
  steps : 0 ≤ h.steps ∧ h.steps ≤ 100000000
def rBestP (m : Option MapD) (d : Driver) (os : List Order) (r : Route) (o : Order) (b : Int) : Hunt × Int :=
  if barP m d os r o b ≠ 0 then (hz, barP m d os r o b) else match m with
    | none => (hz, 1)
    | some x => tellH (alongP x d os r o b hz)
/-! ### Contracts -/
def legOf_con : Con := ⟨[.r (.f .order), .c .b], fun o b => one [.r (SK.enc (.f .leg) (legO o b))]⟩
def legOf_cs : Cons := []
def legOf_la : List (Nat × LA) := []
def step_con : Con := ⟨[.p (.search tMap) tSearch, .r (.f .state), .r (.f .leg)], fun x s l => ⟨some (MapOk x.m), [⟨none, [.r (SK.enc (.f .state) (stepS x.m x.d s l).1), .c (.b (stepS x.m x.d s l).2)]⟩]⟩⟩
def step_cs : Cons := [(58, time_con), (63, begin_con)]
def step_la : List (Nat × LA) := []
def price_con : Con := ⟨[.p (.search tMap) tSearch, .c .i, .c .i], fun x i j => ⟨some (PricePre x i j), [⟨none, [.c (.i (priceS x i j).1), .c (.b (priceS x i j).2)]⟩]⟩⟩
def price_cs : Cons := [(55, step_con)]
def price_la : List (Nat × LA) := [(3, ⟨[0, 2, 8], [.b 9, .i 10, .ci 8 0, .ci 8 1, .ci 8 2, .ci 8 3]⟩), (9, ⟨[0, 8], [.b 9, .i 11, .ci 8 0, .ci 8 1, .ci 8 2, .ci 8 3]⟩), (1000006, ⟨[0, 2, 8], [.b 9, .ci 8 0, .ci 8 1, .ci 8 2, .ci 8 3]⟩), (1000008, ⟨[0, 2, 8], [.b 9, .ci 8 0, .ci 8 1, .ci 8 2, .ci 8 3]⟩)]
def sbest_con : Con := ⟨[.p (.search tMap) tSearch, .c .i, .c .i], fun x s b => ⟨some (BestPre x s), [⟨none, [.r (SK.enc (.f .spot) (hspot (bestS x s b))), .c (.i (bestS x s b).steps), .c (.b (bestS x s b).found)]⟩]⟩⟩
def sbest_cs : Cons := [(56, price_con)]
def sbest_la : List (Nat × LA) := [(5, ⟨[0, 2, 6, 9, 12], [.i 10, .b 11, .i 13, .ci 9 0, .ci 9 1, .ci 9 2, .ci 9 3]⟩), (8, ⟨[0, 2, 6, 9, 12, 13], [.i 10, .b 11, .i 14, .ci 9 0, .ci 9 1, .ci 9 2, .ci 9 3]⟩)]
def made_con : Con := ⟨[.p .map tMap, .r (.f .driver), .c (.a (.f .order)), .c (.a (.f .stop)), .r (.f .order)], fun m d os ss o => ⟨some (MapOk m ∧ ss.length ≤ 1000),
  [⟨none, [.p true tSearch [.al 0, .i d.id, .i d.room, .i d.home, .i d.lo, .i d.hi, .b d.retired, .o .leg eLeg (mkS m d os ss o).legs, .o .state eState (mkS m d os ss o).pre, .i (legO o false).pl, .i (legO o false).lo, .i (legO o false).hi, .i (legO o false).sv, .i (legO o false).more,
    .i (legO o true).pl, .i (legO o true).lo, .i (legO o true).hi, .i (legO o true).sv, .i (legO o true).more, .b (mkS m d os ss o).full]]⟩]⟩⟩
def made_cs : Cons := [(54, legOf_con), (34, find_con), (55, step_con)]
def made_la : List (Nat × LA) := [(5, ⟨[2, 11, 12, 45, 46], [.i 47, .capp 11 7 .leg eLeg, .capp 11 8 .state eState, .ci 12 0, .ci 12 1, .ci 12 2, .ci 12 3]⟩)]
def asked_con : Con := ⟨[.q .map tMap, .c (.a (.f .order)), .r (.f .order), .c .i], fun m os o b => ⟨some (MapOkO m), [⟨none, [.c (.b (askedP m os o b))]⟩]⟩⟩
def asked_cs : Cons := [(34, find_con), (52, order_con)]
def asked_la : List (Nat × LA) := []
def ibest_con : Con := ⟨[.q .map tMap, .r (.f .driver), .c (.a (.f .order)), .r .route, .r (.f .order), .c .i], fun m d os r o b => ⟨some (MapOkO m), [⟨none, huntR (bestP m d os r o b)⟩]⟩⟩
def ibest_cs : Cons := [(29, asked_con), (30, drive_con), (20, good_con), (31, made_con), (32, sbest_con)]
def ibest_la : List (Nat × LA) := []
def look_con : Con := ⟨[.q .map tMap, .c (.a (.f .driver)), .c (.a (.f .order)), .c (.a .route), .r (.f .order), .c .i], fun m ds os p o b => ⟨some (LookPre m p b), [⟨none, huntR (tellH (lookP m ds os p o b))⟩]⟩⟩
def look_cs : Cons := [(40, cdriver_con), (31, made_con), (32, sbest_con)]
def look_la : List (Nat × LA) := [(4, ⟨[0, 1, 2, 5, 10, 12, 15, 25, 26], [.i 16, .b 17, .i 27, .ci 15 0, .ci 15 1, .ci 15 2, .ci 15 3]⟩)]
noncomputable def cheap_con : Con := ⟨[.q .map tMap, .c (.a (.f .driver)), .c (.a (.f .order)), .c (.a .route), .r (.f .order), .c .i], fun m ds os p o b => ⟨some (MapOkO m), [⟨none, huntR (cheapP m ds os p o b)⟩]⟩⟩
noncomputable def cheap_cs : Cons := [(19, cmake_con), (20, good_con), (29, asked_con), (35, look_con)]
def cheap_la : List (Nat × LA) := []
def ralong_con : Con := ⟨[.p .map 115, .r (.f .driver), .c (.a (.f .order)), .r .route, .r (.f .order), .c .i, .r (.f .hunt)], fun m d os r o b h => ⟨some (AlongPre m os r h), [⟨none, [.r (SK.enc (.f .hunt) (alongP m d os r o b h))]⟩]⟩⟩
def ralong_cs : Cons := [(70, rCost_con), (71, rSput_con)]
def ralong_la : List (Nat × LA) := [(4, ⟨[0, 5, 8, 10, 11, 13, 14, 15, 17], [.i 18, .ci 13 0, .ci 13 1, .ci 13 2, .ci 13 3, .cb 13 4, .ci 13 5]⟩), (7, ⟨[0, 5, 8, 10, 11, 13, 14, 15, 17, 18], [.i 19, .ci 13 0, .ci 13 1, .ci 13 2, .ci 13 3, .cb 13 4, .ci 13 5]⟩)]
def rtold_con : Con := ⟨[.r (.f .hunt)], fun h => one (huntR (tellH h))⟩
def rtold_cs : Cons := []
def rtold_la : List (Nat × LA) := []
def rbest_con : Con := ⟨[.q .map 115, .r (.f .driver), .c (.a (.f .order)), .r .route, .r (.f .order), .c .i], fun m d os r o b => ⟨some (MapOkO m), [⟨none, huntR (rBestP m d os r o b)⟩]⟩⟩
def rbest_cs : Cons := [(42, rDriver_con), (43, rOrder_con), (44, rKnown_con), (45, rFind_con), (46, rDrive_con), (48, ralong_con), (47, rtold_con)]
def rbest_la : List (Nat × LA) := []
end Go.Eng

/- The conditions of functions, as print.. of the engine told them. -/
set_option linter.unusedVariables false
namespace Go.Eng
open Go Go.Proofs
def ralong_vc : Prop :=
  ∀ (x : MapD), LenOk x.l.length → ∀ (x_2 : Driver) (x_3 : List Order), LenOk x_3.length → ∀ (x_5 : Route), LenOk x_5.stops.length → ∀ (x_7 : Order) (x_8 : Int) (x_9 : Hunt), AlongPre x x_3 x_5 x_9 → (∀ (x_11 : MapD), some x = some x_11 →
  MapOk x_11) ∧ (True ∧ ((0 : Nat) + x_3.length) * ((8 : Nat) * (10 : Nat)) ≤ (140737488355328 : Nat)) ∧ (True ∧ (([] ++ x_3).length + [x_7].length) * ((8 : Nat) * (10 : Nat)) ≤ (140737488355328 : Nat)) ∧ ∃ (inv : Int → Int → Int → Int → Int
  → Bool → Int → Prop), ∃ (μ : Int → Int → Int → Int → Int → Bool → Int → Nat), (((x_8 = x_8 ∧ (cost (some x) x_2 x_3 x_5.stops).fst = (cost (some x) x_2 x_3 x_5.stops).fst ∧ x_5.served = x_5.served) ∧ (x.n = x.n ∧ (x_2.id = x_2.id ∧ x_2.room
  = x_2.room ∧ x_2.home = x_2.home ∧ x_2.lo = x_2.lo ∧ x_2.hi = x_2.hi ∧ x_2.retired = x_2.retired) ∧ (x_5.driver = x_5.driver ∧ x_5.served = x_5.served) ∧ (x_7.id = x_7.id ∧ x_7.size = x_7.size ∧ x_7.pp = x_7.pp ∧ x_7.pf = x_7.pf ∧ x_7.pt =
  x_7.pt ∧ x_7.ps = x_7.ps ∧ x_7.dp = x_7.dp ∧ x_7.df = x_7.df ∧ x_7.dt = x_7.dt ∧ x_7.ds = x_7.ds) ∧ (x_9.driver = x_9.driver ∧ x_9.pick = x_9.pick ∧ x_9.drop = x_9.drop ∧ x_9.cost = x_9.cost ∧ x_9.found = x_9.found ∧ x_9.steps = x_9.steps)
  ∧ (0 : Int) = (0 : Int) ∧ (0 : Int) = (0 : Int) ∧ (0 : Int) = (0 : Int) ∧ (0 : Int) = (0 : Int) ∧ (0 : Int) = (0 : Int)) ∧ x_5.stops = x_5.stops ∧ x.l = x.l ∧ [] ++ x_3 ++ [x_7] = [] ++ x_3 ++ [x_7]) ∧ inv x_5.served x_9.driver x_9.pick
  x_9.drop x_9.cost x_9.found x_9.steps) ∧ ∀ (x_11 x_12 x_13 x_14 x_15 : Int) (x_16 : Bool) (x_17 : Int), inv x_11 x_12 x_13 x_14 x_15 x_16 x_17 → (decide (x_11 ≤ (↑x_5.stops.length : Int)) = true → ∃ (inv_1 : Int → Int → Int → Int → Int →
  Bool → Int → Prop), ∃ (μ_1 : Int → Int → Int → Int → Int → Bool → Int → Nat), (((x_8 = x_8 ∧ (cost (some x) x_2 x_3 x_5.stops).fst = (cost (some x) x_2 x_3 x_5.stops).fst ∧ x_11 = x_11 ∧ x_11 = x_11) ∧ (x.n = x.n ∧ (x_2.id = x_2.id ∧
  x_2.room = x_2.room ∧ x_2.home = x_2.home ∧ x_2.lo = x_2.lo ∧ x_2.hi = x_2.hi ∧ x_2.retired = x_2.retired) ∧ (x_5.driver = x_5.driver ∧ x_5.served = x_5.served) ∧ (x_7.id = x_7.id ∧ x_7.size = x_7.size ∧ x_7.pp = x_7.pp ∧ x_7.pf = x_7.pf ∧
  x_7.pt = x_7.pt ∧ x_7.ps = x_7.ps ∧ x_7.dp = x_7.dp ∧ x_7.df = x_7.df ∧ x_7.dt = x_7.dt ∧ x_7.ds = x_7.ds) ∧ (x_12 = x_12 ∧ x_13 = x_13 ∧ x_14 = x_14 ∧ x_15 = x_15 ∧ x_16 = x_16 ∧ x_17 = x_17) ∧ (0 : Int) = (0 : Int) ∧ (0 : Int) = (0 : Int)
  ∧ (0 : Int) = (0 : Int) ∧ (0 : Int) = (0 : Int) ∧ (0 : Int) = (0 : Int)) ∧ x_5.stops = x_5.stops ∧ x.l = x.l ∧ [] ++ x_3 ++ [x_7] = [] ++ x_3 ++ [x_7]) ∧ inv_1 x_11 x_12 x_13 x_14 x_15 x_16 x_17) ∧ ∀ (x_20 x_21 x_22 x_23 x_24 : Int) (x_25 :
  Bool) (x_26 : Int), inv_1 x_20 x_21 x_22 x_23 x_24 x_25 x_26 → (decide (x_20 ≤ (↑x_5.stops.length : Int)) = true → (decide (x_26 ≥ x_8) = true → x_21 = (alongP x x_2 x_3 x_5 x_7 x_8 x_9).driver ∧ x_22 = (alongP x x_2 x_3 x_5 x_7 x_8
  x_9).pick ∧ x_23 = (alongP x x_2 x_3 x_5 x_7 x_8 x_9).drop ∧ x_24 = (alongP x x_2 x_3 x_5 x_7 x_8 x_9).cost ∧ x_25 = (alongP x x_2 x_3 x_5 x_7 x_8 x_9).found ∧ x_26 = (alongP x x_2 x_3 x_5 x_7 x_8 x_9).steps) ∧ (decide (x_26 ≥ x_8) = false
  → (x_5.stops.length * (16 : Nat) ≤ (140737488351232 : Nat) ∧ putOk x_5.stops x_11 x_20 = true) ∧ (∀ (x_30 : MapD), some x = some x_30 → MapOk x_30) ∧ ((cost (some x) x_2 ([] ++ x_3 ++ [x_7]) (putS x_5.stops x_7.id x_11 x_20)).snd = true →
  ((!x_25) = false → (decide (wrap ((cost (some x) x_2 ([] ++ x_3 ++ [x_7]) (putS x_5.stops x_7.id x_11 x_20)).fst - (cost (some x) x_2 x_3 x_5.stops).fst) < x_24) = true → ((x_8 = x_8 ∧ (cost (some x) x_2 x_3 x_5.stops).fst = (cost (some x)
  x_2 x_3 x_5.stops).fst ∧ x_11 = x_11 ∧ wrap (x_20 + (1 : Int)) = wrap (x_20 + (1 : Int))) ∧ (x.n = x.n ∧ (x_2.id = x_2.id ∧ x_2.room = x_2.room ∧ x_2.home = x_2.home ∧ x_2.lo = x_2.lo ∧ x_2.hi = x_2.hi ∧ x_2.retired = x_2.retired) ∧
  (x_5.driver = x_5.driver ∧ x_5.served = x_5.served) ∧ (x_7.id = x_7.id ∧ x_7.size = x_7.size ∧ x_7.pp = x_7.pp ∧ x_7.pf = x_7.pf ∧ x_7.pt = x_7.pt ∧ x_7.ps = x_7.ps ∧ x_7.dp = x_7.dp ∧ x_7.df = x_7.df ∧ x_7.dt = x_7.dt ∧ x_7.ds = x_7.ds) ∧
  (x_2.id = x_2.id ∧ x_11 = x_11 ∧ x_20 = x_20 ∧ wrap ((cost (some x) x_2 ([] ++ x_3 ++ [x_7]) (putS x_5.stops x_7.id x_11 x_20)).fst - (cost (some x) x_2 x_3 x_5.stops).fst) = wrap ((cost (some x) x_2 ([] ++ x_3 ++ [x_7]) (putS x_5.stops
  x_7.id x_11 x_20)).fst - (cost (some x) x_2 x_3 x_5.stops).fst) ∧ true = true ∧ wrap (x_26 + (1 : Int)) = wrap (x_26 + (1 : Int))) ∧ (0 : Int) = (0 : Int) ∧ (0 : Int) = (0 : Int) ∧ (0 : Int) = (0 : Int) ∧ (0 : Int) = (0 : Int) ∧ (0 : Int) =
  (0 : Int)) ∧ x_5.stops = x_5.stops ∧ x.l = x.l ∧ [] ++ x_3 ++ [x_7] = [] ++ x_3 ++ [x_7]) ∧ inv_1 (wrap (x_20 + (1 : Int))) x_2.id x_11 x_20 (wrap ((cost (some x) x_2 ([] ++ x_3 ++ [x_7]) (putS x_5.stops x_7.id x_11 x_20)).fst - (cost (some
  x) x_2 x_3 x_5.stops).fst)) true (wrap (x_26 + (1 : Int))) ∧ μ_1 (wrap (x_20 + (1 : Int))) x_2.id x_11 x_20 (wrap ((cost (some x) x_2 ([] ++ x_3 ++ [x_7]) (putS x_5.stops x_7.id x_11 x_20)).fst - (cost (some x) x_2 x_3 x_5.stops).fst)) true
  (wrap (x_26 + (1 : Int))) < μ_1 x_20 x_21 x_22 x_23 x_24 x_25 x_26) ∧ (decide (wrap ((cost (some x) x_2 ([] ++ x_3 ++ [x_7]) (putS x_5.stops x_7.id x_11 x_20)).fst - (cost (some x) x_2 x_3 x_5.stops).fst) < x_24) = false → ((x_8 = x_8 ∧
  (cost (some x) x_2 x_3 x_5.stops).fst = (cost (some x) x_2 x_3 x_5.stops).fst ∧ x_11 = x_11 ∧ wrap (x_20 + (1 : Int)) = wrap (x_20 + (1 : Int))) ∧ (x.n = x.n ∧ (x_2.id = x_2.id ∧ x_2.room = x_2.room ∧ x_2.home = x_2.home ∧ x_2.lo = x_2.lo ∧
  x_2.hi = x_2.hi ∧ x_2.retired = x_2.retired) ∧ (x_5.driver = x_5.driver ∧ x_5.served = x_5.served) ∧ (x_7.id = x_7.id ∧ x_7.size = x_7.size ∧ x_7.pp = x_7.pp ∧ x_7.pf = x_7.pf ∧ x_7.pt = x_7.pt ∧ x_7.ps = x_7.ps ∧ x_7.dp = x_7.dp ∧ x_7.df =
  x_7.df ∧ x_7.dt = x_7.dt ∧ x_7.ds = x_7.ds) ∧ (x_21 = x_21 ∧ x_22 = x_22 ∧ x_23 = x_23 ∧ x_24 = x_24 ∧ x_25 = x_25 ∧ wrap (x_26 + (1 : Int)) = wrap (x_26 + (1 : Int))) ∧ (0 : Int) = (0 : Int) ∧ (0 : Int) = (0 : Int) ∧ (0 : Int) = (0 : Int)
  ∧ (0 : Int) = (0 : Int) ∧ (0 : Int) = (0 : Int)) ∧ x_5.stops = x_5.stops ∧ x.l = x.l ∧ [] ++ x_3 ++ [x_7] = [] ++ x_3 ++ [x_7]) ∧ inv_1 (wrap (x_20 + (1 : Int))) x_21 x_22 x_23 x_24 x_25 (wrap (x_26 + (1 : Int))) ∧ μ_1 (wrap (x_20 + (1 :
  Int))) x_21 x_22 x_23 x_24 x_25 (wrap (x_26 + (1 : Int))) < μ_1 x_20 x_21 x_22 x_23 x_24 x_25 x_26)) ∧ ((!x_25) = !false → ((x_8 = x_8 ∧ (cost (some x) x_2 x_3 x_5.stops).fst = (cost (some x) x_2 x_3 x_5.stops).fst ∧ x_11 = x_11 ∧ wrap
  (x_20 + (1 : Int)) = wrap (x_20 + (1 : Int))) ∧ (x.n = x.n ∧ (x_2.id = x_2.id ∧ x_2.room = x_2.room ∧ x_2.home = x_2.home ∧ x_2.lo = x_2.lo ∧ x_2.hi = x_2.hi ∧ x_2.retired = x_2.retired) ∧ (x_5.driver = x_5.driver ∧ x_5.served = x_5.served)
  ∧ (x_7.id = x_7.id ∧ x_7.size = x_7.size ∧ x_7.pp = x_7.pp ∧ x_7.pf = x_7.pf ∧ x_7.pt = x_7.pt ∧ x_7.ps = x_7.ps ∧ x_7.dp = x_7.dp ∧ x_7.df = x_7.df ∧ x_7.dt = x_7.dt ∧ x_7.ds = x_7.ds) ∧ (x_2.id = x_2.id ∧ x_11 = x_11 ∧ x_20 = x_20 ∧ wrap
  ((cost (some x) x_2 ([] ++ x_3 ++ [x_7]) (putS x_5.stops x_7.id x_11 x_20)).fst - (cost (some x) x_2 x_3 x_5.stops).fst) = wrap ((cost (some x) x_2 ([] ++ x_3 ++ [x_7]) (putS x_5.stops x_7.id x_11 x_20)).fst - (cost (some x) x_2 x_3
  x_5.stops).fst) ∧ true = true ∧ wrap (x_26 + (1 : Int)) = wrap (x_26 + (1 : Int))) ∧ (0 : Int) = (0 : Int) ∧ (0 : Int) = (0 : Int) ∧ (0 : Int) = (0 : Int) ∧ (0 : Int) = (0 : Int) ∧ (0 : Int) = (0 : Int)) ∧ x_5.stops = x_5.stops ∧ x.l = x.l
  ∧ [] ++ x_3 ++ [x_7] = [] ++ x_3 ++ [x_7]) ∧ inv_1 (wrap (x_20 + (1 : Int))) x_2.id x_11 x_20 (wrap ((cost (some x) x_2 ([] ++ x_3 ++ [x_7]) (putS x_5.stops x_7.id x_11 x_20)).fst - (cost (some x) x_2 x_3 x_5.stops).fst)) true (wrap (x_26 +
  (1 : Int))) ∧ μ_1 (wrap (x_20 + (1 : Int))) x_2.id x_11 x_20 (wrap ((cost (some x) x_2 ([] ++ x_3 ++ [x_7]) (putS x_5.stops x_7.id x_11 x_20)).fst - (cost (some x) x_2 x_3 x_5.stops).fst)) true (wrap (x_26 + (1 : Int))) < μ_1 x_20 x_21 x_22
  x_23 x_24 x_25 x_26)) ∧ ((cost (some x) x_2 ([] ++ x_3 ++ [x_7]) (putS x_5.stops x_7.id x_11 x_20)).snd = !true → ((x_8 = x_8 ∧ (cost (some x) x_2 x_3 x_5.stops).fst = (cost (some x) x_2 x_3 x_5.stops).fst ∧ x_11 = x_11 ∧ wrap (x_20 + (1 :
  Int)) = wrap (x_20 + (1 : Int))) ∧ (x.n = x.n ∧ (x_2.id = x_2.id ∧ x_2.room = x_2.room ∧ x_2.home = x_2.home ∧ x_2.lo = x_2.lo ∧ x_2.hi = x_2.hi ∧ x_2.retired = x_2.retired) ∧ (x_5.driver = x_5.driver ∧ x_5.served = x_5.served) ∧ (x_7.id =
  x_7.id ∧ x_7.size = x_7.size ∧ x_7.pp = x_7.pp ∧ x_7.pf = x_7.pf ∧ x_7.pt = x_7.pt ∧ x_7.ps = x_7.ps ∧ x_7.dp = x_7.dp ∧ x_7.df = x_7.df ∧ x_7.dt = x_7.dt ∧ x_7.ds = x_7.ds) ∧ (x_21 = x_21 ∧ x_22 = x_22 ∧ x_23 = x_23 ∧ x_24 = x_24 ∧ x_25 =
  x_25 ∧ wrap (x_26 + (1 : Int)) = wrap (x_26 + (1 : Int))) ∧ (0 : Int) = (0 : Int) ∧ (0 : Int) = (0 : Int) ∧ (0 : Int) = (0 : Int) ∧ (0 : Int) = (0 : Int) ∧ (0 : Int) = (0 : Int)) ∧ x_5.stops = x_5.stops ∧ x.l = x.l ∧ [] ++ x_3 ++ [x_7] = []
  ++ x_3 ++ [x_7]) ∧ inv_1 (wrap (x_20 + (1 : Int))) x_21 x_22 x_23 x_24 x_25 (wrap (x_26 + (1 : Int))) ∧ μ_1 (wrap (x_20 + (1 : Int))) x_21 x_22 x_23 x_24 x_25 (wrap (x_26 + (1 : Int))) < μ_1 x_20 x_21 x_22 x_23 x_24 x_25 x_26))) ∧ (decide
  (x_20 ≤ (↑x_5.stops.length : Int)) = false → ((x_8 = x_8 ∧ (cost (some x) x_2 x_3 x_5.stops).fst = (cost (some x) x_2 x_3 x_5.stops).fst ∧ wrap (x_11 + (1 : Int)) = wrap (x_11 + (1 : Int))) ∧ (x.n = x.n ∧ (x_2.id = x_2.id ∧ x_2.room =
  x_2.room ∧ x_2.home = x_2.home ∧ x_2.lo = x_2.lo ∧ x_2.hi = x_2.hi ∧ x_2.retired = x_2.retired) ∧ (x_5.driver = x_5.driver ∧ x_5.served = x_5.served) ∧ (x_7.id = x_7.id ∧ x_7.size = x_7.size ∧ x_7.pp = x_7.pp ∧ x_7.pf = x_7.pf ∧ x_7.pt =
  x_7.pt ∧ x_7.ps = x_7.ps ∧ x_7.dp = x_7.dp ∧ x_7.df = x_7.df ∧ x_7.dt = x_7.dt ∧ x_7.ds = x_7.ds) ∧ (x_21 = x_21 ∧ x_22 = x_22 ∧ x_23 = x_23 ∧ x_24 = x_24 ∧ x_25 = x_25 ∧ x_26 = x_26) ∧ (0 : Int) = (0 : Int) ∧ (0 : Int) = (0 : Int) ∧ (0 :
  Int) = (0 : Int) ∧ (0 : Int) = (0 : Int) ∧ (0 : Int) = (0 : Int)) ∧ x_5.stops = x_5.stops ∧ x.l = x.l ∧ [] ++ x_3 ++ [x_7] = [] ++ x_3 ++ [x_7]) ∧ inv (wrap (x_11 + (1 : Int))) x_21 x_22 x_23 x_24 x_25 x_26 ∧ μ (wrap (x_11 + (1 : Int)))
  x_21 x_22 x_23 x_24 x_25 x_26 < μ x_11 x_12 x_13 x_14 x_15 x_16 x_17)) ∧ (decide (x_11 ≤ (↑x_5.stops.length : Int)) = false → x_12 = (alongP x x_2 x_3 x_5 x_7 x_8 x_9).driver ∧ x_13 = (alongP x x_2 x_3 x_5 x_7 x_8 x_9).pick ∧ x_14 = (alongP
  x x_2 x_3 x_5 x_7 x_8 x_9).drop ∧ x_15 = (alongP x x_2 x_3 x_5 x_7 x_8 x_9).cost ∧ x_16 = (alongP x x_2 x_3 x_5 x_7 x_8 x_9).found ∧ x_17 = (alongP x x_2 x_3 x_5 x_7 x_8 x_9).steps)
theorem ralong_told (hc : CsOk Try.prog ralong_cs) (h : ralong_vc) : Told Try.prog 48 ralong_con := told (A := ralong_la) tabOk mixed hc Try.func48 (by kernel_rfl) (by kernel_rfl) h
def rtold_vc : Prop :=
  ∀ (x : Hunt), ((!x.found) = true → ((0 : Int) = (hspot (tellH x).fst).driver ∧ (0 : Int) = (hspot (tellH x).fst).pick ∧ (0 : Int) = (hspot (tellH x).fst).drop ∧ (0 : Int) = (hspot (tellH x).fst).cost) ∧ x.steps = (tellH x).fst.steps ∧ (20 :
  Int) = (tellH x).snd) ∧ ((!x.found) = false → (x.driver = (hspot (tellH x).fst).driver ∧ x.pick = (hspot (tellH x).fst).pick ∧ x.drop = (hspot (tellH x).fst).drop ∧ x.cost = (hspot (tellH x).fst).cost) ∧ x.steps = (tellH x).fst.steps ∧ (0 :
  Int) = (tellH x).snd)
theorem rtold_told (hc : CsOk Try.prog rtold_cs) (h : rtold_vc) : Told Try.prog 47 rtold_con := told (A := rtold_la) tabOk mixed hc Try.func47 (by kernel_rfl) (by kernel_rfl) h
def rbest_vc : Prop :=
  (∀ (x : Driver) (x_1 : List Order), LenOk x_1.length → ∀ (x_3 : Route), LenOk x_3.stops.length → ∀ (x_5 : Order) (x_6 : Int), (∀ (x : MapD), none = some x → MapOk x) → ((0 : Int) = (hspot (rBestP none x x_1 x_3 x_5 x_6).fst).driver ∧ (0 :
  Int) = (hspot (rBestP none x x_1 x_3 x_5 x_6).fst).pick ∧ (0 : Int) = (hspot (rBestP none x x_1 x_3 x_5 x_6).fst).drop ∧ (0 : Int) = (hspot (rBestP none x x_1 x_3 x_5 x_6).fst).cost) ∧ (0 : Int) = (rBestP none x x_1 x_3 x_5 x_6).fst.steps ∧
  (1 : Int) = (rBestP none x x_1 x_3 x_5 x_6).snd) ∧ ∀ (x : MapD), LenOk x.l.length → ∀ (x_2 : Driver) (x_3 : List Order), LenOk x_3.length → ∀ (x_5 : Route), LenOk x_5.stops.length → ∀ (x_7 : Order) (x_8 : Int), (∀ (x_9 : MapD), some x =
  some x_9 → MapOk x_9) → ((!decide (driverE (some x) x_2 = (0 : Int))) = false → ((!decide (orderE (some x) x_7 = (0 : Int))) = false → ((!knownO (some x) x_3) = false → (decide (ixO x_3 x_7.id (0 : Int) ≥ (0 : Int)) = false → ((!decide
  (x_5.driver = x_2.id)) = false → (decide (x_5.served < (0 : Int)) = false → (decide (x_5.served > (↑x_5.stops.length : Int)) = false → (decide (x_8 < (0 : Int)) = false → (decide (x_8 > (100000 : Int)) = true → ((0 : Int) = (hspot (rBestP
  (some x) x_2 x_3 x_5 x_7 x_8).fst).driver ∧ (0 : Int) = (hspot (rBestP (some x) x_2 x_3 x_5 x_7 x_8).fst).pick ∧ (0 : Int) = (hspot (rBestP (some x) x_2 x_3 x_5 x_7 x_8).fst).drop ∧ (0 : Int) = (hspot (rBestP (some x) x_2 x_3 x_5 x_7
  x_8).fst).cost) ∧ (0 : Int) = (rBestP (some x) x_2 x_3 x_5 x_7 x_8).fst.steps ∧ (1 : Int) = (rBestP (some x) x_2 x_3 x_5 x_7 x_8).snd) ∧ (decide (x_8 > (100000 : Int)) = false → (∀ (x_19 : MapD), some x = some x_19 → MapOk x_19) ∧ ((!decide
  ((fauR (drive (some x) x_2 x_3 x_5.stops)).why = (0 : Int))) = true → ((0 : Int) = (hspot (rBestP (some x) x_2 x_3 x_5 x_7 x_8).fst).driver ∧ (0 : Int) = (hspot (rBestP (some x) x_2 x_3 x_5 x_7 x_8).fst).pick ∧ (0 : Int) = (hspot (rBestP
  (some x) x_2 x_3 x_5 x_7 x_8).fst).drop ∧ (0 : Int) = (hspot (rBestP (some x) x_2 x_3 x_5 x_7 x_8).fst).cost) ∧ (0 : Int) = (rBestP (some x) x_2 x_3 x_5 x_7 x_8).fst.steps ∧ (1 : Int) = (rBestP (some x) x_2 x_3 x_5 x_7 x_8).snd) ∧ ((!decide
  ((fauR (drive (some x) x_2 x_3 x_5.stops)).why = (0 : Int))) = false → (x_2.retired = true → ((0 : Int) = (hspot (rBestP (some x) x_2 x_3 x_5 x_7 x_8).fst).driver ∧ (0 : Int) = (hspot (rBestP (some x) x_2 x_3 x_5 x_7 x_8).fst).pick ∧ (0 :
  Int) = (hspot (rBestP (some x) x_2 x_3 x_5 x_7 x_8).fst).drop ∧ (0 : Int) = (hspot (rBestP (some x) x_2 x_3 x_5 x_7 x_8).fst).cost) ∧ (0 : Int) = (rBestP (some x) x_2 x_3 x_5 x_7 x_8).fst.steps ∧ (23 : Int) = (rBestP (some x) x_2 x_3 x_5
  x_7 x_8).snd) ∧ (x_2.retired = false → (decide ((↑x_5.stops.length : Int) > (78 : Int)) = true → ((0 : Int) = (hspot (rBestP (some x) x_2 x_3 x_5 x_7 x_8).fst).driver ∧ (0 : Int) = (hspot (rBestP (some x) x_2 x_3 x_5 x_7 x_8).fst).pick ∧ (0
  : Int) = (hspot (rBestP (some x) x_2 x_3 x_5 x_7 x_8).fst).drop ∧ (0 : Int) = (hspot (rBestP (some x) x_2 x_3 x_5 x_7 x_8).fst).cost) ∧ (0 : Int) = (rBestP (some x) x_2 x_3 x_5 x_7 x_8).fst.steps ∧ (10 : Int) = (rBestP (some x) x_2 x_3 x_5
  x_7 x_8).snd) ∧ (decide ((↑x_5.stops.length : Int) > (78 : Int)) = false → AlongPre x x_3 x_5 (Hunt.mk (0 : Int) (0 : Int) (0 : Int) (0 : Int) false (0 : Int)) ∧ ((hspot (tellH (alongP x x_2 x_3 x_5 x_7 x_8 (Hunt.mk (0 : Int) (0 : Int) (0 :
  Int) (0 : Int) false (0 : Int)))).fst).driver = (hspot (rBestP (some x) x_2 x_3 x_5 x_7 x_8).fst).driver ∧ (hspot (tellH (alongP x x_2 x_3 x_5 x_7 x_8 (Hunt.mk (0 : Int) (0 : Int) (0 : Int) (0 : Int) false (0 : Int)))).fst).pick = (hspot
  (rBestP (some x) x_2 x_3 x_5 x_7 x_8).fst).pick ∧ (hspot (tellH (alongP x x_2 x_3 x_5 x_7 x_8 (Hunt.mk (0 : Int) (0 : Int) (0 : Int) (0 : Int) false (0 : Int)))).fst).drop = (hspot (rBestP (some x) x_2 x_3 x_5 x_7 x_8).fst).drop ∧ (hspot
  (tellH (alongP x x_2 x_3 x_5 x_7 x_8 (Hunt.mk (0 : Int) (0 : Int) (0 : Int) (0 : Int) false (0 : Int)))).fst).cost = (hspot (rBestP (some x) x_2 x_3 x_5 x_7 x_8).fst).cost) ∧ (tellH (alongP x x_2 x_3 x_5 x_7 x_8 (Hunt.mk (0 : Int) (0 : Int)
  (0 : Int) (0 : Int) false (0 : Int)))).fst.steps = (rBestP (some x) x_2 x_3 x_5 x_7 x_8).fst.steps ∧ (tellH (alongP x x_2 x_3 x_5 x_7 x_8 (Hunt.mk (0 : Int) (0 : Int) (0 : Int) (0 : Int) false (0 : Int)))).snd = (rBestP (some x) x_2 x_3 x_5
  x_7 x_8).snd))))) ∧ (decide (x_8 < (0 : Int)) = !false → ((0 : Int) = (hspot (rBestP (some x) x_2 x_3 x_5 x_7 x_8).fst).driver ∧ (0 : Int) = (hspot (rBestP (some x) x_2 x_3 x_5 x_7 x_8).fst).pick ∧ (0 : Int) = (hspot (rBestP (some x) x_2
  x_3 x_5 x_7 x_8).fst).drop ∧ (0 : Int) = (hspot (rBestP (some x) x_2 x_3 x_5 x_7 x_8).fst).cost) ∧ (0 : Int) = (rBestP (some x) x_2 x_3 x_5 x_7 x_8).fst.steps ∧ (1 : Int) = (rBestP (some x) x_2 x_3 x_5 x_7 x_8).snd)) ∧ (decide (x_5.served >
  (↑x_5.stops.length : Int)) = !false → ((0 : Int) = (hspot (rBestP (some x) x_2 x_3 x_5 x_7 x_8).fst).driver ∧ (0 : Int) = (hspot (rBestP (some x) x_2 x_3 x_5 x_7 x_8).fst).pick ∧ (0 : Int) = (hspot (rBestP (some x) x_2 x_3 x_5 x_7
  x_8).fst).drop ∧ (0 : Int) = (hspot (rBestP (some x) x_2 x_3 x_5 x_7 x_8).fst).cost) ∧ (0 : Int) = (rBestP (some x) x_2 x_3 x_5 x_7 x_8).fst.steps ∧ (1 : Int) = (rBestP (some x) x_2 x_3 x_5 x_7 x_8).snd)) ∧ (decide (x_5.served < (0 : Int))
  = !false → ((0 : Int) = (hspot (rBestP (some x) x_2 x_3 x_5 x_7 x_8).fst).driver ∧ (0 : Int) = (hspot (rBestP (some x) x_2 x_3 x_5 x_7 x_8).fst).pick ∧ (0 : Int) = (hspot (rBestP (some x) x_2 x_3 x_5 x_7 x_8).fst).drop ∧ (0 : Int) = (hspot
  (rBestP (some x) x_2 x_3 x_5 x_7 x_8).fst).cost) ∧ (0 : Int) = (rBestP (some x) x_2 x_3 x_5 x_7 x_8).fst.steps ∧ (1 : Int) = (rBestP (some x) x_2 x_3 x_5 x_7 x_8).snd)) ∧ ((!decide (x_5.driver = x_2.id)) = !false → ((0 : Int) = (hspot
  (rBestP (some x) x_2 x_3 x_5 x_7 x_8).fst).driver ∧ (0 : Int) = (hspot (rBestP (some x) x_2 x_3 x_5 x_7 x_8).fst).pick ∧ (0 : Int) = (hspot (rBestP (some x) x_2 x_3 x_5 x_7 x_8).fst).drop ∧ (0 : Int) = (hspot (rBestP (some x) x_2 x_3 x_5
  x_7 x_8).fst).cost) ∧ (0 : Int) = (rBestP (some x) x_2 x_3 x_5 x_7 x_8).fst.steps ∧ (1 : Int) = (rBestP (some x) x_2 x_3 x_5 x_7 x_8).snd)) ∧ (decide (ixO x_3 x_7.id (0 : Int) ≥ (0 : Int)) = !false → ((0 : Int) = (hspot (rBestP (some x) x_2
  x_3 x_5 x_7 x_8).fst).driver ∧ (0 : Int) = (hspot (rBestP (some x) x_2 x_3 x_5 x_7 x_8).fst).pick ∧ (0 : Int) = (hspot (rBestP (some x) x_2 x_3 x_5 x_7 x_8).fst).drop ∧ (0 : Int) = (hspot (rBestP (some x) x_2 x_3 x_5 x_7 x_8).fst).cost) ∧
  (0 : Int) = (rBestP (some x) x_2 x_3 x_5 x_7 x_8).fst.steps ∧ (1 : Int) = (rBestP (some x) x_2 x_3 x_5 x_7 x_8).snd)) ∧ ((!knownO (some x) x_3) = !false → ((0 : Int) = (hspot (rBestP (some x) x_2 x_3 x_5 x_7 x_8).fst).driver ∧ (0 : Int) =
  (hspot (rBestP (some x) x_2 x_3 x_5 x_7 x_8).fst).pick ∧ (0 : Int) = (hspot (rBestP (some x) x_2 x_3 x_5 x_7 x_8).fst).drop ∧ (0 : Int) = (hspot (rBestP (some x) x_2 x_3 x_5 x_7 x_8).fst).cost) ∧ (0 : Int) = (rBestP (some x) x_2 x_3 x_5 x_7
  x_8).fst.steps ∧ (1 : Int) = (rBestP (some x) x_2 x_3 x_5 x_7 x_8).snd)) ∧ ((!decide (orderE (some x) x_7 = (0 : Int))) = !false → ((0 : Int) = (hspot (rBestP (some x) x_2 x_3 x_5 x_7 x_8).fst).driver ∧ (0 : Int) = (hspot (rBestP (some x)
  x_2 x_3 x_5 x_7 x_8).fst).pick ∧ (0 : Int) = (hspot (rBestP (some x) x_2 x_3 x_5 x_7 x_8).fst).drop ∧ (0 : Int) = (hspot (rBestP (some x) x_2 x_3 x_5 x_7 x_8).fst).cost) ∧ (0 : Int) = (rBestP (some x) x_2 x_3 x_5 x_7 x_8).fst.steps ∧ (1 :
  Int) = (rBestP (some x) x_2 x_3 x_5 x_7 x_8).snd)) ∧ ((!decide (driverE (some x) x_2 = (0 : Int))) = !false → ((0 : Int) = (hspot (rBestP (some x) x_2 x_3 x_5 x_7 x_8).fst).driver ∧ (0 : Int) = (hspot (rBestP (some x) x_2 x_3 x_5 x_7
  x_8).fst).pick ∧ (0 : Int) = (hspot (rBestP (some x) x_2 x_3 x_5 x_7 x_8).fst).drop ∧ (0 : Int) = (hspot (rBestP (some x) x_2 x_3 x_5 x_7 x_8).fst).cost) ∧ (0 : Int) = (rBestP (some x) x_2 x_3 x_5 x_7 x_8).fst.steps ∧ (1 : Int) = (rBestP
  (some x) x_2 x_3 x_5 x_7 x_8).snd)
theorem rbest_told (hc : CsOk Try.prog rbest_cs) (h : rbest_vc) : Told Try.prog 24 rbest_con := told (A := rbest_la) tabOk mixed hc Try.func24 (by kernel_rfl) (by kernel_rfl) h
end Go.Eng

/- The conditions of functions, as print.. of the engine told them. -/
set_option linter.unusedVariables false
namespace Go.Eng
open Go Go.Proofs
def legOf_vc : Prop :=
  ∀ (x : Order) (x_1 : Bool), (x_1 = true → x.dp = (legO x x_1).pl ∧ x.df = (legO x x_1).lo ∧ x.dt = (legO x x_1).hi ∧ x.ds = (legO x x_1).sv ∧ wrap (-x.size) = (legO x x_1).more) ∧ (x_1 = false → x.pp = (legO x x_1).pl ∧ x.pf = (legO x
  x_1).lo ∧ x.pt = (legO x x_1).hi ∧ x.ps = (legO x x_1).sv ∧ x.size = (legO x x_1).more)
theorem legOf_told (hc : CsOk Try.prog legOf_cs) (h : legOf_vc) : Told Try.prog 54 legOf_con := told (A := legOf_la) tabOk mixed hc Try.func54 (by kernel_rfl) (by kernel_rfl) h
def step_vc : Prop :=
  ∀ (x : SearchD), LenOk x.m.l.length ∧ LenOk x.legs.length ∧ LenOk x.pre.length → ∀ (x_2 : State) (x_3 : Leg), MapOk x.m → (∀ (x_5 : MapD), some x.m = some x_5 → MapOk x_5) ∧ ((begin_ (Win.mk x_3.lo x_3.hi) (wrap (x_2.now + (mtime (some x.m)
  x_2.pos x_3.pl).fst))).snd = true → (decide (wrap ((begin_ (Win.mk x_3.lo x_3.hi) (wrap (x_2.now + (mtime (some x.m) x_2.pos x_3.pl).fst))).fst + x_3.sv) ≤ x.d.hi) = true → (wrap ((begin_ (Win.mk x_3.lo x_3.hi) (wrap (x_2.now + (mtime (some
  x.m) x_2.pos x_3.pl).fst))).fst + x_3.sv) = (stepS x.m x.d x_2 x_3).fst.now ∧ x_3.pl = (stepS x.m x.d x_2 x_3).fst.pos ∧ wrap (x_2.load + x_3.more) = (stepS x.m x.d x_2 x_3).fst.load ∧ wrap (x_2.way + (mtime (some x.m) x_2.pos x_3.pl).fst)
  = (stepS x.m x.d x_2 x_3).fst.way) ∧ decide (wrap (x_2.load + x_3.more) ≤ x.d.room) = (stepS x.m x.d x_2 x_3).snd) ∧ (decide (wrap ((begin_ (Win.mk x_3.lo x_3.hi) (wrap (x_2.now + (mtime (some x.m) x_2.pos x_3.pl).fst))).fst + x_3.sv) ≤
  x.d.hi) = !true → (wrap ((begin_ (Win.mk x_3.lo x_3.hi) (wrap (x_2.now + (mtime (some x.m) x_2.pos x_3.pl).fst))).fst + x_3.sv) = (stepS x.m x.d x_2 x_3).fst.now ∧ x_3.pl = (stepS x.m x.d x_2 x_3).fst.pos ∧ wrap (x_2.load + x_3.more) =
  (stepS x.m x.d x_2 x_3).fst.load ∧ wrap (x_2.way + (mtime (some x.m) x_2.pos x_3.pl).fst) = (stepS x.m x.d x_2 x_3).fst.way) ∧ false = (stepS x.m x.d x_2 x_3).snd)) ∧ ((begin_ (Win.mk x_3.lo x_3.hi) (wrap (x_2.now + (mtime (some x.m)
  x_2.pos x_3.pl).fst))).snd = !true → (wrap ((begin_ (Win.mk x_3.lo x_3.hi) (wrap (x_2.now + (mtime (some x.m) x_2.pos x_3.pl).fst))).fst + x_3.sv) = (stepS x.m x.d x_2 x_3).fst.now ∧ x_3.pl = (stepS x.m x.d x_2 x_3).fst.pos ∧ wrap (x_2.load
  + x_3.more) = (stepS x.m x.d x_2 x_3).fst.load ∧ wrap (x_2.way + (mtime (some x.m) x_2.pos x_3.pl).fst) = (stepS x.m x.d x_2 x_3).fst.way) ∧ false = (stepS x.m x.d x_2 x_3).snd)
theorem step_told (hc : CsOk Try.prog step_cs) (h : step_vc) : Told Try.prog 55 step_con := told (A := step_la) tabOk mixed hc Try.func55 (by kernel_rfl) (by kernel_rfl) h
def price_vc : Prop :=
  ∀ (x : SearchD), LenOk x.m.l.length ∧ LenOk x.legs.length ∧ LenOk x.pre.length → ∀ (x_2 x_3 : Int), PricePre x x_2 x_3 → ((0 : Int) ≤ x_2 ∧ x_2 < (↑x.pre.length : Int)) ∧ x_2.toNat < x.pre.length ∧ MapOk x.m ∧ ∃ (inv : Bool → Int → Int →
  Int → Int → Prop), (∃ (inv_1 : Bool → Int → Int → Int → Int → Int → Prop), ∃ (μ : Bool → Int → Int → Int → Int → Int → Nat), (((x_3 = x_3 ∧ (stepS x.m x.d (x.pre.getD x_2.toNat FK.state.zero) x.pick).snd = (stepS x.m x.d (x.pre.getD
  x_2.toNat FK.state.zero) x.pick).snd ∧ x_2 = x_2) ∧ ((x.d.id = x.d.id ∧ x.d.room = x.d.room ∧ x.d.home = x.d.home ∧ x.d.lo = x.d.lo ∧ x.d.hi = x.d.hi ∧ x.d.retired = x.d.retired ∧ x.pick.pl = x.pick.pl ∧ x.pick.lo = x.pick.lo ∧ x.pick.hi =
  x.pick.hi ∧ x.pick.sv = x.pick.sv ∧ x.pick.more = x.pick.more ∧ x.drop.pl = x.drop.pl ∧ x.drop.lo = x.drop.lo ∧ x.drop.hi = x.drop.hi ∧ x.drop.sv = x.drop.sv ∧ x.drop.more = x.drop.more ∧ x.full = x.full) ∧ x.m.n = x.m.n ∧ (stepS x.m x.d
  (x.pre.getD x_2.toNat FK.state.zero) x.pick).fst.now = (stepS x.m x.d (x.pre.getD x_2.toNat FK.state.zero) x.pick).fst.now ∧ (stepS x.m x.d (x.pre.getD x_2.toNat FK.state.zero) x.pick).fst.pos = (stepS x.m x.d (x.pre.getD x_2.toNat
  FK.state.zero) x.pick).fst.pos ∧ (stepS x.m x.d (x.pre.getD x_2.toNat FK.state.zero) x.pick).fst.load = (stepS x.m x.d (x.pre.getD x_2.toNat FK.state.zero) x.pick).fst.load ∧ (stepS x.m x.d (x.pre.getD x_2.toNat FK.state.zero)
  x.pick).fst.way = (stepS x.m x.d (x.pre.getD x_2.toNat FK.state.zero) x.pick).fst.way) ∧ x.m.l = x.m.l ∧ x.pre = x.pre ∧ x.legs = x.legs) ∧ inv_1 (stepS x.m x.d (x.pre.getD x_2.toNat FK.state.zero) x.pick).snd x_2 (stepS x.m x.d (x.pre.getD
  x_2.toNat FK.state.zero) x.pick).fst.now (stepS x.m x.d (x.pre.getD x_2.toNat FK.state.zero) x.pick).fst.pos (stepS x.m x.d (x.pre.getD x_2.toNat FK.state.zero) x.pick).fst.load (stepS x.m x.d (x.pre.getD x_2.toNat FK.state.zero)
  x.pick).fst.way) ∧ ∀ (x_5 : Bool) (x_6 x_7 x_8 x_9 x_10 : Int), inv_1 x_5 x_6 x_7 x_8 x_9 x_10 → (decide (x_6 < x_3) = true → (x_5 = true → ((0 : Int) ≤ x_6 ∧ x_6 < (↑x.legs.length : Int)) ∧ x_6.toNat < x.legs.length ∧ MapOk x.m ∧ ((x_3 =
  x_3 ∧ (stepS x.m x.d (State.mk x_7 x_8 x_9 x_10) (x.legs.getD x_6.toNat FK.leg.zero)).snd = (stepS x.m x.d (State.mk x_7 x_8 x_9 x_10) (x.legs.getD x_6.toNat FK.leg.zero)).snd ∧ wrap (x_6 + (1 : Int)) = wrap (x_6 + (1 : Int))) ∧ ((x.d.id =
  x.d.id ∧ x.d.room = x.d.room ∧ x.d.home = x.d.home ∧ x.d.lo = x.d.lo ∧ x.d.hi = x.d.hi ∧ x.d.retired = x.d.retired ∧ x.pick.pl = x.pick.pl ∧ x.pick.lo = x.pick.lo ∧ x.pick.hi = x.pick.hi ∧ x.pick.sv = x.pick.sv ∧ x.pick.more = x.pick.more ∧
  x.drop.pl = x.drop.pl ∧ x.drop.lo = x.drop.lo ∧ x.drop.hi = x.drop.hi ∧ x.drop.sv = x.drop.sv ∧ x.drop.more = x.drop.more ∧ x.full = x.full) ∧ x.m.n = x.m.n ∧ (stepS x.m x.d (State.mk x_7 x_8 x_9 x_10) (x.legs.getD x_6.toNat
  FK.leg.zero)).fst.now = (stepS x.m x.d (State.mk x_7 x_8 x_9 x_10) (x.legs.getD x_6.toNat FK.leg.zero)).fst.now ∧ (stepS x.m x.d (State.mk x_7 x_8 x_9 x_10) (x.legs.getD x_6.toNat FK.leg.zero)).fst.pos = (stepS x.m x.d (State.mk x_7 x_8 x_9
  x_10) (x.legs.getD x_6.toNat FK.leg.zero)).fst.pos ∧ (stepS x.m x.d (State.mk x_7 x_8 x_9 x_10) (x.legs.getD x_6.toNat FK.leg.zero)).fst.load = (stepS x.m x.d (State.mk x_7 x_8 x_9 x_10) (x.legs.getD x_6.toNat FK.leg.zero)).fst.load ∧
  (stepS x.m x.d (State.mk x_7 x_8 x_9 x_10) (x.legs.getD x_6.toNat FK.leg.zero)).fst.way = (stepS x.m x.d (State.mk x_7 x_8 x_9 x_10) (x.legs.getD x_6.toNat FK.leg.zero)).fst.way) ∧ x.m.l = x.m.l ∧ x.pre = x.pre ∧ x.legs = x.legs) ∧ inv_1
  (stepS x.m x.d (State.mk x_7 x_8 x_9 x_10) (x.legs.getD x_6.toNat FK.leg.zero)).snd (wrap (x_6 + (1 : Int))) (stepS x.m x.d (State.mk x_7 x_8 x_9 x_10) (x.legs.getD x_6.toNat FK.leg.zero)).fst.now (stepS x.m x.d (State.mk x_7 x_8 x_9 x_10)
  (x.legs.getD x_6.toNat FK.leg.zero)).fst.pos (stepS x.m x.d (State.mk x_7 x_8 x_9 x_10) (x.legs.getD x_6.toNat FK.leg.zero)).fst.load (stepS x.m x.d (State.mk x_7 x_8 x_9 x_10) (x.legs.getD x_6.toNat FK.leg.zero)).fst.way ∧ μ (stepS x.m x.d
  (State.mk x_7 x_8 x_9 x_10) (x.legs.getD x_6.toNat FK.leg.zero)).snd (wrap (x_6 + (1 : Int))) (stepS x.m x.d (State.mk x_7 x_8 x_9 x_10) (x.legs.getD x_6.toNat FK.leg.zero)).fst.now (stepS x.m x.d (State.mk x_7 x_8 x_9 x_10) (x.legs.getD
  x_6.toNat FK.leg.zero)).fst.pos (stepS x.m x.d (State.mk x_7 x_8 x_9 x_10) (x.legs.getD x_6.toNat FK.leg.zero)).fst.load (stepS x.m x.d (State.mk x_7 x_8 x_9 x_10) (x.legs.getD x_6.toNat FK.leg.zero)).fst.way < μ x_5 x_6 x_7 x_8 x_9 x_10) ∧
  (x_5 = false → ((x_3 = x_3 ∧ x_5 = x_5) ∧ ((x.d.id = x.d.id ∧ x.d.room = x.d.room ∧ x.d.home = x.d.home ∧ x.d.lo = x.d.lo ∧ x.d.hi = x.d.hi ∧ x.d.retired = x.d.retired ∧ x.pick.pl = x.pick.pl ∧ x.pick.lo = x.pick.lo ∧ x.pick.hi = x.pick.hi
  ∧ x.pick.sv = x.pick.sv ∧ x.pick.more = x.pick.more ∧ x.drop.pl = x.drop.pl ∧ x.drop.lo = x.drop.lo ∧ x.drop.hi = x.drop.hi ∧ x.drop.sv = x.drop.sv ∧ x.drop.more = x.drop.more ∧ x.full = x.full) ∧ x.m.n = x.m.n ∧ x_7 = x_7 ∧ x_8 = x_8 ∧ x_9
  = x_9 ∧ x_10 = x_10) ∧ x.m.l = x.m.l ∧ x.pre = x.pre ∧ x.legs = x.legs) ∧ inv x_5 x_7 x_8 x_9 x_10)) ∧ (decide (x_6 < x_3) = !true → ((x_3 = x_3 ∧ x_5 = x_5) ∧ ((x.d.id = x.d.id ∧ x.d.room = x.d.room ∧ x.d.home = x.d.home ∧ x.d.lo = x.d.lo
  ∧ x.d.hi = x.d.hi ∧ x.d.retired = x.d.retired ∧ x.pick.pl = x.pick.pl ∧ x.pick.lo = x.pick.lo ∧ x.pick.hi = x.pick.hi ∧ x.pick.sv = x.pick.sv ∧ x.pick.more = x.pick.more ∧ x.drop.pl = x.drop.pl ∧ x.drop.lo = x.drop.lo ∧ x.drop.hi =
  x.drop.hi ∧ x.drop.sv = x.drop.sv ∧ x.drop.more = x.drop.more ∧ x.full = x.full) ∧ x.m.n = x.m.n ∧ x_7 = x_7 ∧ x_8 = x_8 ∧ x_9 = x_9 ∧ x_10 = x_10) ∧ x.m.l = x.m.l ∧ x.pre = x.pre ∧ x.legs = x.legs) ∧ inv x_5 x_7 x_8 x_9 x_10)) ∧ ∀ (x_5 :
  Bool) (x_6 x_7 x_8 x_9 : Int), inv x_5 x_6 x_7 x_8 x_9 → ∃ (inv : Bool → Int → Int → Int → Int → Prop), ((x_5 = true → MapOk x.m ∧ ((x_3 = x_3 ∧ (stepS x.m x.d (State.mk x_6 x_7 x_8 x_9) x.drop).snd = (stepS x.m x.d (State.mk x_6 x_7 x_8
  x_9) x.drop).snd) ∧ ((x.d.id = x.d.id ∧ x.d.room = x.d.room ∧ x.d.home = x.d.home ∧ x.d.lo = x.d.lo ∧ x.d.hi = x.d.hi ∧ x.d.retired = x.d.retired ∧ x.pick.pl = x.pick.pl ∧ x.pick.lo = x.pick.lo ∧ x.pick.hi = x.pick.hi ∧ x.pick.sv =
  x.pick.sv ∧ x.pick.more = x.pick.more ∧ x.drop.pl = x.drop.pl ∧ x.drop.lo = x.drop.lo ∧ x.drop.hi = x.drop.hi ∧ x.drop.sv = x.drop.sv ∧ x.drop.more = x.drop.more ∧ x.full = x.full) ∧ x.m.n = x.m.n ∧ (stepS x.m x.d (State.mk x_6 x_7 x_8 x_9)
  x.drop).fst.now = (stepS x.m x.d (State.mk x_6 x_7 x_8 x_9) x.drop).fst.now ∧ (stepS x.m x.d (State.mk x_6 x_7 x_8 x_9) x.drop).fst.pos = (stepS x.m x.d (State.mk x_6 x_7 x_8 x_9) x.drop).fst.pos ∧ (stepS x.m x.d (State.mk x_6 x_7 x_8 x_9)
  x.drop).fst.load = (stepS x.m x.d (State.mk x_6 x_7 x_8 x_9) x.drop).fst.load ∧ (stepS x.m x.d (State.mk x_6 x_7 x_8 x_9) x.drop).fst.way = (stepS x.m x.d (State.mk x_6 x_7 x_8 x_9) x.drop).fst.way) ∧ x.m.l = x.m.l ∧ x.pre = x.pre ∧ x.legs
  = x.legs) ∧ inv (stepS x.m x.d (State.mk x_6 x_7 x_8 x_9) x.drop).snd (stepS x.m x.d (State.mk x_6 x_7 x_8 x_9) x.drop).fst.now (stepS x.m x.d (State.mk x_6 x_7 x_8 x_9) x.drop).fst.pos (stepS x.m x.d (State.mk x_6 x_7 x_8 x_9)
  x.drop).fst.load (stepS x.m x.d (State.mk x_6 x_7 x_8 x_9) x.drop).fst.way) ∧ (x_5 = false → ((x_3 = x_3 ∧ x_5 = x_5) ∧ ((x.d.id = x.d.id ∧ x.d.room = x.d.room ∧ x.d.home = x.d.home ∧ x.d.lo = x.d.lo ∧ x.d.hi = x.d.hi ∧ x.d.retired =
  x.d.retired ∧ x.pick.pl = x.pick.pl ∧ x.pick.lo = x.pick.lo ∧ x.pick.hi = x.pick.hi ∧ x.pick.sv = x.pick.sv ∧ x.pick.more = x.pick.more ∧ x.drop.pl = x.drop.pl ∧ x.drop.lo = x.drop.lo ∧ x.drop.hi = x.drop.hi ∧ x.drop.sv = x.drop.sv ∧
  x.drop.more = x.drop.more ∧ x.full = x.full) ∧ x.m.n = x.m.n ∧ x_6 = x_6 ∧ x_7 = x_7 ∧ x_8 = x_8 ∧ x_9 = x_9) ∧ x.m.l = x.m.l ∧ x.pre = x.pre ∧ x.legs = x.legs) ∧ inv x_5 x_6 x_7 x_8 x_9)) ∧ ∀ (x_11 : Bool) (x_12 x_13 x_14 x_15 : Int), inv
  x_11 x_12 x_13 x_14 x_15 → ∃ (inv : Bool → Int → Int → Int → Int → Int → Prop), ∃ (μ : Bool → Int → Int → Int → Int → Int → Nat), (((x_11 = x_11 ∧ x_3 = x_3) ∧ ((x.d.id = x.d.id ∧ x.d.room = x.d.room ∧ x.d.home = x.d.home ∧ x.d.lo = x.d.lo
  ∧ x.d.hi = x.d.hi ∧ x.d.retired = x.d.retired ∧ x.pick.pl = x.pick.pl ∧ x.pick.lo = x.pick.lo ∧ x.pick.hi = x.pick.hi ∧ x.pick.sv = x.pick.sv ∧ x.pick.more = x.pick.more ∧ x.drop.pl = x.drop.pl ∧ x.drop.lo = x.drop.lo ∧ x.drop.hi =
  x.drop.hi ∧ x.drop.sv = x.drop.sv ∧ x.drop.more = x.drop.more ∧ x.full = x.full) ∧ x.m.n = x.m.n ∧ x_12 = x_12 ∧ x_13 = x_13 ∧ x_14 = x_14 ∧ x_15 = x_15) ∧ x.m.l = x.m.l ∧ x.pre = x.pre ∧ x.legs = x.legs) ∧ inv x_11 x_3 x_12 x_13 x_14 x_15)
  ∧ ∀ (x_17 : Bool) (x_18 x_19 x_20 x_21 x_22 : Int), inv x_17 x_18 x_19 x_20 x_21 x_22 → (decide (x_18 < (↑x.legs.length : Int)) = true → (x_17 = true → ((0 : Int) ≤ x_18 ∧ x_18 < (↑x.legs.length : Int)) ∧ x_18.toNat < x.legs.length ∧ MapOk
  x.m ∧ (((stepS x.m x.d (State.mk x_19 x_20 x_21 x_22) (x.legs.getD x_18.toNat FK.leg.zero)).snd = (stepS x.m x.d (State.mk x_19 x_20 x_21 x_22) (x.legs.getD x_18.toNat FK.leg.zero)).snd ∧ wrap (x_18 + (1 : Int)) = wrap (x_18 + (1 : Int))) ∧
  ((x.d.id = x.d.id ∧ x.d.room = x.d.room ∧ x.d.home = x.d.home ∧ x.d.lo = x.d.lo ∧ x.d.hi = x.d.hi ∧ x.d.retired = x.d.retired ∧ x.pick.pl = x.pick.pl ∧ x.pick.lo = x.pick.lo ∧ x.pick.hi = x.pick.hi ∧ x.pick.sv = x.pick.sv ∧ x.pick.more =
  x.pick.more ∧ x.drop.pl = x.drop.pl ∧ x.drop.lo = x.drop.lo ∧ x.drop.hi = x.drop.hi ∧ x.drop.sv = x.drop.sv ∧ x.drop.more = x.drop.more ∧ x.full = x.full) ∧ x.m.n = x.m.n ∧ (stepS x.m x.d (State.mk x_19 x_20 x_21 x_22) (x.legs.getD
  x_18.toNat FK.leg.zero)).fst.now = (stepS x.m x.d (State.mk x_19 x_20 x_21 x_22) (x.legs.getD x_18.toNat FK.leg.zero)).fst.now ∧ (stepS x.m x.d (State.mk x_19 x_20 x_21 x_22) (x.legs.getD x_18.toNat FK.leg.zero)).fst.pos = (stepS x.m x.d
  (State.mk x_19 x_20 x_21 x_22) (x.legs.getD x_18.toNat FK.leg.zero)).fst.pos ∧ (stepS x.m x.d (State.mk x_19 x_20 x_21 x_22) (x.legs.getD x_18.toNat FK.leg.zero)).fst.load = (stepS x.m x.d (State.mk x_19 x_20 x_21 x_22) (x.legs.getD
  x_18.toNat FK.leg.zero)).fst.load ∧ (stepS x.m x.d (State.mk x_19 x_20 x_21 x_22) (x.legs.getD x_18.toNat FK.leg.zero)).fst.way = (stepS x.m x.d (State.mk x_19 x_20 x_21 x_22) (x.legs.getD x_18.toNat FK.leg.zero)).fst.way) ∧ x.m.l = x.m.l ∧
  x.pre = x.pre ∧ x.legs = x.legs) ∧ inv (stepS x.m x.d (State.mk x_19 x_20 x_21 x_22) (x.legs.getD x_18.toNat FK.leg.zero)).snd (wrap (x_18 + (1 : Int))) (stepS x.m x.d (State.mk x_19 x_20 x_21 x_22) (x.legs.getD x_18.toNat
  FK.leg.zero)).fst.now (stepS x.m x.d (State.mk x_19 x_20 x_21 x_22) (x.legs.getD x_18.toNat FK.leg.zero)).fst.pos (stepS x.m x.d (State.mk x_19 x_20 x_21 x_22) (x.legs.getD x_18.toNat FK.leg.zero)).fst.load (stepS x.m x.d (State.mk x_19
  x_20 x_21 x_22) (x.legs.getD x_18.toNat FK.leg.zero)).fst.way ∧ μ (stepS x.m x.d (State.mk x_19 x_20 x_21 x_22) (x.legs.getD x_18.toNat FK.leg.zero)).snd (wrap (x_18 + (1 : Int))) (stepS x.m x.d (State.mk x_19 x_20 x_21 x_22) (x.legs.getD
  x_18.toNat FK.leg.zero)).fst.now (stepS x.m x.d (State.mk x_19 x_20 x_21 x_22) (x.legs.getD x_18.toNat FK.leg.zero)).fst.pos (stepS x.m x.d (State.mk x_19 x_20 x_21 x_22) (x.legs.getD x_18.toNat FK.leg.zero)).fst.load (stepS x.m x.d
  (State.mk x_19 x_20 x_21 x_22) (x.legs.getD x_18.toNat FK.leg.zero)).fst.way < μ x_17 x_18 x_19 x_20 x_21 x_22) ∧ (x_17 = false → ((0 : Int) ≤ (↑x.legs.length : Int) ∧ (↑x.legs.length : Int) < (↑x.pre.length : Int)) ∧ (↑x.legs.length :
  Int).toNat < x.pre.length ∧ (x_17 = true → wrap (x_22 - (x.pre.getD (↑x.legs.length : Int).toNat FK.state.zero).way) = (priceS x x_2 x_3).fst ∧ (!x.full) = (priceS x x_2 x_3).snd) ∧ (x_17 = !true → wrap (x_22 - (x.pre.getD (↑x.legs.length :
  Int).toNat FK.state.zero).way) = (priceS x x_2 x_3).fst ∧ false = (priceS x x_2 x_3).snd))) ∧ (decide (x_18 < (↑x.legs.length : Int)) = !true → ((0 : Int) ≤ (↑x.legs.length : Int) ∧ (↑x.legs.length : Int) < (↑x.pre.length : Int)) ∧
  (↑x.legs.length : Int).toNat < x.pre.length ∧ (x_17 = true → wrap (x_22 - (x.pre.getD (↑x.legs.length : Int).toNat FK.state.zero).way) = (priceS x x_2 x_3).fst ∧ (!x.full) = (priceS x x_2 x_3).snd) ∧ (x_17 = !true → wrap (x_22 - (x.pre.getD
  (↑x.legs.length : Int).toNat FK.state.zero).way) = (priceS x x_2 x_3).fst ∧ false = (priceS x x_2 x_3).snd))
theorem price_told (hc : CsOk Try.prog price_cs) (h : price_vc) : Told Try.prog 56 price_con := told (A := price_la) tabOk mixed hc Try.func56 (by kernel_rfl) (by kernel_rfl) h
def sbest_vc : Prop :=
  ∀ (x : SearchD), LenOk x.m.l.length ∧ LenOk x.legs.length ∧ LenOk x.pre.length → ∀ (x_2 x_3 : Int), BestPre x x_2 → ∃ (inv : Int → Bool → Int → Int → Int → Int → Int → Prop), ∃ (μ : Int → Bool → Int → Int → Int → Int → Int → Nat), (((x_3 =
  x_3 ∧ (0 : Int) = (0 : Int) ∧ false = false ∧ (↑x.legs.length : Int) = (↑x.legs.length : Int) ∧ x_2 = x_2) ∧ ((x.d.id = x.d.id ∧ x.d.room = x.d.room ∧ x.d.home = x.d.home ∧ x.d.lo = x.d.lo ∧ x.d.hi = x.d.hi ∧ x.d.retired = x.d.retired ∧
  x.pick.pl = x.pick.pl ∧ x.pick.lo = x.pick.lo ∧ x.pick.hi = x.pick.hi ∧ x.pick.sv = x.pick.sv ∧ x.pick.more = x.pick.more ∧ x.drop.pl = x.drop.pl ∧ x.drop.lo = x.drop.lo ∧ x.drop.hi = x.drop.hi ∧ x.drop.sv = x.drop.sv ∧ x.drop.more =
  x.drop.more ∧ x.full = x.full) ∧ x.m.n = x.m.n ∧ ((0 : Int) = (0 : Int) ∧ (0 : Int) = (0 : Int) ∧ (0 : Int) = (0 : Int) ∧ (0 : Int) = (0 : Int)) ∧ (0 : Int) = (0 : Int) ∧ (0 : Int) = (0 : Int) ∧ (0 : Int) = (0 : Int) ∧ (0 : Int) = (0 :
  Int)) ∧ x.m.l = x.m.l ∧ x.pre = x.pre ∧ x.legs = x.legs) ∧ inv (0 : Int) false x_2 (0 : Int) (0 : Int) (0 : Int) (0 : Int)) ∧ ∀ (x_5 : Int) (x_6 : Bool) (x_7 x_8 x_9 x_10 x_11 : Int), inv x_5 x_6 x_7 x_8 x_9 x_10 x_11 → (decide (x_7 ≤
  (↑x.legs.length : Int)) = true → ∃ (inv_1 : Int → Bool → Int → Int → Int → Int → Int → Prop), ∃ (μ_1 : Int → Bool → Int → Int → Int → Int → Int → Nat), (((x_3 = x_3 ∧ x_5 = x_5 ∧ x_6 = x_6 ∧ (↑x.legs.length : Int) = (↑x.legs.length : Int) ∧
  x_7 = x_7 ∧ x_7 = x_7) ∧ ((x.d.id = x.d.id ∧ x.d.room = x.d.room ∧ x.d.home = x.d.home ∧ x.d.lo = x.d.lo ∧ x.d.hi = x.d.hi ∧ x.d.retired = x.d.retired ∧ x.pick.pl = x.pick.pl ∧ x.pick.lo = x.pick.lo ∧ x.pick.hi = x.pick.hi ∧ x.pick.sv =
  x.pick.sv ∧ x.pick.more = x.pick.more ∧ x.drop.pl = x.drop.pl ∧ x.drop.lo = x.drop.lo ∧ x.drop.hi = x.drop.hi ∧ x.drop.sv = x.drop.sv ∧ x.drop.more = x.drop.more ∧ x.full = x.full) ∧ x.m.n = x.m.n ∧ ((0 : Int) = (0 : Int) ∧ (0 : Int) = (0 :
  Int) ∧ (0 : Int) = (0 : Int) ∧ (0 : Int) = (0 : Int)) ∧ x_8 = x_8 ∧ x_9 = x_9 ∧ x_10 = x_10 ∧ x_11 = x_11) ∧ x.m.l = x.m.l ∧ x.pre = x.pre ∧ x.legs = x.legs) ∧ inv_1 x_5 x_6 x_7 x_8 x_9 x_10 x_11) ∧ ∀ (x_14 : Int) (x_15 : Bool) (x_16 x_17
  x_18 x_19 x_20 : Int), inv_1 x_14 x_15 x_16 x_17 x_18 x_19 x_20 → (decide (x_16 ≤ (↑x.legs.length : Int)) = true → (decide (x_14 ≥ x_3) = true → (x_17 = (hspot (bestS x x_2 x_3)).driver ∧ x_18 = (hspot (bestS x x_2 x_3)).pick ∧ x_19 =
  (hspot (bestS x x_2 x_3)).drop ∧ x_20 = (hspot (bestS x x_2 x_3)).cost) ∧ x_14 = (bestS x x_2 x_3).steps ∧ x_15 = (bestS x x_2 x_3).found) ∧ (decide (x_14 ≥ x_3) = false → PricePre x x_7 x_16 ∧ ((priceS x x_7 x_16).snd = true → ((!x_15) =
  false → (decide ((priceS x x_7 x_16).fst < x_20) = true → ((x_3 = x_3 ∧ wrap (x_14 + (1 : Int)) = wrap (x_14 + (1 : Int)) ∧ true = true ∧ (↑x.legs.length : Int) = (↑x.legs.length : Int) ∧ x_7 = x_7 ∧ wrap (x_16 + (1 : Int)) = wrap (x_16 +
  (1 : Int))) ∧ ((x.d.id = x.d.id ∧ x.d.room = x.d.room ∧ x.d.home = x.d.home ∧ x.d.lo = x.d.lo ∧ x.d.hi = x.d.hi ∧ x.d.retired = x.d.retired ∧ x.pick.pl = x.pick.pl ∧ x.pick.lo = x.pick.lo ∧ x.pick.hi = x.pick.hi ∧ x.pick.sv = x.pick.sv ∧
  x.pick.more = x.pick.more ∧ x.drop.pl = x.drop.pl ∧ x.drop.lo = x.drop.lo ∧ x.drop.hi = x.drop.hi ∧ x.drop.sv = x.drop.sv ∧ x.drop.more = x.drop.more ∧ x.full = x.full) ∧ x.m.n = x.m.n ∧ ((0 : Int) = (0 : Int) ∧ (0 : Int) = (0 : Int) ∧ (0 :
  Int) = (0 : Int) ∧ (0 : Int) = (0 : Int)) ∧ x.d.id = x.d.id ∧ x_7 = x_7 ∧ x_16 = x_16 ∧ (priceS x x_7 x_16).fst = (priceS x x_7 x_16).fst) ∧ x.m.l = x.m.l ∧ x.pre = x.pre ∧ x.legs = x.legs) ∧ inv_1 (wrap (x_14 + (1 : Int))) true (wrap (x_16
  + (1 : Int))) x.d.id x_7 x_16 (priceS x x_7 x_16).fst ∧ μ_1 (wrap (x_14 + (1 : Int))) true (wrap (x_16 + (1 : Int))) x.d.id x_7 x_16 (priceS x x_7 x_16).fst < μ_1 x_14 x_15 x_16 x_17 x_18 x_19 x_20) ∧ (decide ((priceS x x_7 x_16).fst <
  x_20) = false → ((x_3 = x_3 ∧ wrap (x_14 + (1 : Int)) = wrap (x_14 + (1 : Int)) ∧ x_15 = x_15 ∧ (↑x.legs.length : Int) = (↑x.legs.length : Int) ∧ x_7 = x_7 ∧ wrap (x_16 + (1 : Int)) = wrap (x_16 + (1 : Int))) ∧ ((x.d.id = x.d.id ∧ x.d.room
  = x.d.room ∧ x.d.home = x.d.home ∧ x.d.lo = x.d.lo ∧ x.d.hi = x.d.hi ∧ x.d.retired = x.d.retired ∧ x.pick.pl = x.pick.pl ∧ x.pick.lo = x.pick.lo ∧ x.pick.hi = x.pick.hi ∧ x.pick.sv = x.pick.sv ∧ x.pick.more = x.pick.more ∧ x.drop.pl =
  x.drop.pl ∧ x.drop.lo = x.drop.lo ∧ x.drop.hi = x.drop.hi ∧ x.drop.sv = x.drop.sv ∧ x.drop.more = x.drop.more ∧ x.full = x.full) ∧ x.m.n = x.m.n ∧ ((0 : Int) = (0 : Int) ∧ (0 : Int) = (0 : Int) ∧ (0 : Int) = (0 : Int) ∧ (0 : Int) = (0 :
  Int)) ∧ x_17 = x_17 ∧ x_18 = x_18 ∧ x_19 = x_19 ∧ x_20 = x_20) ∧ x.m.l = x.m.l ∧ x.pre = x.pre ∧ x.legs = x.legs) ∧ inv_1 (wrap (x_14 + (1 : Int))) x_15 (wrap (x_16 + (1 : Int))) x_17 x_18 x_19 x_20 ∧ μ_1 (wrap (x_14 + (1 : Int))) x_15
  (wrap (x_16 + (1 : Int))) x_17 x_18 x_19 x_20 < μ_1 x_14 x_15 x_16 x_17 x_18 x_19 x_20)) ∧ ((!x_15) = !false → ((x_3 = x_3 ∧ wrap (x_14 + (1 : Int)) = wrap (x_14 + (1 : Int)) ∧ true = true ∧ (↑x.legs.length : Int) = (↑x.legs.length : Int) ∧
  x_7 = x_7 ∧ wrap (x_16 + (1 : Int)) = wrap (x_16 + (1 : Int))) ∧ ((x.d.id = x.d.id ∧ x.d.room = x.d.room ∧ x.d.home = x.d.home ∧ x.d.lo = x.d.lo ∧ x.d.hi = x.d.hi ∧ x.d.retired = x.d.retired ∧ x.pick.pl = x.pick.pl ∧ x.pick.lo = x.pick.lo ∧
  x.pick.hi = x.pick.hi ∧ x.pick.sv = x.pick.sv ∧ x.pick.more = x.pick.more ∧ x.drop.pl = x.drop.pl ∧ x.drop.lo = x.drop.lo ∧ x.drop.hi = x.drop.hi ∧ x.drop.sv = x.drop.sv ∧ x.drop.more = x.drop.more ∧ x.full = x.full) ∧ x.m.n = x.m.n ∧ ((0 :
  Int) = (0 : Int) ∧ (0 : Int) = (0 : Int) ∧ (0 : Int) = (0 : Int) ∧ (0 : Int) = (0 : Int)) ∧ x.d.id = x.d.id ∧ x_7 = x_7 ∧ x_16 = x_16 ∧ (priceS x x_7 x_16).fst = (priceS x x_7 x_16).fst) ∧ x.m.l = x.m.l ∧ x.pre = x.pre ∧ x.legs = x.legs) ∧
  inv_1 (wrap (x_14 + (1 : Int))) true (wrap (x_16 + (1 : Int))) x.d.id x_7 x_16 (priceS x x_7 x_16).fst ∧ μ_1 (wrap (x_14 + (1 : Int))) true (wrap (x_16 + (1 : Int))) x.d.id x_7 x_16 (priceS x x_7 x_16).fst < μ_1 x_14 x_15 x_16 x_17 x_18
  x_19 x_20)) ∧ ((priceS x x_7 x_16).snd = !true → ((x_3 = x_3 ∧ wrap (x_14 + (1 : Int)) = wrap (x_14 + (1 : Int)) ∧ x_15 = x_15 ∧ (↑x.legs.length : Int) = (↑x.legs.length : Int) ∧ x_7 = x_7 ∧ wrap (x_16 + (1 : Int)) = wrap (x_16 + (1 :
  Int))) ∧ ((x.d.id = x.d.id ∧ x.d.room = x.d.room ∧ x.d.home = x.d.home ∧ x.d.lo = x.d.lo ∧ x.d.hi = x.d.hi ∧ x.d.retired = x.d.retired ∧ x.pick.pl = x.pick.pl ∧ x.pick.lo = x.pick.lo ∧ x.pick.hi = x.pick.hi ∧ x.pick.sv = x.pick.sv ∧
  x.pick.more = x.pick.more ∧ x.drop.pl = x.drop.pl ∧ x.drop.lo = x.drop.lo ∧ x.drop.hi = x.drop.hi ∧ x.drop.sv = x.drop.sv ∧ x.drop.more = x.drop.more ∧ x.full = x.full) ∧ x.m.n = x.m.n ∧ ((0 : Int) = (0 : Int) ∧ (0 : Int) = (0 : Int) ∧ (0 :
  Int) = (0 : Int) ∧ (0 : Int) = (0 : Int)) ∧ x_17 = x_17 ∧ x_18 = x_18 ∧ x_19 = x_19 ∧ x_20 = x_20) ∧ x.m.l = x.m.l ∧ x.pre = x.pre ∧ x.legs = x.legs) ∧ inv_1 (wrap (x_14 + (1 : Int))) x_15 (wrap (x_16 + (1 : Int))) x_17 x_18 x_19 x_20 ∧ μ_1
  (wrap (x_14 + (1 : Int))) x_15 (wrap (x_16 + (1 : Int))) x_17 x_18 x_19 x_20 < μ_1 x_14 x_15 x_16 x_17 x_18 x_19 x_20))) ∧ (decide (x_16 ≤ (↑x.legs.length : Int)) = false → ((x_3 = x_3 ∧ x_14 = x_14 ∧ x_15 = x_15 ∧ (↑x.legs.length : Int) =
  (↑x.legs.length : Int) ∧ wrap (x_7 + (1 : Int)) = wrap (x_7 + (1 : Int))) ∧ ((x.d.id = x.d.id ∧ x.d.room = x.d.room ∧ x.d.home = x.d.home ∧ x.d.lo = x.d.lo ∧ x.d.hi = x.d.hi ∧ x.d.retired = x.d.retired ∧ x.pick.pl = x.pick.pl ∧ x.pick.lo =
  x.pick.lo ∧ x.pick.hi = x.pick.hi ∧ x.pick.sv = x.pick.sv ∧ x.pick.more = x.pick.more ∧ x.drop.pl = x.drop.pl ∧ x.drop.lo = x.drop.lo ∧ x.drop.hi = x.drop.hi ∧ x.drop.sv = x.drop.sv ∧ x.drop.more = x.drop.more ∧ x.full = x.full) ∧ x.m.n =
  x.m.n ∧ ((0 : Int) = (0 : Int) ∧ (0 : Int) = (0 : Int) ∧ (0 : Int) = (0 : Int) ∧ (0 : Int) = (0 : Int)) ∧ x_17 = x_17 ∧ x_18 = x_18 ∧ x_19 = x_19 ∧ x_20 = x_20) ∧ x.m.l = x.m.l ∧ x.pre = x.pre ∧ x.legs = x.legs) ∧ inv x_14 x_15 (wrap (x_7 +
  (1 : Int))) x_17 x_18 x_19 x_20 ∧ μ x_14 x_15 (wrap (x_7 + (1 : Int))) x_17 x_18 x_19 x_20 < μ x_5 x_6 x_7 x_8 x_9 x_10 x_11)) ∧ (decide (x_7 ≤ (↑x.legs.length : Int)) = false → (x_8 = (hspot (bestS x x_2 x_3)).driver ∧ x_9 = (hspot (bestS
  x x_2 x_3)).pick ∧ x_10 = (hspot (bestS x x_2 x_3)).drop ∧ x_11 = (hspot (bestS x x_2 x_3)).cost) ∧ x_5 = (bestS x x_2 x_3).steps ∧ x_6 = (bestS x x_2 x_3).found)
theorem sbest_told (hc : CsOk Try.prog sbest_cs) (h : sbest_vc) : Told Try.prog 32 sbest_con := told (A := sbest_la) tabOk mixed hc Try.func32 (by kernel_rfl) (by kernel_rfl) h
def made_vc : Prop :=
  ∀ (x : MapD), LenOk x.l.length → ∀ (x_2 : Driver) (x_3 : List Order), LenOk x_3.length → ∀ (x_5 : List Stop), LenOk x_5.length → ∀ (x_7 : Order), MapOk x ∧ x_5.length ≤ (1000 : Nat) → (True ∧ [State.mk x_2.lo x_2.home (0 : Int) (0 :
  Int)].length * ((8 : Nat) * (4 : Nat)) ≤ (140737488355328 : Nat)) ∧ ∃ (inv : Int → List Leg → List State → Int → Int → Int → Int → Prop), ∃ (μ : Int → List Leg → List State → Int → Int → Int → Int → Nat), ((((↑x_5.length : Int) =
  (↑x_5.length : Int) ∧ (0 : Int) = (0 : Int)) ∧ (x.n = x.n ∧ (x_2.id = x_2.id ∧ x_2.room = x_2.room ∧ x_2.home = x_2.home ∧ x_2.lo = x_2.lo ∧ x_2.hi = x_2.hi ∧ x_2.retired = x_2.retired ∧ (legO x_7 false).pl = (legO x_7 false).pl ∧ (legO x_7
  false).lo = (legO x_7 false).lo ∧ (legO x_7 false).hi = (legO x_7 false).hi ∧ (legO x_7 false).sv = (legO x_7 false).sv ∧ (legO x_7 false).more = (legO x_7 false).more ∧ (legO x_7 true).pl = (legO x_7 true).pl ∧ (legO x_7 true).lo = (legO
  x_7 true).lo ∧ (legO x_7 true).hi = (legO x_7 true).hi ∧ (legO x_7 true).sv = (legO x_7 true).sv ∧ (legO x_7 true).more = (legO x_7 true).more ∧ decide ((↑x_3.length : Int) ≥ (40 : Int)) = decide ((↑x_3.length : Int) ≥ (40 : Int))) ∧ x_2.lo
  = x_2.lo ∧ x_2.home = x_2.home ∧ (0 : Int) = (0 : Int) ∧ (0 : Int) = (0 : Int)) ∧ [State.mk x_2.lo x_2.home (0 : Int) (0 : Int)] = [State.mk x_2.lo x_2.home (0 : Int) (0 : Int)] ∧ nilOf Leg = nilOf Leg ∧ x.l = x.l ∧ x_5 = x_5 ∧ x_3 = x_3) ∧
  inv (0 : Int) [] [State.mk x_2.lo x_2.home (0 : Int) (0 : Int)] x_2.lo x_2.home (0 : Int) (0 : Int)) ∧ ∀ (x_9 : Int) (x_10 : List Leg) (x_11 : List State) (x_12 x_13 x_14 x_15 : Int), inv x_9 x_10 x_11 x_12 x_13 x_14 x_15 → (decide (x_9 <
  (↑x_5.length : Int)) = true → ((0 : Int) ≤ x_9 ∧ x_9 < (↑x_5.length : Int)) ∧ x_9.toNat < x_5.length ∧ MapOk x ∧ (True ∧ (x_10.length + [legO (fo x_3 (x_5.getD x_9.toNat FK.stop.zero).order) (x_5.getD x_9.toNat FK.stop.zero).drop].length) *
  ((8 : Nat) * (5 : Nat)) ≤ (140737488355328 : Nat)) ∧ (True ∧ (x_11.length + [(stepS x x_2 (State.mk x_12 x_13 x_14 x_15) (legO (fo x_3 (x_5.getD x_9.toNat FK.stop.zero).order) (x_5.getD x_9.toNat FK.stop.zero).drop)).fst].length) * ((8 :
  Nat) * (4 : Nat)) ≤ (140737488355328 : Nat)) ∧ (((↑x_5.length : Int) = (↑x_5.length : Int) ∧ wrap (x_9 + (1 : Int)) = wrap (x_9 + (1 : Int))) ∧ (x.n = x.n ∧ (x_2.id = x_2.id ∧ x_2.room = x_2.room ∧ x_2.home = x_2.home ∧ x_2.lo = x_2.lo ∧
  x_2.hi = x_2.hi ∧ x_2.retired = x_2.retired ∧ (legO x_7 false).pl = (legO x_7 false).pl ∧ (legO x_7 false).lo = (legO x_7 false).lo ∧ (legO x_7 false).hi = (legO x_7 false).hi ∧ (legO x_7 false).sv = (legO x_7 false).sv ∧ (legO x_7
  false).more = (legO x_7 false).more ∧ (legO x_7 true).pl = (legO x_7 true).pl ∧ (legO x_7 true).lo = (legO x_7 true).lo ∧ (legO x_7 true).hi = (legO x_7 true).hi ∧ (legO x_7 true).sv = (legO x_7 true).sv ∧ (legO x_7 true).more = (legO x_7
  true).more ∧ decide ((↑x_3.length : Int) ≥ (40 : Int)) = decide ((↑x_3.length : Int) ≥ (40 : Int))) ∧ (stepS x x_2 (State.mk x_12 x_13 x_14 x_15) (legO (fo x_3 (x_5.getD x_9.toNat FK.stop.zero).order) (x_5.getD x_9.toNat
  FK.stop.zero).drop)).fst.now = (stepS x x_2 (State.mk x_12 x_13 x_14 x_15) (legO (fo x_3 (x_5.getD x_9.toNat FK.stop.zero).order) (x_5.getD x_9.toNat FK.stop.zero).drop)).fst.now ∧ (stepS x x_2 (State.mk x_12 x_13 x_14 x_15) (legO (fo x_3
  (x_5.getD x_9.toNat FK.stop.zero).order) (x_5.getD x_9.toNat FK.stop.zero).drop)).fst.pos = (stepS x x_2 (State.mk x_12 x_13 x_14 x_15) (legO (fo x_3 (x_5.getD x_9.toNat FK.stop.zero).order) (x_5.getD x_9.toNat FK.stop.zero).drop)).fst.pos
  ∧ (stepS x x_2 (State.mk x_12 x_13 x_14 x_15) (legO (fo x_3 (x_5.getD x_9.toNat FK.stop.zero).order) (x_5.getD x_9.toNat FK.stop.zero).drop)).fst.load = (stepS x x_2 (State.mk x_12 x_13 x_14 x_15) (legO (fo x_3 (x_5.getD x_9.toNat
  FK.stop.zero).order) (x_5.getD x_9.toNat FK.stop.zero).drop)).fst.load ∧ (stepS x x_2 (State.mk x_12 x_13 x_14 x_15) (legO (fo x_3 (x_5.getD x_9.toNat FK.stop.zero).order) (x_5.getD x_9.toNat FK.stop.zero).drop)).fst.way = (stepS x x_2
  (State.mk x_12 x_13 x_14 x_15) (legO (fo x_3 (x_5.getD x_9.toNat FK.stop.zero).order) (x_5.getD x_9.toNat FK.stop.zero).drop)).fst.way) ∧ x_11 ++ [(stepS x x_2 (State.mk x_12 x_13 x_14 x_15) (legO (fo x_3 (x_5.getD x_9.toNat
  FK.stop.zero).order) (x_5.getD x_9.toNat FK.stop.zero).drop)).fst] = x_11 ++ [(stepS x x_2 (State.mk x_12 x_13 x_14 x_15) (legO (fo x_3 (x_5.getD x_9.toNat FK.stop.zero).order) (x_5.getD x_9.toNat FK.stop.zero).drop)).fst] ∧ x_10 ++ [legO
  (fo x_3 (x_5.getD x_9.toNat FK.stop.zero).order) (x_5.getD x_9.toNat FK.stop.zero).drop] = x_10 ++ [legO (fo x_3 (x_5.getD x_9.toNat FK.stop.zero).order) (x_5.getD x_9.toNat FK.stop.zero).drop] ∧ x.l = x.l ∧ x_5 = x_5 ∧ x_3 = x_3) ∧ inv
  (wrap (x_9 + (1 : Int))) (x_10 ++ [legO (fo x_3 (x_5.getD x_9.toNat FK.stop.zero).order) (x_5.getD x_9.toNat FK.stop.zero).drop]) (x_11 ++ [(stepS x x_2 (State.mk x_12 x_13 x_14 x_15) (legO (fo x_3 (x_5.getD x_9.toNat FK.stop.zero).order)
  (x_5.getD x_9.toNat FK.stop.zero).drop)).fst]) (stepS x x_2 (State.mk x_12 x_13 x_14 x_15) (legO (fo x_3 (x_5.getD x_9.toNat FK.stop.zero).order) (x_5.getD x_9.toNat FK.stop.zero).drop)).fst.now (stepS x x_2 (State.mk x_12 x_13 x_14 x_15)
  (legO (fo x_3 (x_5.getD x_9.toNat FK.stop.zero).order) (x_5.getD x_9.toNat FK.stop.zero).drop)).fst.pos (stepS x x_2 (State.mk x_12 x_13 x_14 x_15) (legO (fo x_3 (x_5.getD x_9.toNat FK.stop.zero).order) (x_5.getD x_9.toNat
  FK.stop.zero).drop)).fst.load (stepS x x_2 (State.mk x_12 x_13 x_14 x_15) (legO (fo x_3 (x_5.getD x_9.toNat FK.stop.zero).order) (x_5.getD x_9.toNat FK.stop.zero).drop)).fst.way ∧ μ (wrap (x_9 + (1 : Int))) (x_10 ++ [legO (fo x_3 (x_5.getD
  x_9.toNat FK.stop.zero).order) (x_5.getD x_9.toNat FK.stop.zero).drop]) (x_11 ++ [(stepS x x_2 (State.mk x_12 x_13 x_14 x_15) (legO (fo x_3 (x_5.getD x_9.toNat FK.stop.zero).order) (x_5.getD x_9.toNat FK.stop.zero).drop)).fst]) (stepS x x_2
  (State.mk x_12 x_13 x_14 x_15) (legO (fo x_3 (x_5.getD x_9.toNat FK.stop.zero).order) (x_5.getD x_9.toNat FK.stop.zero).drop)).fst.now (stepS x x_2 (State.mk x_12 x_13 x_14 x_15) (legO (fo x_3 (x_5.getD x_9.toNat FK.stop.zero).order)
  (x_5.getD x_9.toNat FK.stop.zero).drop)).fst.pos (stepS x x_2 (State.mk x_12 x_13 x_14 x_15) (legO (fo x_3 (x_5.getD x_9.toNat FK.stop.zero).order) (x_5.getD x_9.toNat FK.stop.zero).drop)).fst.load (stepS x x_2 (State.mk x_12 x_13 x_14
  x_15) (legO (fo x_3 (x_5.getD x_9.toNat FK.stop.zero).order) (x_5.getD x_9.toNat FK.stop.zero).drop)).fst.way < μ x_9 x_10 x_11 x_12 x_13 x_14 x_15) ∧ (decide (x_9 < (↑x_5.length : Int)) = false → (x_2.id = x_2.id ∧ x_2.room = x_2.room ∧
  x_2.home = x_2.home ∧ x_2.lo = x_2.lo ∧ x_2.hi = x_2.hi ∧ x_2.retired = x_2.retired ∧ (legO x_7 false).pl = (legO x_7 false).pl ∧ (legO x_7 false).lo = (legO x_7 false).lo ∧ (legO x_7 false).hi = (legO x_7 false).hi ∧ (legO x_7 false).sv =
  (legO x_7 false).sv ∧ (legO x_7 false).more = (legO x_7 false).more ∧ (legO x_7 true).pl = (legO x_7 true).pl ∧ (legO x_7 true).lo = (legO x_7 true).lo ∧ (legO x_7 true).hi = (legO x_7 true).hi ∧ (legO x_7 true).sv = (legO x_7 true).sv ∧
  (legO x_7 true).more = (legO x_7 true).more ∧ decide ((↑x_3.length : Int) ≥ (40 : Int)) = (mkS x x_2 x_3 x_5 x_7).full) ∧ x_11 = (mkS x x_2 x_3 x_5 x_7).pre ∧ x_10 = (mkS x x_2 x_3 x_5 x_7).legs)
theorem made_told (hc : CsOk Try.prog made_cs) (h : made_vc) : Told Try.prog 31 made_con := told (A := made_la) tabOk mixed hc Try.func31 (by kernel_rfl) (by kernel_rfl) h
def asked_vc : Prop :=
  (∀ (x : List Order), LenOk x.length → ∀ (x_2 : Order) (x_3 : Int), (∀ (x : MapD), none = some x → MapOk x) → (∀ (x : MapD), none = some x → MapOk x) ∧ (decide (orderE none x_2 = (0 : Int)) = true → ((!(findO x x_2.id).isSome) = true →
  (decide (x_3 ≥ (0 : Int)) = true → decide (x_3 ≤ (100000 : Int)) = askedP none x x_2 x_3) ∧ (decide (x_3 ≥ (0 : Int)) = !true → false = askedP none x x_2 x_3)) ∧ ((!(findO x x_2.id).isSome) = !true → false = askedP none x x_2 x_3)) ∧
  (decide (orderE none x_2 = (0 : Int)) = !true → false = askedP none x x_2 x_3)) ∧ ∀ (x : MapD), LenOk x.l.length → ∀ (x_2 : List Order), LenOk x_2.length → ∀ (x_4 : Order) (x_5 : Int), (∀ (x_6 : MapD), some x = some x_6 → MapOk x_6) → (∀
  (x_7 : MapD), some x = some x_7 → MapOk x_7) ∧ (decide (orderE (some x) x_4 = (0 : Int)) = true → ((!(findO x_2 x_4.id).isSome) = true → (decide (x_5 ≥ (0 : Int)) = true → decide (x_5 ≤ (100000 : Int)) = askedP (some x) x_2 x_4 x_5) ∧
  (decide (x_5 ≥ (0 : Int)) = !true → false = askedP (some x) x_2 x_4 x_5)) ∧ ((!(findO x_2 x_4.id).isSome) = !true → false = askedP (some x) x_2 x_4 x_5)) ∧ (decide (orderE (some x) x_4 = (0 : Int)) = !true → false = askedP (some x) x_2 x_4
  x_5)
theorem asked_told (hc : CsOk Try.prog asked_cs) (h : asked_vc) : Told Try.prog 29 asked_con := told (A := asked_la) tabOk mixed hc Try.func29 (by kernel_rfl) (by kernel_rfl) h
def ibest_vc : Prop :=
  (∀ (x : Driver) (x_1 : List Order), LenOk x_1.length → ∀ (x_3 : Route), LenOk x_3.stops.length → ∀ (x_5 : Order) (x_6 : Int), (∀ (x : MapD), none = some x → MapOk x) → (∀ (x : MapD), none = some x → MapOk x) ∧ ((!askedP none x_1 x_5 x_6) =
  false → ((!decide (x_3.driver = x.id)) = false → (decide (x_3.served < (0 : Int)) = false → (decide (x_3.served > (↑x_3.stops.length : Int)) = true → ((0 : Int) = (hspot (bestP none x x_1 x_3 x_5 x_6).fst).driver ∧ (0 : Int) = (hspot (bestP
  none x x_1 x_3 x_5 x_6).fst).pick ∧ (0 : Int) = (hspot (bestP none x x_1 x_3 x_5 x_6).fst).drop ∧ (0 : Int) = (hspot (bestP none x x_1 x_3 x_5 x_6).fst).cost) ∧ (0 : Int) = (bestP none x x_1 x_3 x_5 x_6).fst.steps ∧ (1 : Int) = (bestP none
  x x_1 x_3 x_5 x_6).snd) ∧ (decide (x_3.served > (↑x_3.stops.length : Int)) = false → (∀ (x : MapD), none = some x → MapOk x) ∧ ((!good (fauR (drive none x x_1 x_3.stops))) = true → ((0 : Int) = (hspot (bestP none x x_1 x_3 x_5
  x_6).fst).driver ∧ (0 : Int) = (hspot (bestP none x x_1 x_3 x_5 x_6).fst).pick ∧ (0 : Int) = (hspot (bestP none x x_1 x_3 x_5 x_6).fst).drop ∧ (0 : Int) = (hspot (bestP none x x_1 x_3 x_5 x_6).fst).cost) ∧ (0 : Int) = (bestP none x x_1 x_3
  x_5 x_6).fst.steps ∧ (1 : Int) = (bestP none x x_1 x_3 x_5 x_6).snd) ∧ ((!good (fauR (drive none x x_1 x_3.stops))) = false → (x.retired = true → ((0 : Int) = (hspot (bestP none x x_1 x_3 x_5 x_6).fst).driver ∧ (0 : Int) = (hspot (bestP
  none x x_1 x_3 x_5 x_6).fst).pick ∧ (0 : Int) = (hspot (bestP none x x_1 x_3 x_5 x_6).fst).drop ∧ (0 : Int) = (hspot (bestP none x x_1 x_3 x_5 x_6).fst).cost) ∧ (0 : Int) = (bestP none x x_1 x_3 x_5 x_6).fst.steps ∧ (23 : Int) = (bestP none
  x x_1 x_3 x_5 x_6).snd) ∧ (x.retired = false → (decide ((↑x_3.stops.length : Int) > (78 : Int)) = true → ((0 : Int) = (hspot (bestP none x x_1 x_3 x_5 x_6).fst).driver ∧ (0 : Int) = (hspot (bestP none x x_1 x_3 x_5 x_6).fst).pick ∧ (0 :
  Int) = (hspot (bestP none x x_1 x_3 x_5 x_6).fst).drop ∧ (0 : Int) = (hspot (bestP none x x_1 x_3 x_5 x_6).fst).cost) ∧ (0 : Int) = (bestP none x x_1 x_3 x_5 x_6).fst.steps ∧ (10 : Int) = (bestP none x x_1 x_3 x_5 x_6).snd) ∧ (decide
  ((↑x_3.stops.length : Int) > (78 : Int)) = false → Bad (nat_lit 9) Oper (Oper.mk (some (nat_lit 75)) (Op.call (Call.mk (Callee.value (Operand.func (nat_lit 31))) (Array.mk [Operand.tmp (nat_lit 69), Operand.tmp (nat_lit 70), Operand.tmp
  (nat_lit 71), Operand.tmp (nat_lit 73), Operand.tmp (nat_lit 74)]) (Array.mk [nat_lit 35, nat_lit 44, nat_lit 24, nat_lit 39, nat_lit 34]))) (nat_lit 87) "insert.go:120" (Array.mk [Edge.mk (nat_lit 0) Ground.data, Edge.mk (nat_lit 1)
  Ground.data, Edge.mk (nat_lit 2) Ground.data, Edge.mk (nat_lit 4) Ground.data, Edge.mk (nat_lit 5) Ground.data]) none)))))) ∧ (decide (x_3.served < (0 : Int)) = !false → ((0 : Int) = (hspot (bestP none x x_1 x_3 x_5 x_6).fst).driver ∧ (0 :
  Int) = (hspot (bestP none x x_1 x_3 x_5 x_6).fst).pick ∧ (0 : Int) = (hspot (bestP none x x_1 x_3 x_5 x_6).fst).drop ∧ (0 : Int) = (hspot (bestP none x x_1 x_3 x_5 x_6).fst).cost) ∧ (0 : Int) = (bestP none x x_1 x_3 x_5 x_6).fst.steps ∧ (1
  : Int) = (bestP none x x_1 x_3 x_5 x_6).snd)) ∧ ((!decide (x_3.driver = x.id)) = !false → ((0 : Int) = (hspot (bestP none x x_1 x_3 x_5 x_6).fst).driver ∧ (0 : Int) = (hspot (bestP none x x_1 x_3 x_5 x_6).fst).pick ∧ (0 : Int) = (hspot
  (bestP none x x_1 x_3 x_5 x_6).fst).drop ∧ (0 : Int) = (hspot (bestP none x x_1 x_3 x_5 x_6).fst).cost) ∧ (0 : Int) = (bestP none x x_1 x_3 x_5 x_6).fst.steps ∧ (1 : Int) = (bestP none x x_1 x_3 x_5 x_6).snd)) ∧ ((!askedP none x_1 x_5 x_6)
  = !false → ((0 : Int) = (hspot (bestP none x x_1 x_3 x_5 x_6).fst).driver ∧ (0 : Int) = (hspot (bestP none x x_1 x_3 x_5 x_6).fst).pick ∧ (0 : Int) = (hspot (bestP none x x_1 x_3 x_5 x_6).fst).drop ∧ (0 : Int) = (hspot (bestP none x x_1 x_3
  x_5 x_6).fst).cost) ∧ (0 : Int) = (bestP none x x_1 x_3 x_5 x_6).fst.steps ∧ (1 : Int) = (bestP none x x_1 x_3 x_5 x_6).snd)) ∧ ∀ (x : MapD), LenOk x.l.length → ∀ (x_2 : Driver) (x_3 : List Order), LenOk x_3.length → ∀ (x_5 : Route), LenOk
  x_5.stops.length → ∀ (x_7 : Order) (x_8 : Int), (∀ (x_9 : MapD), some x = some x_9 → MapOk x_9) → (∀ (x_10 : MapD), some x = some x_10 → MapOk x_10) ∧ ((!askedP (some x) x_3 x_7 x_8) = false → ((!decide (x_5.driver = x_2.id)) = false →
  (decide (x_5.served < (0 : Int)) = false → (decide (x_5.served > (↑x_5.stops.length : Int)) = true → ((0 : Int) = (hspot (bestP (some x) x_2 x_3 x_5 x_7 x_8).fst).driver ∧ (0 : Int) = (hspot (bestP (some x) x_2 x_3 x_5 x_7 x_8).fst).pick ∧
  (0 : Int) = (hspot (bestP (some x) x_2 x_3 x_5 x_7 x_8).fst).drop ∧ (0 : Int) = (hspot (bestP (some x) x_2 x_3 x_5 x_7 x_8).fst).cost) ∧ (0 : Int) = (bestP (some x) x_2 x_3 x_5 x_7 x_8).fst.steps ∧ (1 : Int) = (bestP (some x) x_2 x_3 x_5
  x_7 x_8).snd) ∧ (decide (x_5.served > (↑x_5.stops.length : Int)) = false → (∀ (x_14 : MapD), some x = some x_14 → MapOk x_14) ∧ ((!good (fauR (drive (some x) x_2 x_3 x_5.stops))) = true → ((0 : Int) = (hspot (bestP (some x) x_2 x_3 x_5 x_7
  x_8).fst).driver ∧ (0 : Int) = (hspot (bestP (some x) x_2 x_3 x_5 x_7 x_8).fst).pick ∧ (0 : Int) = (hspot (bestP (some x) x_2 x_3 x_5 x_7 x_8).fst).drop ∧ (0 : Int) = (hspot (bestP (some x) x_2 x_3 x_5 x_7 x_8).fst).cost) ∧ (0 : Int) =
  (bestP (some x) x_2 x_3 x_5 x_7 x_8).fst.steps ∧ (1 : Int) = (bestP (some x) x_2 x_3 x_5 x_7 x_8).snd) ∧ ((!good (fauR (drive (some x) x_2 x_3 x_5.stops))) = false → (x_2.retired = true → ((0 : Int) = (hspot (bestP (some x) x_2 x_3 x_5 x_7
  x_8).fst).driver ∧ (0 : Int) = (hspot (bestP (some x) x_2 x_3 x_5 x_7 x_8).fst).pick ∧ (0 : Int) = (hspot (bestP (some x) x_2 x_3 x_5 x_7 x_8).fst).drop ∧ (0 : Int) = (hspot (bestP (some x) x_2 x_3 x_5 x_7 x_8).fst).cost) ∧ (0 : Int) =
  (bestP (some x) x_2 x_3 x_5 x_7 x_8).fst.steps ∧ (23 : Int) = (bestP (some x) x_2 x_3 x_5 x_7 x_8).snd) ∧ (x_2.retired = false → (decide ((↑x_5.stops.length : Int) > (78 : Int)) = true → ((0 : Int) = (hspot (bestP (some x) x_2 x_3 x_5 x_7
  x_8).fst).driver ∧ (0 : Int) = (hspot (bestP (some x) x_2 x_3 x_5 x_7 x_8).fst).pick ∧ (0 : Int) = (hspot (bestP (some x) x_2 x_3 x_5 x_7 x_8).fst).drop ∧ (0 : Int) = (hspot (bestP (some x) x_2 x_3 x_5 x_7 x_8).fst).cost) ∧ (0 : Int) =
  (bestP (some x) x_2 x_3 x_5 x_7 x_8).fst.steps ∧ (10 : Int) = (bestP (some x) x_2 x_3 x_5 x_7 x_8).snd) ∧ (decide ((↑x_5.stops.length : Int) > (78 : Int)) = false → (MapOk x ∧ x_5.stops.length ≤ (1000 : Nat)) ∧ BestPre (SearchD.mk x x_2
  (mkS x x_2 x_3 x_5.stops x_7).legs (mkS x x_2 x_3 x_5.stops x_7).pre (legO x_7 false) (legO x_7 true) (mkS x x_2 x_3 x_5.stops x_7).full) x_5.served ∧ ((!(bestS (SearchD.mk x x_2 (mkS x x_2 x_3 x_5.stops x_7).legs (mkS x x_2 x_3 x_5.stops
  x_7).pre (legO x_7 false) (legO x_7 true) (mkS x x_2 x_3 x_5.stops x_7).full) x_5.served x_8).found) = true → ((0 : Int) = (hspot (bestP (some x) x_2 x_3 x_5 x_7 x_8).fst).driver ∧ (0 : Int) = (hspot (bestP (some x) x_2 x_3 x_5 x_7
  x_8).fst).pick ∧ (0 : Int) = (hspot (bestP (some x) x_2 x_3 x_5 x_7 x_8).fst).drop ∧ (0 : Int) = (hspot (bestP (some x) x_2 x_3 x_5 x_7 x_8).fst).cost) ∧ (bestS (SearchD.mk x x_2 (mkS x x_2 x_3 x_5.stops x_7).legs (mkS x x_2 x_3 x_5.stops
  x_7).pre (legO x_7 false) (legO x_7 true) (mkS x x_2 x_3 x_5.stops x_7).full) x_5.served x_8).steps = (bestP (some x) x_2 x_3 x_5 x_7 x_8).fst.steps ∧ (20 : Int) = (bestP (some x) x_2 x_3 x_5 x_7 x_8).snd) ∧ ((!(bestS (SearchD.mk x x_2 (mkS
  x x_2 x_3 x_5.stops x_7).legs (mkS x x_2 x_3 x_5.stops x_7).pre (legO x_7 false) (legO x_7 true) (mkS x x_2 x_3 x_5.stops x_7).full) x_5.served x_8).found) = false → ((hspot (bestS (SearchD.mk x x_2 (mkS x x_2 x_3 x_5.stops x_7).legs (mkS x
  x_2 x_3 x_5.stops x_7).pre (legO x_7 false) (legO x_7 true) (mkS x x_2 x_3 x_5.stops x_7).full) x_5.served x_8)).driver = (hspot (bestP (some x) x_2 x_3 x_5 x_7 x_8).fst).driver ∧ (hspot (bestS (SearchD.mk x x_2 (mkS x x_2 x_3 x_5.stops
  x_7).legs (mkS x x_2 x_3 x_5.stops x_7).pre (legO x_7 false) (legO x_7 true) (mkS x x_2 x_3 x_5.stops x_7).full) x_5.served x_8)).pick = (hspot (bestP (some x) x_2 x_3 x_5 x_7 x_8).fst).pick ∧ (hspot (bestS (SearchD.mk x x_2 (mkS x x_2 x_3
  x_5.stops x_7).legs (mkS x x_2 x_3 x_5.stops x_7).pre (legO x_7 false) (legO x_7 true) (mkS x x_2 x_3 x_5.stops x_7).full) x_5.served x_8)).drop = (hspot (bestP (some x) x_2 x_3 x_5 x_7 x_8).fst).drop ∧ (hspot (bestS (SearchD.mk x x_2 (mkS
  x x_2 x_3 x_5.stops x_7).legs (mkS x x_2 x_3 x_5.stops x_7).pre (legO x_7 false) (legO x_7 true) (mkS x x_2 x_3 x_5.stops x_7).full) x_5.served x_8)).cost = (hspot (bestP (some x) x_2 x_3 x_5 x_7 x_8).fst).cost) ∧ (bestS (SearchD.mk x x_2
  (mkS x x_2 x_3 x_5.stops x_7).legs (mkS x x_2 x_3 x_5.stops x_7).pre (legO x_7 false) (legO x_7 true) (mkS x x_2 x_3 x_5.stops x_7).full) x_5.served x_8).steps = (bestP (some x) x_2 x_3 x_5 x_7 x_8).fst.steps ∧ (0 : Int) = (bestP (some x)
  x_2 x_3 x_5 x_7 x_8).snd)))))) ∧ (decide (x_5.served < (0 : Int)) = !false → ((0 : Int) = (hspot (bestP (some x) x_2 x_3 x_5 x_7 x_8).fst).driver ∧ (0 : Int) = (hspot (bestP (some x) x_2 x_3 x_5 x_7 x_8).fst).pick ∧ (0 : Int) = (hspot
  (bestP (some x) x_2 x_3 x_5 x_7 x_8).fst).drop ∧ (0 : Int) = (hspot (bestP (some x) x_2 x_3 x_5 x_7 x_8).fst).cost) ∧ (0 : Int) = (bestP (some x) x_2 x_3 x_5 x_7 x_8).fst.steps ∧ (1 : Int) = (bestP (some x) x_2 x_3 x_5 x_7 x_8).snd)) ∧
  ((!decide (x_5.driver = x_2.id)) = !false → ((0 : Int) = (hspot (bestP (some x) x_2 x_3 x_5 x_7 x_8).fst).driver ∧ (0 : Int) = (hspot (bestP (some x) x_2 x_3 x_5 x_7 x_8).fst).pick ∧ (0 : Int) = (hspot (bestP (some x) x_2 x_3 x_5 x_7
  x_8).fst).drop ∧ (0 : Int) = (hspot (bestP (some x) x_2 x_3 x_5 x_7 x_8).fst).cost) ∧ (0 : Int) = (bestP (some x) x_2 x_3 x_5 x_7 x_8).fst.steps ∧ (1 : Int) = (bestP (some x) x_2 x_3 x_5 x_7 x_8).snd)) ∧ ((!askedP (some x) x_3 x_7 x_8) =
  !false → ((0 : Int) = (hspot (bestP (some x) x_2 x_3 x_5 x_7 x_8).fst).driver ∧ (0 : Int) = (hspot (bestP (some x) x_2 x_3 x_5 x_7 x_8).fst).pick ∧ (0 : Int) = (hspot (bestP (some x) x_2 x_3 x_5 x_7 x_8).fst).drop ∧ (0 : Int) = (hspot
  (bestP (some x) x_2 x_3 x_5 x_7 x_8).fst).cost) ∧ (0 : Int) = (bestP (some x) x_2 x_3 x_5 x_7 x_8).fst.steps ∧ (1 : Int) = (bestP (some x) x_2 x_3 x_5 x_7 x_8).snd)
theorem ibest_told (hc : CsOk Try.prog ibest_cs) (h : ibest_vc) : Told Try.prog 13 ibest_con := told (A := ibest_la) tabOk mixed hc Try.func13 (by kernel_rfl) (by kernel_rfl) h
def look_vc : Prop :=
  (∀ (x : List Driver), LenOk x.length → ∀ (x_2 : List Order), LenOk x_2.length → ∀ (x_4 : List Route), (LenOk x_4.length ∧ ∀ (r : Route), List.Mem r x_4 → LenOk r.stops.length) → ∀ (x_6 : Order) (x_7 : Int), LookPre none x_4 x_7 → ∃ (inv :
  Int → Bool → Int → Int → Int → Int → Int → Prop), ∃ (μ : Int → Bool → Int → Int → Int → Int → Int → Nat), (((x_7 = x_7 ∧ (0 : Int) = (0 : Int) ∧ false = false ∧ (↑x_4.length : Int) = (↑x_4.length : Int) ∧ (0 : Int) = (0 : Int)) ∧ ((x_6.id =
  x_6.id ∧ x_6.size = x_6.size ∧ x_6.pp = x_6.pp ∧ x_6.pf = x_6.pf ∧ x_6.pt = x_6.pt ∧ x_6.ps = x_6.ps ∧ x_6.dp = x_6.dp ∧ x_6.df = x_6.df ∧ x_6.dt = x_6.dt ∧ x_6.ds = x_6.ds) ∧ ((0 : Int) = (0 : Int) ∧ (0 : Int) = (0 : Int) ∧ (0 : Int) = (0
  : Int) ∧ (0 : Int) = (0 : Int)) ∧ (0 : Int) = (0 : Int) ∧ (0 : Int) = (0 : Int) ∧ (0 : Int) = (0 : Int) ∧ (0 : Int) = (0 : Int)) ∧ x_4 = x_4 ∧ x_2 = x_2 ∧ x = x) ∧ inv (0 : Int) false (0 : Int) (0 : Int) (0 : Int) (0 : Int) (0 : Int)) ∧ ∀
  (x_9 : Int) (x_10 : Bool) (x_11 x_12 x_13 x_14 x_15 : Int), inv x_9 x_10 x_11 x_12 x_13 x_14 x_15 → (decide (x_11 < (↑x_4.length : Int)) = true → ((0 : Int) ≤ x_11 ∧ x_11 < (↑x_4.length : Int)) ∧ x_11.toNat < x_4.length ∧ (((findD (x_4.getD
  x_11.toNat (Route.mk (0 : Int) (0 : Int) [])).driver x).getD FK.driver.zero).retired = false → (decide ((↑(x_4.getD x_11.toNat (Route.mk (0 : Int) (0 : Int) [])).stops.length : Int) > (78 : Int)) = true → ((x_7 = x_7 ∧ x_9 = x_9 ∧ x_10 =
  x_10 ∧ (↑x_4.length : Int) = (↑x_4.length : Int) ∧ wrap (x_11 + (1 : Int)) = wrap (x_11 + (1 : Int))) ∧ ((x_6.id = x_6.id ∧ x_6.size = x_6.size ∧ x_6.pp = x_6.pp ∧ x_6.pf = x_6.pf ∧ x_6.pt = x_6.pt ∧ x_6.ps = x_6.ps ∧ x_6.dp = x_6.dp ∧
  x_6.df = x_6.df ∧ x_6.dt = x_6.dt ∧ x_6.ds = x_6.ds) ∧ ((0 : Int) = (0 : Int) ∧ (0 : Int) = (0 : Int) ∧ (0 : Int) = (0 : Int) ∧ (0 : Int) = (0 : Int)) ∧ x_12 = x_12 ∧ x_13 = x_13 ∧ x_14 = x_14 ∧ x_15 = x_15) ∧ x_4 = x_4 ∧ x_2 = x_2 ∧ x = x)
  ∧ inv x_9 x_10 (wrap (x_11 + (1 : Int))) x_12 x_13 x_14 x_15 ∧ μ x_9 x_10 (wrap (x_11 + (1 : Int))) x_12 x_13 x_14 x_15 < μ x_9 x_10 x_11 x_12 x_13 x_14 x_15) ∧ (decide ((↑(x_4.getD x_11.toNat (Route.mk (0 : Int) (0 : Int) [])).stops.length
  : Int) > (78 : Int)) = false → Bad (nat_lit 9) Oper (Oper.mk (some (nat_lit 53)) (Op.call (Call.mk (Callee.value (Operand.func (nat_lit 31))) (Array.mk [Operand.tmp (nat_lit 47), Operand.tmp (nat_lit 48), Operand.tmp (nat_lit 49),
  Operand.tmp (nat_lit 51), Operand.tmp (nat_lit 52)]) (Array.mk [nat_lit 35, nat_lit 44, nat_lit 24, nat_lit 39, nat_lit 34]))) (nat_lit 87) "insert.go:145" (Array.mk [Edge.mk (nat_lit 0) Ground.data, Edge.mk (nat_lit 1) Ground.data, Edge.mk
  (nat_lit 2) Ground.data, Edge.mk (nat_lit 4) Ground.data, Edge.mk (nat_lit 5) Ground.data]) none))) ∧ (((findD (x_4.getD x_11.toNat (Route.mk (0 : Int) (0 : Int) [])).driver x).getD FK.driver.zero).retired = !false → ((x_7 = x_7 ∧ x_9 = x_9
  ∧ x_10 = x_10 ∧ (↑x_4.length : Int) = (↑x_4.length : Int) ∧ wrap (x_11 + (1 : Int)) = wrap (x_11 + (1 : Int))) ∧ ((x_6.id = x_6.id ∧ x_6.size = x_6.size ∧ x_6.pp = x_6.pp ∧ x_6.pf = x_6.pf ∧ x_6.pt = x_6.pt ∧ x_6.ps = x_6.ps ∧ x_6.dp =
  x_6.dp ∧ x_6.df = x_6.df ∧ x_6.dt = x_6.dt ∧ x_6.ds = x_6.ds) ∧ ((0 : Int) = (0 : Int) ∧ (0 : Int) = (0 : Int) ∧ (0 : Int) = (0 : Int) ∧ (0 : Int) = (0 : Int)) ∧ x_12 = x_12 ∧ x_13 = x_13 ∧ x_14 = x_14 ∧ x_15 = x_15) ∧ x_4 = x_4 ∧ x_2 = x_2
  ∧ x = x) ∧ inv x_9 x_10 (wrap (x_11 + (1 : Int))) x_12 x_13 x_14 x_15 ∧ μ x_9 x_10 (wrap (x_11 + (1 : Int))) x_12 x_13 x_14 x_15 < μ x_9 x_10 x_11 x_12 x_13 x_14 x_15)) ∧ (decide (x_11 < (↑x_4.length : Int)) = false → ((!x_10) = true → ((0
  : Int) = (hspot (tellH (lookP none x x_2 x_4 x_6 x_7)).fst).driver ∧ (0 : Int) = (hspot (tellH (lookP none x x_2 x_4 x_6 x_7)).fst).pick ∧ (0 : Int) = (hspot (tellH (lookP none x x_2 x_4 x_6 x_7)).fst).drop ∧ (0 : Int) = (hspot (tellH
  (lookP none x x_2 x_4 x_6 x_7)).fst).cost) ∧ x_9 = (tellH (lookP none x x_2 x_4 x_6 x_7)).fst.steps ∧ (20 : Int) = (tellH (lookP none x x_2 x_4 x_6 x_7)).snd) ∧ ((!x_10) = false → (x_12 = (hspot (tellH (lookP none x x_2 x_4 x_6
  x_7)).fst).driver ∧ x_13 = (hspot (tellH (lookP none x x_2 x_4 x_6 x_7)).fst).pick ∧ x_14 = (hspot (tellH (lookP none x x_2 x_4 x_6 x_7)).fst).drop ∧ x_15 = (hspot (tellH (lookP none x x_2 x_4 x_6 x_7)).fst).cost) ∧ x_9 = (tellH (lookP none
  x x_2 x_4 x_6 x_7)).fst.steps ∧ (0 : Int) = (tellH (lookP none x x_2 x_4 x_6 x_7)).snd))) ∧ ∀ (x : MapD), LenOk x.l.length → ∀ (x_2 : List Driver), LenOk x_2.length → ∀ (x_4 : List Order), LenOk x_4.length → ∀ (x_6 : List Route), (LenOk
  x_6.length ∧ ∀ (r : Route), List.Mem r x_6 → LenOk r.stops.length) → ∀ (x_8 : Order) (x_9 : Int), LookPre (some x) x_6 x_9 → ∃ (inv : Int → Bool → Int → Int → Int → Int → Int → Prop), ∃ (μ : Int → Bool → Int → Int → Int → Int → Int → Nat),
  (((x_9 = x_9 ∧ (0 : Int) = (0 : Int) ∧ false = false ∧ (↑x_6.length : Int) = (↑x_6.length : Int) ∧ (0 : Int) = (0 : Int)) ∧ (x.n = x.n ∧ (x_8.id = x_8.id ∧ x_8.size = x_8.size ∧ x_8.pp = x_8.pp ∧ x_8.pf = x_8.pf ∧ x_8.pt = x_8.pt ∧ x_8.ps =
  x_8.ps ∧ x_8.dp = x_8.dp ∧ x_8.df = x_8.df ∧ x_8.dt = x_8.dt ∧ x_8.ds = x_8.ds) ∧ ((0 : Int) = (0 : Int) ∧ (0 : Int) = (0 : Int) ∧ (0 : Int) = (0 : Int) ∧ (0 : Int) = (0 : Int)) ∧ (0 : Int) = (0 : Int) ∧ (0 : Int) = (0 : Int) ∧ (0 : Int) =
  (0 : Int) ∧ (0 : Int) = (0 : Int)) ∧ x.l = x.l ∧ x_6 = x_6 ∧ x_4 = x_4 ∧ x_2 = x_2) ∧ inv (0 : Int) false (0 : Int) (0 : Int) (0 : Int) (0 : Int) (0 : Int)) ∧ ∀ (x_11 : Int) (x_12 : Bool) (x_13 x_14 x_15 x_16 x_17 : Int), inv x_11 x_12 x_13
  x_14 x_15 x_16 x_17 → (decide (x_13 < (↑x_6.length : Int)) = true → ((0 : Int) ≤ x_13 ∧ x_13 < (↑x_6.length : Int)) ∧ x_13.toNat < x_6.length ∧ (((findD (x_6.getD x_13.toNat (Route.mk (0 : Int) (0 : Int) [])).driver x_2).getD
  FK.driver.zero).retired = false → (decide ((↑(x_6.getD x_13.toNat (Route.mk (0 : Int) (0 : Int) [])).stops.length : Int) > (78 : Int)) = true → ((x_9 = x_9 ∧ x_11 = x_11 ∧ x_12 = x_12 ∧ (↑x_6.length : Int) = (↑x_6.length : Int) ∧ wrap (x_13
  + (1 : Int)) = wrap (x_13 + (1 : Int))) ∧ (x.n = x.n ∧ (x_8.id = x_8.id ∧ x_8.size = x_8.size ∧ x_8.pp = x_8.pp ∧ x_8.pf = x_8.pf ∧ x_8.pt = x_8.pt ∧ x_8.ps = x_8.ps ∧ x_8.dp = x_8.dp ∧ x_8.df = x_8.df ∧ x_8.dt = x_8.dt ∧ x_8.ds = x_8.ds) ∧
  ((0 : Int) = (0 : Int) ∧ (0 : Int) = (0 : Int) ∧ (0 : Int) = (0 : Int) ∧ (0 : Int) = (0 : Int)) ∧ x_14 = x_14 ∧ x_15 = x_15 ∧ x_16 = x_16 ∧ x_17 = x_17) ∧ x.l = x.l ∧ x_6 = x_6 ∧ x_4 = x_4 ∧ x_2 = x_2) ∧ inv x_11 x_12 (wrap (x_13 + (1 :
  Int))) x_14 x_15 x_16 x_17 ∧ μ x_11 x_12 (wrap (x_13 + (1 : Int))) x_14 x_15 x_16 x_17 < μ x_11 x_12 x_13 x_14 x_15 x_16 x_17) ∧ (decide ((↑(x_6.getD x_13.toNat (Route.mk (0 : Int) (0 : Int) [])).stops.length : Int) > (78 : Int)) = false →
  (MapOk x ∧ (x_6.getD x_13.toNat (Route.mk (0 : Int) (0 : Int) [])).stops.length ≤ (1000 : Nat)) ∧ BestPre (SearchD.mk x ((findD (x_6.getD x_13.toNat (Route.mk (0 : Int) (0 : Int) [])).driver x_2).getD FK.driver.zero) (mkS x ((findD
  (x_6.getD x_13.toNat (Route.mk (0 : Int) (0 : Int) [])).driver x_2).getD FK.driver.zero) x_4 (x_6.getD x_13.toNat (Route.mk (0 : Int) (0 : Int) [])).stops x_8).legs (mkS x ((findD (x_6.getD x_13.toNat (Route.mk (0 : Int) (0 : Int)
  [])).driver x_2).getD FK.driver.zero) x_4 (x_6.getD x_13.toNat (Route.mk (0 : Int) (0 : Int) [])).stops x_8).pre (legO x_8 false) (legO x_8 true) (mkS x ((findD (x_6.getD x_13.toNat (Route.mk (0 : Int) (0 : Int) [])).driver x_2).getD
  FK.driver.zero) x_4 (x_6.getD x_13.toNat (Route.mk (0 : Int) (0 : Int) [])).stops x_8).full) (x_6.getD x_13.toNat (Route.mk (0 : Int) (0 : Int) [])).served ∧ ((bestS (SearchD.mk x ((findD (x_6.getD x_13.toNat (Route.mk (0 : Int) (0 : Int)
  [])).driver x_2).getD FK.driver.zero) (mkS x ((findD (x_6.getD x_13.toNat (Route.mk (0 : Int) (0 : Int) [])).driver x_2).getD FK.driver.zero) x_4 (x_6.getD x_13.toNat (Route.mk (0 : Int) (0 : Int) [])).stops x_8).legs (mkS x ((findD
  (x_6.getD x_13.toNat (Route.mk (0 : Int) (0 : Int) [])).driver x_2).getD FK.driver.zero) x_4 (x_6.getD x_13.toNat (Route.mk (0 : Int) (0 : Int) [])).stops x_8).pre (legO x_8 false) (legO x_8 true) (mkS x ((findD (x_6.getD x_13.toNat
  (Route.mk (0 : Int) (0 : Int) [])).driver x_2).getD FK.driver.zero) x_4 (x_6.getD x_13.toNat (Route.mk (0 : Int) (0 : Int) [])).stops x_8).full) (x_6.getD x_13.toNat (Route.mk (0 : Int) (0 : Int) [])).served (wrap (x_9 - x_11))).found =
  true → ((!x_12) = false → (decide ((hspot (bestS (SearchD.mk x ((findD (x_6.getD x_13.toNat (Route.mk (0 : Int) (0 : Int) [])).driver x_2).getD FK.driver.zero) (mkS x ((findD (x_6.getD x_13.toNat (Route.mk (0 : Int) (0 : Int) [])).driver
  x_2).getD FK.driver.zero) x_4 (x_6.getD x_13.toNat (Route.mk (0 : Int) (0 : Int) [])).stops x_8).legs (mkS x ((findD (x_6.getD x_13.toNat (Route.mk (0 : Int) (0 : Int) [])).driver x_2).getD FK.driver.zero) x_4 (x_6.getD x_13.toNat (Route.mk
  (0 : Int) (0 : Int) [])).stops x_8).pre (legO x_8 false) (legO x_8 true) (mkS x ((findD (x_6.getD x_13.toNat (Route.mk (0 : Int) (0 : Int) [])).driver x_2).getD FK.driver.zero) x_4 (x_6.getD x_13.toNat (Route.mk (0 : Int) (0 : Int)
  [])).stops x_8).full) (x_6.getD x_13.toNat (Route.mk (0 : Int) (0 : Int) [])).served (wrap (x_9 - x_11)))).cost < x_17) = true → ((x_9 = x_9 ∧ wrap (x_11 + (bestS (SearchD.mk x ((findD (x_6.getD x_13.toNat (Route.mk (0 : Int) (0 : Int)
  [])).driver x_2).getD FK.driver.zero) (mkS x ((findD (x_6.getD x_13.toNat (Route.mk (0 : Int) (0 : Int) [])).driver x_2).getD FK.driver.zero) x_4 (x_6.getD x_13.toNat (Route.mk (0 : Int) (0 : Int) [])).stops x_8).legs (mkS x ((findD
  (x_6.getD x_13.toNat (Route.mk (0 : Int) (0 : Int) [])).driver x_2).getD FK.driver.zero) x_4 (x_6.getD x_13.toNat (Route.mk (0 : Int) (0 : Int) [])).stops x_8).pre (legO x_8 false) (legO x_8 true) (mkS x ((findD (x_6.getD x_13.toNat
  (Route.mk (0 : Int) (0 : Int) [])).driver x_2).getD FK.driver.zero) x_4 (x_6.getD x_13.toNat (Route.mk (0 : Int) (0 : Int) [])).stops x_8).full) (x_6.getD x_13.toNat (Route.mk (0 : Int) (0 : Int) [])).served (wrap (x_9 - x_11))).steps) =
  wrap (x_11 + (bestS (SearchD.mk x ((findD (x_6.getD x_13.toNat (Route.mk (0 : Int) (0 : Int) [])).driver x_2).getD FK.driver.zero) (mkS x ((findD (x_6.getD x_13.toNat (Route.mk (0 : Int) (0 : Int) [])).driver x_2).getD FK.driver.zero) x_4
  (x_6.getD x_13.toNat (Route.mk (0 : Int) (0 : Int) [])).stops x_8).legs (mkS x ((findD (x_6.getD x_13.toNat (Route.mk (0 : Int) (0 : Int) [])).driver x_2).getD FK.driver.zero) x_4 (x_6.getD x_13.toNat (Route.mk (0 : Int) (0 : Int)
  [])).stops x_8).pre (legO x_8 false) (legO x_8 true) (mkS x ((findD (x_6.getD x_13.toNat (Route.mk (0 : Int) (0 : Int) [])).driver x_2).getD FK.driver.zero) x_4 (x_6.getD x_13.toNat (Route.mk (0 : Int) (0 : Int) [])).stops x_8).full)
  (x_6.getD x_13.toNat (Route.mk (0 : Int) (0 : Int) [])).served (wrap (x_9 - x_11))).steps) ∧ true = true ∧ (↑x_6.length : Int) = (↑x_6.length : Int) ∧ wrap (x_13 + (1 : Int)) = wrap (x_13 + (1 : Int))) ∧ (x.n = x.n ∧ (x_8.id = x_8.id ∧
  x_8.size = x_8.size ∧ x_8.pp = x_8.pp ∧ x_8.pf = x_8.pf ∧ x_8.pt = x_8.pt ∧ x_8.ps = x_8.ps ∧ x_8.dp = x_8.dp ∧ x_8.df = x_8.df ∧ x_8.dt = x_8.dt ∧ x_8.ds = x_8.ds) ∧ ((0 : Int) = (0 : Int) ∧ (0 : Int) = (0 : Int) ∧ (0 : Int) = (0 : Int) ∧
  (0 : Int) = (0 : Int)) ∧ (hspot (bestS (SearchD.mk x ((findD (x_6.getD x_13.toNat (Route.mk (0 : Int) (0 : Int) [])).driver x_2).getD FK.driver.zero) (mkS x ((findD (x_6.getD x_13.toNat (Route.mk (0 : Int) (0 : Int) [])).driver x_2).getD
  FK.driver.zero) x_4 (x_6.getD x_13.toNat (Route.mk (0 : Int) (0 : Int) [])).stops x_8).legs (mkS x ((findD (x_6.getD x_13.toNat (Route.mk (0 : Int) (0 : Int) [])).driver x_2).getD FK.driver.zero) x_4 (x_6.getD x_13.toNat (Route.mk (0 : Int)
  (0 : Int) [])).stops x_8).pre (legO x_8 false) (legO x_8 true) (mkS x ((findD (x_6.getD x_13.toNat (Route.mk (0 : Int) (0 : Int) [])).driver x_2).getD FK.driver.zero) x_4 (x_6.getD x_13.toNat (Route.mk (0 : Int) (0 : Int) [])).stops
  x_8).full) (x_6.getD x_13.toNat (Route.mk (0 : Int) (0 : Int) [])).served (wrap (x_9 - x_11)))).driver = (hspot (bestS (SearchD.mk x ((findD (x_6.getD x_13.toNat (Route.mk (0 : Int) (0 : Int) [])).driver x_2).getD FK.driver.zero) (mkS x
  ((findD (x_6.getD x_13.toNat (Route.mk (0 : Int) (0 : Int) [])).driver x_2).getD FK.driver.zero) x_4 (x_6.getD x_13.toNat (Route.mk (0 : Int) (0 : Int) [])).stops x_8).legs (mkS x ((findD (x_6.getD x_13.toNat (Route.mk (0 : Int) (0 : Int)
  [])).driver x_2).getD FK.driver.zero) x_4 (x_6.getD x_13.toNat (Route.mk (0 : Int) (0 : Int) [])).stops x_8).pre (legO x_8 false) (legO x_8 true) (mkS x ((findD (x_6.getD x_13.toNat (Route.mk (0 : Int) (0 : Int) [])).driver x_2).getD
  FK.driver.zero) x_4 (x_6.getD x_13.toNat (Route.mk (0 : Int) (0 : Int) [])).stops x_8).full) (x_6.getD x_13.toNat (Route.mk (0 : Int) (0 : Int) [])).served (wrap (x_9 - x_11)))).driver ∧ (hspot (bestS (SearchD.mk x ((findD (x_6.getD
  x_13.toNat (Route.mk (0 : Int) (0 : Int) [])).driver x_2).getD FK.driver.zero) (mkS x ((findD (x_6.getD x_13.toNat (Route.mk (0 : Int) (0 : Int) [])).driver x_2).getD FK.driver.zero) x_4 (x_6.getD x_13.toNat (Route.mk (0 : Int) (0 : Int)
  [])).stops x_8).legs (mkS x ((findD (x_6.getD x_13.toNat (Route.mk (0 : Int) (0 : Int) [])).driver x_2).getD FK.driver.zero) x_4 (x_6.getD x_13.toNat (Route.mk (0 : Int) (0 : Int) [])).stops x_8).pre (legO x_8 false) (legO x_8 true) (mkS x
  ((findD (x_6.getD x_13.toNat (Route.mk (0 : Int) (0 : Int) [])).driver x_2).getD FK.driver.zero) x_4 (x_6.getD x_13.toNat (Route.mk (0 : Int) (0 : Int) [])).stops x_8).full) (x_6.getD x_13.toNat (Route.mk (0 : Int) (0 : Int) [])).served
  (wrap (x_9 - x_11)))).pick = (hspot (bestS (SearchD.mk x ((findD (x_6.getD x_13.toNat (Route.mk (0 : Int) (0 : Int) [])).driver x_2).getD FK.driver.zero) (mkS x ((findD (x_6.getD x_13.toNat (Route.mk (0 : Int) (0 : Int) [])).driver
  x_2).getD FK.driver.zero) x_4 (x_6.getD x_13.toNat (Route.mk (0 : Int) (0 : Int) [])).stops x_8).legs (mkS x ((findD (x_6.getD x_13.toNat (Route.mk (0 : Int) (0 : Int) [])).driver x_2).getD FK.driver.zero) x_4 (x_6.getD x_13.toNat (Route.mk
  (0 : Int) (0 : Int) [])).stops x_8).pre (legO x_8 false) (legO x_8 true) (mkS x ((findD (x_6.getD x_13.toNat (Route.mk (0 : Int) (0 : Int) [])).driver x_2).getD FK.driver.zero) x_4 (x_6.getD x_13.toNat (Route.mk (0 : Int) (0 : Int)
  [])).stops x_8).full) (x_6.getD x_13.toNat (Route.mk (0 : Int) (0 : Int) [])).served (wrap (x_9 - x_11)))).pick ∧ (hspot (bestS (SearchD.mk x ((findD (x_6.getD x_13.toNat (Route.mk (0 : Int) (0 : Int) [])).driver x_2).getD FK.driver.zero)
  (mkS x ((findD (x_6.getD x_13.toNat (Route.mk (0 : Int) (0 : Int) [])).driver x_2).getD FK.driver.zero) x_4 (x_6.getD x_13.toNat (Route.mk (0 : Int) (0 : Int) [])).stops x_8).legs (mkS x ((findD (x_6.getD x_13.toNat (Route.mk (0 : Int) (0 :
  Int) [])).driver x_2).getD FK.driver.zero) x_4 (x_6.getD x_13.toNat (Route.mk (0 : Int) (0 : Int) [])).stops x_8).pre (legO x_8 false) (legO x_8 true) (mkS x ((findD (x_6.getD x_13.toNat (Route.mk (0 : Int) (0 : Int) [])).driver x_2).getD
  FK.driver.zero) x_4 (x_6.getD x_13.toNat (Route.mk (0 : Int) (0 : Int) [])).stops x_8).full) (x_6.getD x_13.toNat (Route.mk (0 : Int) (0 : Int) [])).served (wrap (x_9 - x_11)))).drop = (hspot (bestS (SearchD.mk x ((findD (x_6.getD
  x_13.toNat (Route.mk (0 : Int) (0 : Int) [])).driver x_2).getD FK.driver.zero) (mkS x ((findD (x_6.getD x_13.toNat (Route.mk (0 : Int) (0 : Int) [])).driver x_2).getD FK.driver.zero) x_4 (x_6.getD x_13.toNat (Route.mk (0 : Int) (0 : Int)
  [])).stops x_8).legs (mkS x ((findD (x_6.getD x_13.toNat (Route.mk (0 : Int) (0 : Int) [])).driver x_2).getD FK.driver.zero) x_4 (x_6.getD x_13.toNat (Route.mk (0 : Int) (0 : Int) [])).stops x_8).pre (legO x_8 false) (legO x_8 true) (mkS x
  ((findD (x_6.getD x_13.toNat (Route.mk (0 : Int) (0 : Int) [])).driver x_2).getD FK.driver.zero) x_4 (x_6.getD x_13.toNat (Route.mk (0 : Int) (0 : Int) [])).stops x_8).full) (x_6.getD x_13.toNat (Route.mk (0 : Int) (0 : Int) [])).served
  (wrap (x_9 - x_11)))).drop ∧ (hspot (bestS (SearchD.mk x ((findD (x_6.getD x_13.toNat (Route.mk (0 : Int) (0 : Int) [])).driver x_2).getD FK.driver.zero) (mkS x ((findD (x_6.getD x_13.toNat (Route.mk (0 : Int) (0 : Int) [])).driver
  x_2).getD FK.driver.zero) x_4 (x_6.getD x_13.toNat (Route.mk (0 : Int) (0 : Int) [])).stops x_8).legs (mkS x ((findD (x_6.getD x_13.toNat (Route.mk (0 : Int) (0 : Int) [])).driver x_2).getD FK.driver.zero) x_4 (x_6.getD x_13.toNat (Route.mk
  (0 : Int) (0 : Int) [])).stops x_8).pre (legO x_8 false) (legO x_8 true) (mkS x ((findD (x_6.getD x_13.toNat (Route.mk (0 : Int) (0 : Int) [])).driver x_2).getD FK.driver.zero) x_4 (x_6.getD x_13.toNat (Route.mk (0 : Int) (0 : Int)
  [])).stops x_8).full) (x_6.getD x_13.toNat (Route.mk (0 : Int) (0 : Int) [])).served (wrap (x_9 - x_11)))).cost = (hspot (bestS (SearchD.mk x ((findD (x_6.getD x_13.toNat (Route.mk (0 : Int) (0 : Int) [])).driver x_2).getD FK.driver.zero)
  (mkS x ((findD (x_6.getD x_13.toNat (Route.mk (0 : Int) (0 : Int) [])).driver x_2).getD FK.driver.zero) x_4 (x_6.getD x_13.toNat (Route.mk (0 : Int) (0 : Int) [])).stops x_8).legs (mkS x ((findD (x_6.getD x_13.toNat (Route.mk (0 : Int) (0 :
  Int) [])).driver x_2).getD FK.driver.zero) x_4 (x_6.getD x_13.toNat (Route.mk (0 : Int) (0 : Int) [])).stops x_8).pre (legO x_8 false) (legO x_8 true) (mkS x ((findD (x_6.getD x_13.toNat (Route.mk (0 : Int) (0 : Int) [])).driver x_2).getD
  FK.driver.zero) x_4 (x_6.getD x_13.toNat (Route.mk (0 : Int) (0 : Int) [])).stops x_8).full) (x_6.getD x_13.toNat (Route.mk (0 : Int) (0 : Int) [])).served (wrap (x_9 - x_11)))).cost) ∧ x.l = x.l ∧ x_6 = x_6 ∧ x_4 = x_4 ∧ x_2 = x_2) ∧ inv
  (wrap (x_11 + (bestS (SearchD.mk x ((findD (x_6.getD x_13.toNat (Route.mk (0 : Int) (0 : Int) [])).driver x_2).getD FK.driver.zero) (mkS x ((findD (x_6.getD x_13.toNat (Route.mk (0 : Int) (0 : Int) [])).driver x_2).getD FK.driver.zero) x_4
  (x_6.getD x_13.toNat (Route.mk (0 : Int) (0 : Int) [])).stops x_8).legs (mkS x ((findD (x_6.getD x_13.toNat (Route.mk (0 : Int) (0 : Int) [])).driver x_2).getD FK.driver.zero) x_4 (x_6.getD x_13.toNat (Route.mk (0 : Int) (0 : Int)
  [])).stops x_8).pre (legO x_8 false) (legO x_8 true) (mkS x ((findD (x_6.getD x_13.toNat (Route.mk (0 : Int) (0 : Int) [])).driver x_2).getD FK.driver.zero) x_4 (x_6.getD x_13.toNat (Route.mk (0 : Int) (0 : Int) [])).stops x_8).full)
  (x_6.getD x_13.toNat (Route.mk (0 : Int) (0 : Int) [])).served (wrap (x_9 - x_11))).steps)) true (wrap (x_13 + (1 : Int))) (hspot (bestS (SearchD.mk x ((findD (x_6.getD x_13.toNat (Route.mk (0 : Int) (0 : Int) [])).driver x_2).getD
  FK.driver.zero) (mkS x ((findD (x_6.getD x_13.toNat (Route.mk (0 : Int) (0 : Int) [])).driver x_2).getD FK.driver.zero) x_4 (x_6.getD x_13.toNat (Route.mk (0 : Int) (0 : Int) [])).stops x_8).legs (mkS x ((findD (x_6.getD x_13.toNat
  (Route.mk (0 : Int) (0 : Int) [])).driver x_2).getD FK.driver.zero) x_4 (x_6.getD x_13.toNat (Route.mk (0 : Int) (0 : Int) [])).stops x_8).pre (legO x_8 false) (legO x_8 true) (mkS x ((findD (x_6.getD x_13.toNat (Route.mk (0 : Int) (0 :
  Int) [])).driver x_2).getD FK.driver.zero) x_4 (x_6.getD x_13.toNat (Route.mk (0 : Int) (0 : Int) [])).stops x_8).full) (x_6.getD x_13.toNat (Route.mk (0 : Int) (0 : Int) [])).served (wrap (x_9 - x_11)))).driver (hspot (bestS (SearchD.mk x
  ((findD (x_6.getD x_13.toNat (Route.mk (0 : Int) (0 : Int) [])).driver x_2).getD FK.driver.zero) (mkS x ((findD (x_6.getD x_13.toNat (Route.mk (0 : Int) (0 : Int) [])).driver x_2).getD FK.driver.zero) x_4 (x_6.getD x_13.toNat (Route.mk (0 :
  Int) (0 : Int) [])).stops x_8).legs (mkS x ((findD (x_6.getD x_13.toNat (Route.mk (0 : Int) (0 : Int) [])).driver x_2).getD FK.driver.zero) x_4 (x_6.getD x_13.toNat (Route.mk (0 : Int) (0 : Int) [])).stops x_8).pre (legO x_8 false) (legO
  x_8 true) (mkS x ((findD (x_6.getD x_13.toNat (Route.mk (0 : Int) (0 : Int) [])).driver x_2).getD FK.driver.zero) x_4 (x_6.getD x_13.toNat (Route.mk (0 : Int) (0 : Int) [])).stops x_8).full) (x_6.getD x_13.toNat (Route.mk (0 : Int) (0 :
  Int) [])).served (wrap (x_9 - x_11)))).pick (hspot (bestS (SearchD.mk x ((findD (x_6.getD x_13.toNat (Route.mk (0 : Int) (0 : Int) [])).driver x_2).getD FK.driver.zero) (mkS x ((findD (x_6.getD x_13.toNat (Route.mk (0 : Int) (0 : Int)
  [])).driver x_2).getD FK.driver.zero) x_4 (x_6.getD x_13.toNat (Route.mk (0 : Int) (0 : Int) [])).stops x_8).legs (mkS x ((findD (x_6.getD x_13.toNat (Route.mk (0 : Int) (0 : Int) [])).driver x_2).getD FK.driver.zero) x_4 (x_6.getD
  x_13.toNat (Route.mk (0 : Int) (0 : Int) [])).stops x_8).pre (legO x_8 false) (legO x_8 true) (mkS x ((findD (x_6.getD x_13.toNat (Route.mk (0 : Int) (0 : Int) [])).driver x_2).getD FK.driver.zero) x_4 (x_6.getD x_13.toNat (Route.mk (0 :
  Int) (0 : Int) [])).stops x_8).full) (x_6.getD x_13.toNat (Route.mk (0 : Int) (0 : Int) [])).served (wrap (x_9 - x_11)))).drop (hspot (bestS (SearchD.mk x ((findD (x_6.getD x_13.toNat (Route.mk (0 : Int) (0 : Int) [])).driver x_2).getD
  FK.driver.zero) (mkS x ((findD (x_6.getD x_13.toNat (Route.mk (0 : Int) (0 : Int) [])).driver x_2).getD FK.driver.zero) x_4 (x_6.getD x_13.toNat (Route.mk (0 : Int) (0 : Int) [])).stops x_8).legs (mkS x ((findD (x_6.getD x_13.toNat
  (Route.mk (0 : Int) (0 : Int) [])).driver x_2).getD FK.driver.zero) x_4 (x_6.getD x_13.toNat (Route.mk (0 : Int) (0 : Int) [])).stops x_8).pre (legO x_8 false) (legO x_8 true) (mkS x ((findD (x_6.getD x_13.toNat (Route.mk (0 : Int) (0 :
  Int) [])).driver x_2).getD FK.driver.zero) x_4 (x_6.getD x_13.toNat (Route.mk (0 : Int) (0 : Int) [])).stops x_8).full) (x_6.getD x_13.toNat (Route.mk (0 : Int) (0 : Int) [])).served (wrap (x_9 - x_11)))).cost ∧ μ (wrap (x_11 + (bestS
  (SearchD.mk x ((findD (x_6.getD x_13.toNat (Route.mk (0 : Int) (0 : Int) [])).driver x_2).getD FK.driver.zero) (mkS x ((findD (x_6.getD x_13.toNat (Route.mk (0 : Int) (0 : Int) [])).driver x_2).getD FK.driver.zero) x_4 (x_6.getD x_13.toNat
  (Route.mk (0 : Int) (0 : Int) [])).stops x_8).legs (mkS x ((findD (x_6.getD x_13.toNat (Route.mk (0 : Int) (0 : Int) [])).driver x_2).getD FK.driver.zero) x_4 (x_6.getD x_13.toNat (Route.mk (0 : Int) (0 : Int) [])).stops x_8).pre (legO x_8
  false) (legO x_8 true) (mkS x ((findD (x_6.getD x_13.toNat (Route.mk (0 : Int) (0 : Int) [])).driver x_2).getD FK.driver.zero) x_4 (x_6.getD x_13.toNat (Route.mk (0 : Int) (0 : Int) [])).stops x_8).full) (x_6.getD x_13.toNat (Route.mk (0 :
  Int) (0 : Int) [])).served (wrap (x_9 - x_11))).steps)) true (wrap (x_13 + (1 : Int))) (hspot (bestS (SearchD.mk x ((findD (x_6.getD x_13.toNat (Route.mk (0 : Int) (0 : Int) [])).driver x_2).getD FK.driver.zero) (mkS x ((findD (x_6.getD
  x_13.toNat (Route.mk (0 : Int) (0 : Int) [])).driver x_2).getD FK.driver.zero) x_4 (x_6.getD x_13.toNat (Route.mk (0 : Int) (0 : Int) [])).stops x_8).legs (mkS x ((findD (x_6.getD x_13.toNat (Route.mk (0 : Int) (0 : Int) [])).driver
  x_2).getD FK.driver.zero) x_4 (x_6.getD x_13.toNat (Route.mk (0 : Int) (0 : Int) [])).stops x_8).pre (legO x_8 false) (legO x_8 true) (mkS x ((findD (x_6.getD x_13.toNat (Route.mk (0 : Int) (0 : Int) [])).driver x_2).getD FK.driver.zero)
  x_4 (x_6.getD x_13.toNat (Route.mk (0 : Int) (0 : Int) [])).stops x_8).full) (x_6.getD x_13.toNat (Route.mk (0 : Int) (0 : Int) [])).served (wrap (x_9 - x_11)))).driver (hspot (bestS (SearchD.mk x ((findD (x_6.getD x_13.toNat (Route.mk (0 :
  Int) (0 : Int) [])).driver x_2).getD FK.driver.zero) (mkS x ((findD (x_6.getD x_13.toNat (Route.mk (0 : Int) (0 : Int) [])).driver x_2).getD FK.driver.zero) x_4 (x_6.getD x_13.toNat (Route.mk (0 : Int) (0 : Int) [])).stops x_8).legs (mkS x
  ((findD (x_6.getD x_13.toNat (Route.mk (0 : Int) (0 : Int) [])).driver x_2).getD FK.driver.zero) x_4 (x_6.getD x_13.toNat (Route.mk (0 : Int) (0 : Int) [])).stops x_8).pre (legO x_8 false) (legO x_8 true) (mkS x ((findD (x_6.getD x_13.toNat
  (Route.mk (0 : Int) (0 : Int) [])).driver x_2).getD FK.driver.zero) x_4 (x_6.getD x_13.toNat (Route.mk (0 : Int) (0 : Int) [])).stops x_8).full) (x_6.getD x_13.toNat (Route.mk (0 : Int) (0 : Int) [])).served (wrap (x_9 - x_11)))).pick
  (hspot (bestS (SearchD.mk x ((findD (x_6.getD x_13.toNat (Route.mk (0 : Int) (0 : Int) [])).driver x_2).getD FK.driver.zero) (mkS x ((findD (x_6.getD x_13.toNat (Route.mk (0 : Int) (0 : Int) [])).driver x_2).getD FK.driver.zero) x_4
  (x_6.getD x_13.toNat (Route.mk (0 : Int) (0 : Int) [])).stops x_8).legs (mkS x ((findD (x_6.getD x_13.toNat (Route.mk (0 : Int) (0 : Int) [])).driver x_2).getD FK.driver.zero) x_4 (x_6.getD x_13.toNat (Route.mk (0 : Int) (0 : Int)
  [])).stops x_8).pre (legO x_8 false) (legO x_8 true) (mkS x ((findD (x_6.getD x_13.toNat (Route.mk (0 : Int) (0 : Int) [])).driver x_2).getD FK.driver.zero) x_4 (x_6.getD x_13.toNat (Route.mk (0 : Int) (0 : Int) [])).stops x_8).full)
  (x_6.getD x_13.toNat (Route.mk (0 : Int) (0 : Int) [])).served (wrap (x_9 - x_11)))).drop (hspot (bestS (SearchD.mk x ((findD (x_6.getD x_13.toNat (Route.mk (0 : Int) (0 : Int) [])).driver x_2).getD FK.driver.zero) (mkS x ((findD (x_6.getD
  x_13.toNat (Route.mk (0 : Int) (0 : Int) [])).driver x_2).getD FK.driver.zero) x_4 (x_6.getD x_13.toNat (Route.mk (0 : Int) (0 : Int) [])).stops x_8).legs (mkS x ((findD (x_6.getD x_13.toNat (Route.mk (0 : Int) (0 : Int) [])).driver
  x_2).getD FK.driver.zero) x_4 (x_6.getD x_13.toNat (Route.mk (0 : Int) (0 : Int) [])).stops x_8).pre (legO x_8 false) (legO x_8 true) (mkS x ((findD (x_6.getD x_13.toNat (Route.mk (0 : Int) (0 : Int) [])).driver x_2).getD FK.driver.zero)
  x_4 (x_6.getD x_13.toNat (Route.mk (0 : Int) (0 : Int) [])).stops x_8).full) (x_6.getD x_13.toNat (Route.mk (0 : Int) (0 : Int) [])).served (wrap (x_9 - x_11)))).cost < μ x_11 x_12 x_13 x_14 x_15 x_16 x_17) ∧ (decide ((hspot (bestS
  (SearchD.mk x ((findD (x_6.getD x_13.toNat (Route.mk (0 : Int) (0 : Int) [])).driver x_2).getD FK.driver.zero) (mkS x ((findD (x_6.getD x_13.toNat (Route.mk (0 : Int) (0 : Int) [])).driver x_2).getD FK.driver.zero) x_4 (x_6.getD x_13.toNat
  (Route.mk (0 : Int) (0 : Int) [])).stops x_8).legs (mkS x ((findD (x_6.getD x_13.toNat (Route.mk (0 : Int) (0 : Int) [])).driver x_2).getD FK.driver.zero) x_4 (x_6.getD x_13.toNat (Route.mk (0 : Int) (0 : Int) [])).stops x_8).pre (legO x_8
  false) (legO x_8 true) (mkS x ((findD (x_6.getD x_13.toNat (Route.mk (0 : Int) (0 : Int) [])).driver x_2).getD FK.driver.zero) x_4 (x_6.getD x_13.toNat (Route.mk (0 : Int) (0 : Int) [])).stops x_8).full) (x_6.getD x_13.toNat (Route.mk (0 :
  Int) (0 : Int) [])).served (wrap (x_9 - x_11)))).cost < x_17) = false → ((x_9 = x_9 ∧ wrap (x_11 + (bestS (SearchD.mk x ((findD (x_6.getD x_13.toNat (Route.mk (0 : Int) (0 : Int) [])).driver x_2).getD FK.driver.zero) (mkS x ((findD
  (x_6.getD x_13.toNat (Route.mk (0 : Int) (0 : Int) [])).driver x_2).getD FK.driver.zero) x_4 (x_6.getD x_13.toNat (Route.mk (0 : Int) (0 : Int) [])).stops x_8).legs (mkS x ((findD (x_6.getD x_13.toNat (Route.mk (0 : Int) (0 : Int)
  [])).driver x_2).getD FK.driver.zero) x_4 (x_6.getD x_13.toNat (Route.mk (0 : Int) (0 : Int) [])).stops x_8).pre (legO x_8 false) (legO x_8 true) (mkS x ((findD (x_6.getD x_13.toNat (Route.mk (0 : Int) (0 : Int) [])).driver x_2).getD
  FK.driver.zero) x_4 (x_6.getD x_13.toNat (Route.mk (0 : Int) (0 : Int) [])).stops x_8).full) (x_6.getD x_13.toNat (Route.mk (0 : Int) (0 : Int) [])).served (wrap (x_9 - x_11))).steps) = wrap (x_11 + (bestS (SearchD.mk x ((findD (x_6.getD
  x_13.toNat (Route.mk (0 : Int) (0 : Int) [])).driver x_2).getD FK.driver.zero) (mkS x ((findD (x_6.getD x_13.toNat (Route.mk (0 : Int) (0 : Int) [])).driver x_2).getD FK.driver.zero) x_4 (x_6.getD x_13.toNat (Route.mk (0 : Int) (0 : Int)
  [])).stops x_8).legs (mkS x ((findD (x_6.getD x_13.toNat (Route.mk (0 : Int) (0 : Int) [])).driver x_2).getD FK.driver.zero) x_4 (x_6.getD x_13.toNat (Route.mk (0 : Int) (0 : Int) [])).stops x_8).pre (legO x_8 false) (legO x_8 true) (mkS x
  ((findD (x_6.getD x_13.toNat (Route.mk (0 : Int) (0 : Int) [])).driver x_2).getD FK.driver.zero) x_4 (x_6.getD x_13.toNat (Route.mk (0 : Int) (0 : Int) [])).stops x_8).full) (x_6.getD x_13.toNat (Route.mk (0 : Int) (0 : Int) [])).served
  (wrap (x_9 - x_11))).steps) ∧ x_12 = x_12 ∧ (↑x_6.length : Int) = (↑x_6.length : Int) ∧ wrap (x_13 + (1 : Int)) = wrap (x_13 + (1 : Int))) ∧ (x.n = x.n ∧ (x_8.id = x_8.id ∧ x_8.size = x_8.size ∧ x_8.pp = x_8.pp ∧ x_8.pf = x_8.pf ∧ x_8.pt =
  x_8.pt ∧ x_8.ps = x_8.ps ∧ x_8.dp = x_8.dp ∧ x_8.df = x_8.df ∧ x_8.dt = x_8.dt ∧ x_8.ds = x_8.ds) ∧ ((0 : Int) = (0 : Int) ∧ (0 : Int) = (0 : Int) ∧ (0 : Int) = (0 : Int) ∧ (0 : Int) = (0 : Int)) ∧ x_14 = x_14 ∧ x_15 = x_15 ∧ x_16 = x_16 ∧
  x_17 = x_17) ∧ x.l = x.l ∧ x_6 = x_6 ∧ x_4 = x_4 ∧ x_2 = x_2) ∧ inv (wrap (x_11 + (bestS (SearchD.mk x ((findD (x_6.getD x_13.toNat (Route.mk (0 : Int) (0 : Int) [])).driver x_2).getD FK.driver.zero) (mkS x ((findD (x_6.getD x_13.toNat
  (Route.mk (0 : Int) (0 : Int) [])).driver x_2).getD FK.driver.zero) x_4 (x_6.getD x_13.toNat (Route.mk (0 : Int) (0 : Int) [])).stops x_8).legs (mkS x ((findD (x_6.getD x_13.toNat (Route.mk (0 : Int) (0 : Int) [])).driver x_2).getD
  FK.driver.zero) x_4 (x_6.getD x_13.toNat (Route.mk (0 : Int) (0 : Int) [])).stops x_8).pre (legO x_8 false) (legO x_8 true) (mkS x ((findD (x_6.getD x_13.toNat (Route.mk (0 : Int) (0 : Int) [])).driver x_2).getD FK.driver.zero) x_4
  (x_6.getD x_13.toNat (Route.mk (0 : Int) (0 : Int) [])).stops x_8).full) (x_6.getD x_13.toNat (Route.mk (0 : Int) (0 : Int) [])).served (wrap (x_9 - x_11))).steps)) x_12 (wrap (x_13 + (1 : Int))) x_14 x_15 x_16 x_17 ∧ μ (wrap (x_11 + (bestS
  (SearchD.mk x ((findD (x_6.getD x_13.toNat (Route.mk (0 : Int) (0 : Int) [])).driver x_2).getD FK.driver.zero) (mkS x ((findD (x_6.getD x_13.toNat (Route.mk (0 : Int) (0 : Int) [])).driver x_2).getD FK.driver.zero) x_4 (x_6.getD x_13.toNat
  (Route.mk (0 : Int) (0 : Int) [])).stops x_8).legs (mkS x ((findD (x_6.getD x_13.toNat (Route.mk (0 : Int) (0 : Int) [])).driver x_2).getD FK.driver.zero) x_4 (x_6.getD x_13.toNat (Route.mk (0 : Int) (0 : Int) [])).stops x_8).pre (legO x_8
  false) (legO x_8 true) (mkS x ((findD (x_6.getD x_13.toNat (Route.mk (0 : Int) (0 : Int) [])).driver x_2).getD FK.driver.zero) x_4 (x_6.getD x_13.toNat (Route.mk (0 : Int) (0 : Int) [])).stops x_8).full) (x_6.getD x_13.toNat (Route.mk (0 :
  Int) (0 : Int) [])).served (wrap (x_9 - x_11))).steps)) x_12 (wrap (x_13 + (1 : Int))) x_14 x_15 x_16 x_17 < μ x_11 x_12 x_13 x_14 x_15 x_16 x_17)) ∧ ((!x_12) = !false → ((x_9 = x_9 ∧ wrap (x_11 + (bestS (SearchD.mk x ((findD (x_6.getD
  x_13.toNat (Route.mk (0 : Int) (0 : Int) [])).driver x_2).getD FK.driver.zero) (mkS x ((findD (x_6.getD x_13.toNat (Route.mk (0 : Int) (0 : Int) [])).driver x_2).getD FK.driver.zero) x_4 (x_6.getD x_13.toNat (Route.mk (0 : Int) (0 : Int)
  [])).stops x_8).legs (mkS x ((findD (x_6.getD x_13.toNat (Route.mk (0 : Int) (0 : Int) [])).driver x_2).getD FK.driver.zero) x_4 (x_6.getD x_13.toNat (Route.mk (0 : Int) (0 : Int) [])).stops x_8).pre (legO x_8 false) (legO x_8 true) (mkS x
  ((findD (x_6.getD x_13.toNat (Route.mk (0 : Int) (0 : Int) [])).driver x_2).getD FK.driver.zero) x_4 (x_6.getD x_13.toNat (Route.mk (0 : Int) (0 : Int) [])).stops x_8).full) (x_6.getD x_13.toNat (Route.mk (0 : Int) (0 : Int) [])).served
  (wrap (x_9 - x_11))).steps) = wrap (x_11 + (bestS (SearchD.mk x ((findD (x_6.getD x_13.toNat (Route.mk (0 : Int) (0 : Int) [])).driver x_2).getD FK.driver.zero) (mkS x ((findD (x_6.getD x_13.toNat (Route.mk (0 : Int) (0 : Int) [])).driver
  x_2).getD FK.driver.zero) x_4 (x_6.getD x_13.toNat (Route.mk (0 : Int) (0 : Int) [])).stops x_8).legs (mkS x ((findD (x_6.getD x_13.toNat (Route.mk (0 : Int) (0 : Int) [])).driver x_2).getD FK.driver.zero) x_4 (x_6.getD x_13.toNat (Route.mk
  (0 : Int) (0 : Int) [])).stops x_8).pre (legO x_8 false) (legO x_8 true) (mkS x ((findD (x_6.getD x_13.toNat (Route.mk (0 : Int) (0 : Int) [])).driver x_2).getD FK.driver.zero) x_4 (x_6.getD x_13.toNat (Route.mk (0 : Int) (0 : Int)
  [])).stops x_8).full) (x_6.getD x_13.toNat (Route.mk (0 : Int) (0 : Int) [])).served (wrap (x_9 - x_11))).steps) ∧ true = true ∧ (↑x_6.length : Int) = (↑x_6.length : Int) ∧ wrap (x_13 + (1 : Int)) = wrap (x_13 + (1 : Int))) ∧ (x.n = x.n ∧
  (x_8.id = x_8.id ∧ x_8.size = x_8.size ∧ x_8.pp = x_8.pp ∧ x_8.pf = x_8.pf ∧ x_8.pt = x_8.pt ∧ x_8.ps = x_8.ps ∧ x_8.dp = x_8.dp ∧ x_8.df = x_8.df ∧ x_8.dt = x_8.dt ∧ x_8.ds = x_8.ds) ∧ ((0 : Int) = (0 : Int) ∧ (0 : Int) = (0 : Int) ∧ (0 :
  Int) = (0 : Int) ∧ (0 : Int) = (0 : Int)) ∧ (hspot (bestS (SearchD.mk x ((findD (x_6.getD x_13.toNat (Route.mk (0 : Int) (0 : Int) [])).driver x_2).getD FK.driver.zero) (mkS x ((findD (x_6.getD x_13.toNat (Route.mk (0 : Int) (0 : Int)
  [])).driver x_2).getD FK.driver.zero) x_4 (x_6.getD x_13.toNat (Route.mk (0 : Int) (0 : Int) [])).stops x_8).legs (mkS x ((findD (x_6.getD x_13.toNat (Route.mk (0 : Int) (0 : Int) [])).driver x_2).getD FK.driver.zero) x_4 (x_6.getD
  x_13.toNat (Route.mk (0 : Int) (0 : Int) [])).stops x_8).pre (legO x_8 false) (legO x_8 true) (mkS x ((findD (x_6.getD x_13.toNat (Route.mk (0 : Int) (0 : Int) [])).driver x_2).getD FK.driver.zero) x_4 (x_6.getD x_13.toNat (Route.mk (0 :
  Int) (0 : Int) [])).stops x_8).full) (x_6.getD x_13.toNat (Route.mk (0 : Int) (0 : Int) [])).served (wrap (x_9 - x_11)))).driver = (hspot (bestS (SearchD.mk x ((findD (x_6.getD x_13.toNat (Route.mk (0 : Int) (0 : Int) [])).driver x_2).getD
  FK.driver.zero) (mkS x ((findD (x_6.getD x_13.toNat (Route.mk (0 : Int) (0 : Int) [])).driver x_2).getD FK.driver.zero) x_4 (x_6.getD x_13.toNat (Route.mk (0 : Int) (0 : Int) [])).stops x_8).legs (mkS x ((findD (x_6.getD x_13.toNat
  (Route.mk (0 : Int) (0 : Int) [])).driver x_2).getD FK.driver.zero) x_4 (x_6.getD x_13.toNat (Route.mk (0 : Int) (0 : Int) [])).stops x_8).pre (legO x_8 false) (legO x_8 true) (mkS x ((findD (x_6.getD x_13.toNat (Route.mk (0 : Int) (0 :
  Int) [])).driver x_2).getD FK.driver.zero) x_4 (x_6.getD x_13.toNat (Route.mk (0 : Int) (0 : Int) [])).stops x_8).full) (x_6.getD x_13.toNat (Route.mk (0 : Int) (0 : Int) [])).served (wrap (x_9 - x_11)))).driver ∧ (hspot (bestS (SearchD.mk
  x ((findD (x_6.getD x_13.toNat (Route.mk (0 : Int) (0 : Int) [])).driver x_2).getD FK.driver.zero) (mkS x ((findD (x_6.getD x_13.toNat (Route.mk (0 : Int) (0 : Int) [])).driver x_2).getD FK.driver.zero) x_4 (x_6.getD x_13.toNat (Route.mk (0
  : Int) (0 : Int) [])).stops x_8).legs (mkS x ((findD (x_6.getD x_13.toNat (Route.mk (0 : Int) (0 : Int) [])).driver x_2).getD FK.driver.zero) x_4 (x_6.getD x_13.toNat (Route.mk (0 : Int) (0 : Int) [])).stops x_8).pre (legO x_8 false) (legO
  x_8 true) (mkS x ((findD (x_6.getD x_13.toNat (Route.mk (0 : Int) (0 : Int) [])).driver x_2).getD FK.driver.zero) x_4 (x_6.getD x_13.toNat (Route.mk (0 : Int) (0 : Int) [])).stops x_8).full) (x_6.getD x_13.toNat (Route.mk (0 : Int) (0 :
  Int) [])).served (wrap (x_9 - x_11)))).pick = (hspot (bestS (SearchD.mk x ((findD (x_6.getD x_13.toNat (Route.mk (0 : Int) (0 : Int) [])).driver x_2).getD FK.driver.zero) (mkS x ((findD (x_6.getD x_13.toNat (Route.mk (0 : Int) (0 : Int)
  [])).driver x_2).getD FK.driver.zero) x_4 (x_6.getD x_13.toNat (Route.mk (0 : Int) (0 : Int) [])).stops x_8).legs (mkS x ((findD (x_6.getD x_13.toNat (Route.mk (0 : Int) (0 : Int) [])).driver x_2).getD FK.driver.zero) x_4 (x_6.getD
  x_13.toNat (Route.mk (0 : Int) (0 : Int) [])).stops x_8).pre (legO x_8 false) (legO x_8 true) (mkS x ((findD (x_6.getD x_13.toNat (Route.mk (0 : Int) (0 : Int) [])).driver x_2).getD FK.driver.zero) x_4 (x_6.getD x_13.toNat (Route.mk (0 :
  Int) (0 : Int) [])).stops x_8).full) (x_6.getD x_13.toNat (Route.mk (0 : Int) (0 : Int) [])).served (wrap (x_9 - x_11)))).pick ∧ (hspot (bestS (SearchD.mk x ((findD (x_6.getD x_13.toNat (Route.mk (0 : Int) (0 : Int) [])).driver x_2).getD
  FK.driver.zero) (mkS x ((findD (x_6.getD x_13.toNat (Route.mk (0 : Int) (0 : Int) [])).driver x_2).getD FK.driver.zero) x_4 (x_6.getD x_13.toNat (Route.mk (0 : Int) (0 : Int) [])).stops x_8).legs (mkS x ((findD (x_6.getD x_13.toNat
  (Route.mk (0 : Int) (0 : Int) [])).driver x_2).getD FK.driver.zero) x_4 (x_6.getD x_13.toNat (Route.mk (0 : Int) (0 : Int) [])).stops x_8).pre (legO x_8 false) (legO x_8 true) (mkS x ((findD (x_6.getD x_13.toNat (Route.mk (0 : Int) (0 :
  Int) [])).driver x_2).getD FK.driver.zero) x_4 (x_6.getD x_13.toNat (Route.mk (0 : Int) (0 : Int) [])).stops x_8).full) (x_6.getD x_13.toNat (Route.mk (0 : Int) (0 : Int) [])).served (wrap (x_9 - x_11)))).drop = (hspot (bestS (SearchD.mk x
  ((findD (x_6.getD x_13.toNat (Route.mk (0 : Int) (0 : Int) [])).driver x_2).getD FK.driver.zero) (mkS x ((findD (x_6.getD x_13.toNat (Route.mk (0 : Int) (0 : Int) [])).driver x_2).getD FK.driver.zero) x_4 (x_6.getD x_13.toNat (Route.mk (0 :
  Int) (0 : Int) [])).stops x_8).legs (mkS x ((findD (x_6.getD x_13.toNat (Route.mk (0 : Int) (0 : Int) [])).driver x_2).getD FK.driver.zero) x_4 (x_6.getD x_13.toNat (Route.mk (0 : Int) (0 : Int) [])).stops x_8).pre (legO x_8 false) (legO
  x_8 true) (mkS x ((findD (x_6.getD x_13.toNat (Route.mk (0 : Int) (0 : Int) [])).driver x_2).getD FK.driver.zero) x_4 (x_6.getD x_13.toNat (Route.mk (0 : Int) (0 : Int) [])).stops x_8).full) (x_6.getD x_13.toNat (Route.mk (0 : Int) (0 :
  Int) [])).served (wrap (x_9 - x_11)))).drop ∧ (hspot (bestS (SearchD.mk x ((findD (x_6.getD x_13.toNat (Route.mk (0 : Int) (0 : Int) [])).driver x_2).getD FK.driver.zero) (mkS x ((findD (x_6.getD x_13.toNat (Route.mk (0 : Int) (0 : Int)
  [])).driver x_2).getD FK.driver.zero) x_4 (x_6.getD x_13.toNat (Route.mk (0 : Int) (0 : Int) [])).stops x_8).legs (mkS x ((findD (x_6.getD x_13.toNat (Route.mk (0 : Int) (0 : Int) [])).driver x_2).getD FK.driver.zero) x_4 (x_6.getD
  x_13.toNat (Route.mk (0 : Int) (0 : Int) [])).stops x_8).pre (legO x_8 false) (legO x_8 true) (mkS x ((findD (x_6.getD x_13.toNat (Route.mk (0 : Int) (0 : Int) [])).driver x_2).getD FK.driver.zero) x_4 (x_6.getD x_13.toNat (Route.mk (0 :
  Int) (0 : Int) [])).stops x_8).full) (x_6.getD x_13.toNat (Route.mk (0 : Int) (0 : Int) [])).served (wrap (x_9 - x_11)))).cost = (hspot (bestS (SearchD.mk x ((findD (x_6.getD x_13.toNat (Route.mk (0 : Int) (0 : Int) [])).driver x_2).getD
  FK.driver.zero) (mkS x ((findD (x_6.getD x_13.toNat (Route.mk (0 : Int) (0 : Int) [])).driver x_2).getD FK.driver.zero) x_4 (x_6.getD x_13.toNat (Route.mk (0 : Int) (0 : Int) [])).stops x_8).legs (mkS x ((findD (x_6.getD x_13.toNat
  (Route.mk (0 : Int) (0 : Int) [])).driver x_2).getD FK.driver.zero) x_4 (x_6.getD x_13.toNat (Route.mk (0 : Int) (0 : Int) [])).stops x_8).pre (legO x_8 false) (legO x_8 true) (mkS x ((findD (x_6.getD x_13.toNat (Route.mk (0 : Int) (0 :
  Int) [])).driver x_2).getD FK.driver.zero) x_4 (x_6.getD x_13.toNat (Route.mk (0 : Int) (0 : Int) [])).stops x_8).full) (x_6.getD x_13.toNat (Route.mk (0 : Int) (0 : Int) [])).served (wrap (x_9 - x_11)))).cost) ∧ x.l = x.l ∧ x_6 = x_6 ∧ x_4
  = x_4 ∧ x_2 = x_2) ∧ inv (wrap (x_11 + (bestS (SearchD.mk x ((findD (x_6.getD x_13.toNat (Route.mk (0 : Int) (0 : Int) [])).driver x_2).getD FK.driver.zero) (mkS x ((findD (x_6.getD x_13.toNat (Route.mk (0 : Int) (0 : Int) [])).driver
  x_2).getD FK.driver.zero) x_4 (x_6.getD x_13.toNat (Route.mk (0 : Int) (0 : Int) [])).stops x_8).legs (mkS x ((findD (x_6.getD x_13.toNat (Route.mk (0 : Int) (0 : Int) [])).driver x_2).getD FK.driver.zero) x_4 (x_6.getD x_13.toNat (Route.mk
  (0 : Int) (0 : Int) [])).stops x_8).pre (legO x_8 false) (legO x_8 true) (mkS x ((findD (x_6.getD x_13.toNat (Route.mk (0 : Int) (0 : Int) [])).driver x_2).getD FK.driver.zero) x_4 (x_6.getD x_13.toNat (Route.mk (0 : Int) (0 : Int)
  [])).stops x_8).full) (x_6.getD x_13.toNat (Route.mk (0 : Int) (0 : Int) [])).served (wrap (x_9 - x_11))).steps)) true (wrap (x_13 + (1 : Int))) (hspot (bestS (SearchD.mk x ((findD (x_6.getD x_13.toNat (Route.mk (0 : Int) (0 : Int)
  [])).driver x_2).getD FK.driver.zero) (mkS x ((findD (x_6.getD x_13.toNat (Route.mk (0 : Int) (0 : Int) [])).driver x_2).getD FK.driver.zero) x_4 (x_6.getD x_13.toNat (Route.mk (0 : Int) (0 : Int) [])).stops x_8).legs (mkS x ((findD
  (x_6.getD x_13.toNat (Route.mk (0 : Int) (0 : Int) [])).driver x_2).getD FK.driver.zero) x_4 (x_6.getD x_13.toNat (Route.mk (0 : Int) (0 : Int) [])).stops x_8).pre (legO x_8 false) (legO x_8 true) (mkS x ((findD (x_6.getD x_13.toNat
  (Route.mk (0 : Int) (0 : Int) [])).driver x_2).getD FK.driver.zero) x_4 (x_6.getD x_13.toNat (Route.mk (0 : Int) (0 : Int) [])).stops x_8).full) (x_6.getD x_13.toNat (Route.mk (0 : Int) (0 : Int) [])).served (wrap (x_9 - x_11)))).driver
  (hspot (bestS (SearchD.mk x ((findD (x_6.getD x_13.toNat (Route.mk (0 : Int) (0 : Int) [])).driver x_2).getD FK.driver.zero) (mkS x ((findD (x_6.getD x_13.toNat (Route.mk (0 : Int) (0 : Int) [])).driver x_2).getD FK.driver.zero) x_4
  (x_6.getD x_13.toNat (Route.mk (0 : Int) (0 : Int) [])).stops x_8).legs (mkS x ((findD (x_6.getD x_13.toNat (Route.mk (0 : Int) (0 : Int) [])).driver x_2).getD FK.driver.zero) x_4 (x_6.getD x_13.toNat (Route.mk (0 : Int) (0 : Int)
  [])).stops x_8).pre (legO x_8 false) (legO x_8 true) (mkS x ((findD (x_6.getD x_13.toNat (Route.mk (0 : Int) (0 : Int) [])).driver x_2).getD FK.driver.zero) x_4 (x_6.getD x_13.toNat (Route.mk (0 : Int) (0 : Int) [])).stops x_8).full)
  (x_6.getD x_13.toNat (Route.mk (0 : Int) (0 : Int) [])).served (wrap (x_9 - x_11)))).pick (hspot (bestS (SearchD.mk x ((findD (x_6.getD x_13.toNat (Route.mk (0 : Int) (0 : Int) [])).driver x_2).getD FK.driver.zero) (mkS x ((findD (x_6.getD
  x_13.toNat (Route.mk (0 : Int) (0 : Int) [])).driver x_2).getD FK.driver.zero) x_4 (x_6.getD x_13.toNat (Route.mk (0 : Int) (0 : Int) [])).stops x_8).legs (mkS x ((findD (x_6.getD x_13.toNat (Route.mk (0 : Int) (0 : Int) [])).driver
  x_2).getD FK.driver.zero) x_4 (x_6.getD x_13.toNat (Route.mk (0 : Int) (0 : Int) [])).stops x_8).pre (legO x_8 false) (legO x_8 true) (mkS x ((findD (x_6.getD x_13.toNat (Route.mk (0 : Int) (0 : Int) [])).driver x_2).getD FK.driver.zero)
  x_4 (x_6.getD x_13.toNat (Route.mk (0 : Int) (0 : Int) [])).stops x_8).full) (x_6.getD x_13.toNat (Route.mk (0 : Int) (0 : Int) [])).served (wrap (x_9 - x_11)))).drop (hspot (bestS (SearchD.mk x ((findD (x_6.getD x_13.toNat (Route.mk (0 :
  Int) (0 : Int) [])).driver x_2).getD FK.driver.zero) (mkS x ((findD (x_6.getD x_13.toNat (Route.mk (0 : Int) (0 : Int) [])).driver x_2).getD FK.driver.zero) x_4 (x_6.getD x_13.toNat (Route.mk (0 : Int) (0 : Int) [])).stops x_8).legs (mkS x
  ((findD (x_6.getD x_13.toNat (Route.mk (0 : Int) (0 : Int) [])).driver x_2).getD FK.driver.zero) x_4 (x_6.getD x_13.toNat (Route.mk (0 : Int) (0 : Int) [])).stops x_8).pre (legO x_8 false) (legO x_8 true) (mkS x ((findD (x_6.getD x_13.toNat
  (Route.mk (0 : Int) (0 : Int) [])).driver x_2).getD FK.driver.zero) x_4 (x_6.getD x_13.toNat (Route.mk (0 : Int) (0 : Int) [])).stops x_8).full) (x_6.getD x_13.toNat (Route.mk (0 : Int) (0 : Int) [])).served (wrap (x_9 - x_11)))).cost ∧ μ
  (wrap (x_11 + (bestS (SearchD.mk x ((findD (x_6.getD x_13.toNat (Route.mk (0 : Int) (0 : Int) [])).driver x_2).getD FK.driver.zero) (mkS x ((findD (x_6.getD x_13.toNat (Route.mk (0 : Int) (0 : Int) [])).driver x_2).getD FK.driver.zero) x_4
  (x_6.getD x_13.toNat (Route.mk (0 : Int) (0 : Int) [])).stops x_8).legs (mkS x ((findD (x_6.getD x_13.toNat (Route.mk (0 : Int) (0 : Int) [])).driver x_2).getD FK.driver.zero) x_4 (x_6.getD x_13.toNat (Route.mk (0 : Int) (0 : Int)
  [])).stops x_8).pre (legO x_8 false) (legO x_8 true) (mkS x ((findD (x_6.getD x_13.toNat (Route.mk (0 : Int) (0 : Int) [])).driver x_2).getD FK.driver.zero) x_4 (x_6.getD x_13.toNat (Route.mk (0 : Int) (0 : Int) [])).stops x_8).full)
  (x_6.getD x_13.toNat (Route.mk (0 : Int) (0 : Int) [])).served (wrap (x_9 - x_11))).steps)) true (wrap (x_13 + (1 : Int))) (hspot (bestS (SearchD.mk x ((findD (x_6.getD x_13.toNat (Route.mk (0 : Int) (0 : Int) [])).driver x_2).getD
  FK.driver.zero) (mkS x ((findD (x_6.getD x_13.toNat (Route.mk (0 : Int) (0 : Int) [])).driver x_2).getD FK.driver.zero) x_4 (x_6.getD x_13.toNat (Route.mk (0 : Int) (0 : Int) [])).stops x_8).legs (mkS x ((findD (x_6.getD x_13.toNat
  (Route.mk (0 : Int) (0 : Int) [])).driver x_2).getD FK.driver.zero) x_4 (x_6.getD x_13.toNat (Route.mk (0 : Int) (0 : Int) [])).stops x_8).pre (legO x_8 false) (legO x_8 true) (mkS x ((findD (x_6.getD x_13.toNat (Route.mk (0 : Int) (0 :
  Int) [])).driver x_2).getD FK.driver.zero) x_4 (x_6.getD x_13.toNat (Route.mk (0 : Int) (0 : Int) [])).stops x_8).full) (x_6.getD x_13.toNat (Route.mk (0 : Int) (0 : Int) [])).served (wrap (x_9 - x_11)))).driver (hspot (bestS (SearchD.mk x
  ((findD (x_6.getD x_13.toNat (Route.mk (0 : Int) (0 : Int) [])).driver x_2).getD FK.driver.zero) (mkS x ((findD (x_6.getD x_13.toNat (Route.mk (0 : Int) (0 : Int) [])).driver x_2).getD FK.driver.zero) x_4 (x_6.getD x_13.toNat (Route.mk (0 :
  Int) (0 : Int) [])).stops x_8).legs (mkS x ((findD (x_6.getD x_13.toNat (Route.mk (0 : Int) (0 : Int) [])).driver x_2).getD FK.driver.zero) x_4 (x_6.getD x_13.toNat (Route.mk (0 : Int) (0 : Int) [])).stops x_8).pre (legO x_8 false) (legO
  x_8 true) (mkS x ((findD (x_6.getD x_13.toNat (Route.mk (0 : Int) (0 : Int) [])).driver x_2).getD FK.driver.zero) x_4 (x_6.getD x_13.toNat (Route.mk (0 : Int) (0 : Int) [])).stops x_8).full) (x_6.getD x_13.toNat (Route.mk (0 : Int) (0 :
  Int) [])).served (wrap (x_9 - x_11)))).pick (hspot (bestS (SearchD.mk x ((findD (x_6.getD x_13.toNat (Route.mk (0 : Int) (0 : Int) [])).driver x_2).getD FK.driver.zero) (mkS x ((findD (x_6.getD x_13.toNat (Route.mk (0 : Int) (0 : Int)
  [])).driver x_2).getD FK.driver.zero) x_4 (x_6.getD x_13.toNat (Route.mk (0 : Int) (0 : Int) [])).stops x_8).legs (mkS x ((findD (x_6.getD x_13.toNat (Route.mk (0 : Int) (0 : Int) [])).driver x_2).getD FK.driver.zero) x_4 (x_6.getD
  x_13.toNat (Route.mk (0 : Int) (0 : Int) [])).stops x_8).pre (legO x_8 false) (legO x_8 true) (mkS x ((findD (x_6.getD x_13.toNat (Route.mk (0 : Int) (0 : Int) [])).driver x_2).getD FK.driver.zero) x_4 (x_6.getD x_13.toNat (Route.mk (0 :
  Int) (0 : Int) [])).stops x_8).full) (x_6.getD x_13.toNat (Route.mk (0 : Int) (0 : Int) [])).served (wrap (x_9 - x_11)))).drop (hspot (bestS (SearchD.mk x ((findD (x_6.getD x_13.toNat (Route.mk (0 : Int) (0 : Int) [])).driver x_2).getD
  FK.driver.zero) (mkS x ((findD (x_6.getD x_13.toNat (Route.mk (0 : Int) (0 : Int) [])).driver x_2).getD FK.driver.zero) x_4 (x_6.getD x_13.toNat (Route.mk (0 : Int) (0 : Int) [])).stops x_8).legs (mkS x ((findD (x_6.getD x_13.toNat
  (Route.mk (0 : Int) (0 : Int) [])).driver x_2).getD FK.driver.zero) x_4 (x_6.getD x_13.toNat (Route.mk (0 : Int) (0 : Int) [])).stops x_8).pre (legO x_8 false) (legO x_8 true) (mkS x ((findD (x_6.getD x_13.toNat (Route.mk (0 : Int) (0 :
  Int) [])).driver x_2).getD FK.driver.zero) x_4 (x_6.getD x_13.toNat (Route.mk (0 : Int) (0 : Int) [])).stops x_8).full) (x_6.getD x_13.toNat (Route.mk (0 : Int) (0 : Int) [])).served (wrap (x_9 - x_11)))).cost < μ x_11 x_12 x_13 x_14 x_15
  x_16 x_17)) ∧ ((bestS (SearchD.mk x ((findD (x_6.getD x_13.toNat (Route.mk (0 : Int) (0 : Int) [])).driver x_2).getD FK.driver.zero) (mkS x ((findD (x_6.getD x_13.toNat (Route.mk (0 : Int) (0 : Int) [])).driver x_2).getD FK.driver.zero) x_4
  (x_6.getD x_13.toNat (Route.mk (0 : Int) (0 : Int) [])).stops x_8).legs (mkS x ((findD (x_6.getD x_13.toNat (Route.mk (0 : Int) (0 : Int) [])).driver x_2).getD FK.driver.zero) x_4 (x_6.getD x_13.toNat (Route.mk (0 : Int) (0 : Int)
  [])).stops x_8).pre (legO x_8 false) (legO x_8 true) (mkS x ((findD (x_6.getD x_13.toNat (Route.mk (0 : Int) (0 : Int) [])).driver x_2).getD FK.driver.zero) x_4 (x_6.getD x_13.toNat (Route.mk (0 : Int) (0 : Int) [])).stops x_8).full)
  (x_6.getD x_13.toNat (Route.mk (0 : Int) (0 : Int) [])).served (wrap (x_9 - x_11))).found = !true → ((x_9 = x_9 ∧ wrap (x_11 + (bestS (SearchD.mk x ((findD (x_6.getD x_13.toNat (Route.mk (0 : Int) (0 : Int) [])).driver x_2).getD
  FK.driver.zero) (mkS x ((findD (x_6.getD x_13.toNat (Route.mk (0 : Int) (0 : Int) [])).driver x_2).getD FK.driver.zero) x_4 (x_6.getD x_13.toNat (Route.mk (0 : Int) (0 : Int) [])).stops x_8).legs (mkS x ((findD (x_6.getD x_13.toNat
  (Route.mk (0 : Int) (0 : Int) [])).driver x_2).getD FK.driver.zero) x_4 (x_6.getD x_13.toNat (Route.mk (0 : Int) (0 : Int) [])).stops x_8).pre (legO x_8 false) (legO x_8 true) (mkS x ((findD (x_6.getD x_13.toNat (Route.mk (0 : Int) (0 :
  Int) [])).driver x_2).getD FK.driver.zero) x_4 (x_6.getD x_13.toNat (Route.mk (0 : Int) (0 : Int) [])).stops x_8).full) (x_6.getD x_13.toNat (Route.mk (0 : Int) (0 : Int) [])).served (wrap (x_9 - x_11))).steps) = wrap (x_11 + (bestS
  (SearchD.mk x ((findD (x_6.getD x_13.toNat (Route.mk (0 : Int) (0 : Int) [])).driver x_2).getD FK.driver.zero) (mkS x ((findD (x_6.getD x_13.toNat (Route.mk (0 : Int) (0 : Int) [])).driver x_2).getD FK.driver.zero) x_4 (x_6.getD x_13.toNat
  (Route.mk (0 : Int) (0 : Int) [])).stops x_8).legs (mkS x ((findD (x_6.getD x_13.toNat (Route.mk (0 : Int) (0 : Int) [])).driver x_2).getD FK.driver.zero) x_4 (x_6.getD x_13.toNat (Route.mk (0 : Int) (0 : Int) [])).stops x_8).pre (legO x_8
  false) (legO x_8 true) (mkS x ((findD (x_6.getD x_13.toNat (Route.mk (0 : Int) (0 : Int) [])).driver x_2).getD FK.driver.zero) x_4 (x_6.getD x_13.toNat (Route.mk (0 : Int) (0 : Int) [])).stops x_8).full) (x_6.getD x_13.toNat (Route.mk (0 :
  Int) (0 : Int) [])).served (wrap (x_9 - x_11))).steps) ∧ x_12 = x_12 ∧ (↑x_6.length : Int) = (↑x_6.length : Int) ∧ wrap (x_13 + (1 : Int)) = wrap (x_13 + (1 : Int))) ∧ (x.n = x.n ∧ (x_8.id = x_8.id ∧ x_8.size = x_8.size ∧ x_8.pp = x_8.pp ∧
  x_8.pf = x_8.pf ∧ x_8.pt = x_8.pt ∧ x_8.ps = x_8.ps ∧ x_8.dp = x_8.dp ∧ x_8.df = x_8.df ∧ x_8.dt = x_8.dt ∧ x_8.ds = x_8.ds) ∧ ((0 : Int) = (0 : Int) ∧ (0 : Int) = (0 : Int) ∧ (0 : Int) = (0 : Int) ∧ (0 : Int) = (0 : Int)) ∧ x_14 = x_14 ∧
  x_15 = x_15 ∧ x_16 = x_16 ∧ x_17 = x_17) ∧ x.l = x.l ∧ x_6 = x_6 ∧ x_4 = x_4 ∧ x_2 = x_2) ∧ inv (wrap (x_11 + (bestS (SearchD.mk x ((findD (x_6.getD x_13.toNat (Route.mk (0 : Int) (0 : Int) [])).driver x_2).getD FK.driver.zero) (mkS x
  ((findD (x_6.getD x_13.toNat (Route.mk (0 : Int) (0 : Int) [])).driver x_2).getD FK.driver.zero) x_4 (x_6.getD x_13.toNat (Route.mk (0 : Int) (0 : Int) [])).stops x_8).legs (mkS x ((findD (x_6.getD x_13.toNat (Route.mk (0 : Int) (0 : Int)
  [])).driver x_2).getD FK.driver.zero) x_4 (x_6.getD x_13.toNat (Route.mk (0 : Int) (0 : Int) [])).stops x_8).pre (legO x_8 false) (legO x_8 true) (mkS x ((findD (x_6.getD x_13.toNat (Route.mk (0 : Int) (0 : Int) [])).driver x_2).getD
  FK.driver.zero) x_4 (x_6.getD x_13.toNat (Route.mk (0 : Int) (0 : Int) [])).stops x_8).full) (x_6.getD x_13.toNat (Route.mk (0 : Int) (0 : Int) [])).served (wrap (x_9 - x_11))).steps)) x_12 (wrap (x_13 + (1 : Int))) x_14 x_15 x_16 x_17 ∧ μ
  (wrap (x_11 + (bestS (SearchD.mk x ((findD (x_6.getD x_13.toNat (Route.mk (0 : Int) (0 : Int) [])).driver x_2).getD FK.driver.zero) (mkS x ((findD (x_6.getD x_13.toNat (Route.mk (0 : Int) (0 : Int) [])).driver x_2).getD FK.driver.zero) x_4
  (x_6.getD x_13.toNat (Route.mk (0 : Int) (0 : Int) [])).stops x_8).legs (mkS x ((findD (x_6.getD x_13.toNat (Route.mk (0 : Int) (0 : Int) [])).driver x_2).getD FK.driver.zero) x_4 (x_6.getD x_13.toNat (Route.mk (0 : Int) (0 : Int)
  [])).stops x_8).pre (legO x_8 false) (legO x_8 true) (mkS x ((findD (x_6.getD x_13.toNat (Route.mk (0 : Int) (0 : Int) [])).driver x_2).getD FK.driver.zero) x_4 (x_6.getD x_13.toNat (Route.mk (0 : Int) (0 : Int) [])).stops x_8).full)
  (x_6.getD x_13.toNat (Route.mk (0 : Int) (0 : Int) [])).served (wrap (x_9 - x_11))).steps)) x_12 (wrap (x_13 + (1 : Int))) x_14 x_15 x_16 x_17 < μ x_11 x_12 x_13 x_14 x_15 x_16 x_17))) ∧ (((findD (x_6.getD x_13.toNat (Route.mk (0 : Int) (0
  : Int) [])).driver x_2).getD FK.driver.zero).retired = !false → ((x_9 = x_9 ∧ x_11 = x_11 ∧ x_12 = x_12 ∧ (↑x_6.length : Int) = (↑x_6.length : Int) ∧ wrap (x_13 + (1 : Int)) = wrap (x_13 + (1 : Int))) ∧ (x.n = x.n ∧ (x_8.id = x_8.id ∧
  x_8.size = x_8.size ∧ x_8.pp = x_8.pp ∧ x_8.pf = x_8.pf ∧ x_8.pt = x_8.pt ∧ x_8.ps = x_8.ps ∧ x_8.dp = x_8.dp ∧ x_8.df = x_8.df ∧ x_8.dt = x_8.dt ∧ x_8.ds = x_8.ds) ∧ ((0 : Int) = (0 : Int) ∧ (0 : Int) = (0 : Int) ∧ (0 : Int) = (0 : Int) ∧
  (0 : Int) = (0 : Int)) ∧ x_14 = x_14 ∧ x_15 = x_15 ∧ x_16 = x_16 ∧ x_17 = x_17) ∧ x.l = x.l ∧ x_6 = x_6 ∧ x_4 = x_4 ∧ x_2 = x_2) ∧ inv x_11 x_12 (wrap (x_13 + (1 : Int))) x_14 x_15 x_16 x_17 ∧ μ x_11 x_12 (wrap (x_13 + (1 : Int))) x_14 x_15
  x_16 x_17 < μ x_11 x_12 x_13 x_14 x_15 x_16 x_17)) ∧ (decide (x_13 < (↑x_6.length : Int)) = false → ((!x_12) = true → ((0 : Int) = (hspot (tellH (lookP (some x) x_2 x_4 x_6 x_8 x_9)).fst).driver ∧ (0 : Int) = (hspot (tellH (lookP (some x)
  x_2 x_4 x_6 x_8 x_9)).fst).pick ∧ (0 : Int) = (hspot (tellH (lookP (some x) x_2 x_4 x_6 x_8 x_9)).fst).drop ∧ (0 : Int) = (hspot (tellH (lookP (some x) x_2 x_4 x_6 x_8 x_9)).fst).cost) ∧ x_11 = (tellH (lookP (some x) x_2 x_4 x_6 x_8
  x_9)).fst.steps ∧ (20 : Int) = (tellH (lookP (some x) x_2 x_4 x_6 x_8 x_9)).snd) ∧ ((!x_12) = false → (x_14 = (hspot (tellH (lookP (some x) x_2 x_4 x_6 x_8 x_9)).fst).driver ∧ x_15 = (hspot (tellH (lookP (some x) x_2 x_4 x_6 x_8
  x_9)).fst).pick ∧ x_16 = (hspot (tellH (lookP (some x) x_2 x_4 x_6 x_8 x_9)).fst).drop ∧ x_17 = (hspot (tellH (lookP (some x) x_2 x_4 x_6 x_8 x_9)).fst).cost) ∧ x_11 = (tellH (lookP (some x) x_2 x_4 x_6 x_8 x_9)).fst.steps ∧ (0 : Int) =
  (tellH (lookP (some x) x_2 x_4 x_6 x_8 x_9)).snd))
theorem look_told (hc : CsOk Try.prog look_cs) (h : look_vc) : Told Try.prog 35 look_con := told (A := look_la) tabOk mixed hc Try.func35 (by kernel_rfl) (by kernel_rfl) h
def cheap_vc : Prop :=
  (∀ (x : List Driver), LenOk x.length → ∀ (x_2 : List Order), LenOk x_2.length → ∀ (x_4 : List Route), (LenOk x_4.length ∧ ∀ (r : Route), List.Mem r x_4 → LenOk r.stops.length) → ∀ (x_6 : Order) (x_7 : Int), (∀ (x : MapD), none = some x →
  MapOk x) → (∀ (x : MapD), none = some x → MapOk x) ∧ ((!good (cfauR (makeP none x x_2 x_4))) = false → (∀ (x : MapD), none = some x → MapOk x) ∧ ((!askedP none x_2 x_6 x_7) = true → ((0 : Int) = (hspot (cheapP none x x_2 x_4 x_6
  x_7).fst).driver ∧ (0 : Int) = (hspot (cheapP none x x_2 x_4 x_6 x_7).fst).pick ∧ (0 : Int) = (hspot (cheapP none x x_2 x_4 x_6 x_7).fst).drop ∧ (0 : Int) = (hspot (cheapP none x x_2 x_4 x_6 x_7).fst).cost) ∧ (0 : Int) = (cheapP none x x_2
  x_4 x_6 x_7).fst.steps ∧ (1 : Int) = (cheapP none x x_2 x_4 x_6 x_7).snd) ∧ ((!askedP none x_2 x_6 x_7) = false → LookPre none x_4 x_7 ∧ ((hspot (tellH (lookP none x x_2 x_4 x_6 x_7)).fst).driver = (hspot (cheapP none x x_2 x_4 x_6
  x_7).fst).driver ∧ (hspot (tellH (lookP none x x_2 x_4 x_6 x_7)).fst).pick = (hspot (cheapP none x x_2 x_4 x_6 x_7).fst).pick ∧ (hspot (tellH (lookP none x x_2 x_4 x_6 x_7)).fst).drop = (hspot (cheapP none x x_2 x_4 x_6 x_7).fst).drop ∧
  (hspot (tellH (lookP none x x_2 x_4 x_6 x_7)).fst).cost = (hspot (cheapP none x x_2 x_4 x_6 x_7).fst).cost) ∧ (tellH (lookP none x x_2 x_4 x_6 x_7)).fst.steps = (cheapP none x x_2 x_4 x_6 x_7).fst.steps ∧ (tellH (lookP none x x_2 x_4 x_6
  x_7)).snd = (cheapP none x x_2 x_4 x_6 x_7).snd)) ∧ ((!good (cfauR (makeP none x x_2 x_4))) = !false → ((0 : Int) = (hspot (cheapP none x x_2 x_4 x_6 x_7).fst).driver ∧ (0 : Int) = (hspot (cheapP none x x_2 x_4 x_6 x_7).fst).pick ∧ (0 :
  Int) = (hspot (cheapP none x x_2 x_4 x_6 x_7).fst).drop ∧ (0 : Int) = (hspot (cheapP none x x_2 x_4 x_6 x_7).fst).cost) ∧ (0 : Int) = (cheapP none x x_2 x_4 x_6 x_7).fst.steps ∧ (1 : Int) = (cheapP none x x_2 x_4 x_6 x_7).snd)) ∧ ∀ (x :
  MapD), LenOk x.l.length → ∀ (x_2 : List Driver), LenOk x_2.length → ∀ (x_4 : List Order), LenOk x_4.length → ∀ (x_6 : List Route), (LenOk x_6.length ∧ ∀ (r : Route), List.Mem r x_6 → LenOk r.stops.length) → ∀ (x_8 : Order) (x_9 : Int), (∀
  (x_10 : MapD), some x = some x_10 → MapOk x_10) → (∀ (x_11 : MapD), some x = some x_11 → MapOk x_11) ∧ ((!good (cfauR (makeP (some x) x_2 x_4 x_6))) = false → (∀ (x_12 : MapD), some x = some x_12 → MapOk x_12) ∧ ((!askedP (some x) x_4 x_8
  x_9) = true → ((0 : Int) = (hspot (cheapP (some x) x_2 x_4 x_6 x_8 x_9).fst).driver ∧ (0 : Int) = (hspot (cheapP (some x) x_2 x_4 x_6 x_8 x_9).fst).pick ∧ (0 : Int) = (hspot (cheapP (some x) x_2 x_4 x_6 x_8 x_9).fst).drop ∧ (0 : Int) =
  (hspot (cheapP (some x) x_2 x_4 x_6 x_8 x_9).fst).cost) ∧ (0 : Int) = (cheapP (some x) x_2 x_4 x_6 x_8 x_9).fst.steps ∧ (1 : Int) = (cheapP (some x) x_2 x_4 x_6 x_8 x_9).snd) ∧ ((!askedP (some x) x_4 x_8 x_9) = false → LookPre (some x) x_6
  x_9 ∧ ((hspot (tellH (lookP (some x) x_2 x_4 x_6 x_8 x_9)).fst).driver = (hspot (cheapP (some x) x_2 x_4 x_6 x_8 x_9).fst).driver ∧ (hspot (tellH (lookP (some x) x_2 x_4 x_6 x_8 x_9)).fst).pick = (hspot (cheapP (some x) x_2 x_4 x_6 x_8
  x_9).fst).pick ∧ (hspot (tellH (lookP (some x) x_2 x_4 x_6 x_8 x_9)).fst).drop = (hspot (cheapP (some x) x_2 x_4 x_6 x_8 x_9).fst).drop ∧ (hspot (tellH (lookP (some x) x_2 x_4 x_6 x_8 x_9)).fst).cost = (hspot (cheapP (some x) x_2 x_4 x_6
  x_8 x_9).fst).cost) ∧ (tellH (lookP (some x) x_2 x_4 x_6 x_8 x_9)).fst.steps = (cheapP (some x) x_2 x_4 x_6 x_8 x_9).fst.steps ∧ (tellH (lookP (some x) x_2 x_4 x_6 x_8 x_9)).snd = (cheapP (some x) x_2 x_4 x_6 x_8 x_9).snd)) ∧ ((!good (cfauR
  (makeP (some x) x_2 x_4 x_6))) = !false → ((0 : Int) = (hspot (cheapP (some x) x_2 x_4 x_6 x_8 x_9).fst).driver ∧ (0 : Int) = (hspot (cheapP (some x) x_2 x_4 x_6 x_8 x_9).fst).pick ∧ (0 : Int) = (hspot (cheapP (some x) x_2 x_4 x_6 x_8
  x_9).fst).drop ∧ (0 : Int) = (hspot (cheapP (some x) x_2 x_4 x_6 x_8 x_9).fst).cost) ∧ (0 : Int) = (cheapP (some x) x_2 x_4 x_6 x_8 x_9).fst.steps ∧ (1 : Int) = (cheapP (some x) x_2 x_4 x_6 x_8 x_9).snd)
theorem cheap_told (hc : CsOk Try.prog cheap_cs) (h : cheap_vc) : Told Try.prog 17 cheap_con := told (A := cheap_la) tabOk mixed hc Try.func17 (by kernel_rfl) (by kernel_rfl) h
end Go.Eng

/- An order's place looked for: the functions that look. -/
set_option linter.unusedVariables false
set_option linter.unusedSimpArgs false
namespace Go.Eng
open Go Go.Proofs
theorem legOf_ok : legOf_vc := by
  unfold legOf_vc
  intro o b
  cases b <;> simp [legO]
theorem legOf_t : Told Try.prog 54 legOf_con := legOf_told csOk_nil legOf_ok
theorem step_ok : step_vc := by
  unfold step_vc
  simp only [bad_false, int0, nilOf, decide_eq_true_eq, decide_eq_false_iff_not, Bool.not_eq_true', Bool.not_eq_false', Bool.not_true, Bool.not_false, Bool.false_eq_true, Bool.true_eq_false, eq_self, true_and, and_true, false_or, or_false, false_implies, true_implies, implies_true, Int.not_lt, Int.not_le, gt_iff_lt, ge_iff_le, ne_eq]
  intro x _ s l hm
  refine ⟨fun y hy => by injection hy with hy; subst hy; exact hm, fun h => ⟨fun h2 => ?_, fun h2 => ?_⟩, fun h => ?_⟩
  · refine ⟨⟨rfl, rfl, rfl, rfl⟩, ?_⟩
    unfold stepS
    dsimp only
    rw [show (stepB x.m s l).2 = true from h, decide_eq_true (show (stepN x.m s l).now ≤ x.d.hi from h2)]
    rfl
  · have : ¬ (wrap ((begin_ ⟨l.lo, l.hi⟩ (wrap (s.now + (mtime (some x.m) s.pos l.pl).1))).1 + l.sv) ≤ x.d.hi) := by omega
    simp [stepS, stepN, stepB, stepT, h, this]
  · simp [stepS, stepN, stepB, stepT, h]
theorem step_t : Told Try.prog 55 step_con := step_told (csOk_cons time_t (csOk_cons begin_t csOk_nil)) step_ok
theorem runS_false {m : MapD} {d : Driver} {s : State} : ∀ (l : List Leg), runS m d (s, false) l = (s, false)
  | [] => rfl
  | l :: ls => by rw [runS]; rfl
theorem runS_true {m : MapD} {d : Driver} {s : State} {l : Leg} {ls : List Leg} : runS m d (s, true) (l :: ls) = runS m d (stepS m d s l) ls := by rw [runS]; rfl
theorem drop_cut {α : Type} (d : α) {l : List α} {k j : Nat} (hk : k < j) (hj : j ≤ l.length) : (l.drop k).take (j - k) = l.getD k d :: (l.drop (k + 1)).take (j - (k + 1)) := by
  have h1 : l.drop k = l.getD k d :: l.drop (k + 1) := by
    rw [List.drop_eq_getElem_cons (by omega : k < l.length)]
    simp [List.getD, (by omega : k < l.length)]
  rw [h1, show j - k = (j - (k + 1)) + 1 by omega, List.take_succ_cons]
theorem price_ok : price_vc := by
  unfold price_vc
  simp only [bad_false, int0, nilOf, decide_eq_true_eq, decide_eq_false_iff_not, Bool.not_eq_true', Bool.not_eq_false', Bool.not_true, Bool.not_false, Bool.false_eq_true, Bool.true_eq_false, eq_self, true_and, and_true, false_or, or_false, false_implies, true_implies, implies_true, Int.not_lt, Int.not_le, gt_iff_lt, ge_iff_le, ne_eq]
  intro x hx i j hp
  obtain ⟨hm, ⟨i0, i1⟩, hj, hpre⟩ := hp
  have hl := hx.2.1.le
  refine ⟨⟨i0, by omega⟩, by omega, hm, ?_⟩
  have fls : ∀ {s : State} {l l' : List Leg}, runS x.m x.d (s, false) l = priceR x i j → runS x.m x.d (s, false) l' = priceR x i j := fun h => by rw [runS_false] at h ⊢; exact h
  refine ⟨fun ok a b c e => runS x.m x.d (⟨a, b, c, e⟩, ok) (x.drop :: x.legs.drop j.toNat) = priceR x i j,
    ⟨fun ok k a b c e => i ≤ k ∧ k ≤ j ∧ runS x.m x.d (⟨a, b, c, e⟩, ok) ((x.legs.drop k.toNat).take (j.toNat - k.toNat) ++ x.drop :: x.legs.drop j.toNat) = priceR x i j, fun _ k _ _ _ _ => (j - k).toNat, ⟨Int.le_refl _, i1, rfl⟩, fun ok k a b c e hI => ⟨fun hk => ⟨fun hok => ?_, fun hok => ?_⟩, fun hk => ?_⟩⟩,
    fun ok a b c e hA => ⟨fun ok a b c e => runS x.m x.d (⟨a, b, c, e⟩, ok) (x.legs.drop j.toNat) = priceR x i j, ⟨fun hok => ?_, fun hok => ?_⟩, fun ok a b c e hB => ?_⟩⟩
  · obtain ⟨k0, k1, hI⟩ := hI
    subst hok
    have w1 : wrap (k + 1) = k + 1 := wrap_id (by omega) (by omega)
    have e1 : (k + 1).toNat = k.toNat + 1 := by omega
    rw [drop_cut (FK.zero .leg) (by omega : k.toNat < j.toNat) (by omega), List.cons_append, runS_true] at hI
    rw [w1]
    refine ⟨⟨by omega, by omega⟩, by omega, hm, ⟨by omega, by omega, ?_⟩, by dsimp only; omega⟩
    rw [e1]
    exact hI
  · obtain ⟨k0, k1, hI⟩ := hI
    subst hok
    exact fls hI
  · obtain ⟨k0, k1, hI⟩ := hI
    have : k = j := by omega
    subst this
    rw [Nat.sub_self, List.take_zero, List.nil_append] at hI
    exact hI
  · subst hok
    rw [runS_true] at hA
    exact ⟨hm, hA⟩
  · subst hok
    exact fls hA
  · have fin : ∀ (ok : Bool) (a b c e : Int), (⟨⟨a, b, c, e⟩, ok⟩ : State × Bool) = priceR x i j →
        ((0 : Int) ≤ (x.legs.length : Int) ∧ (x.legs.length : Int) < (x.pre.length : Int)) ∧ ((x.legs.length : Int)).toNat < x.pre.length ∧
          (ok = true → wrap (e - (x.pre.getD ((x.legs.length : Int)).toNat (FK.zero .state)).way) = (priceS x i j).1 ∧ (!x.full) = (priceS x i j).2) ∧
          (ok = false → wrap (e - (x.pre.getD ((x.legs.length : Int)).toNat (FK.zero .state)).way) = (priceS x i j).1 ∧ false = (priceS x i j).2) := by
      intro ok a b c e h
      have e1 : (priceS x i j).1 = wrap (e - (x.pre.getD x.legs.length sz).way) := by unfold priceS; rw [← h]
      have e2 : (priceS x i j).2 = (ok && !x.full) := by unfold priceS; rw [← h]
      rw [e1, e2, Int.toNat_natCast]
      refine ⟨⟨by omega, by omega⟩, by omega, fun hok => ⟨rfl, by rw [hok, Bool.true_and]⟩, fun hok => ⟨rfl, by rw [hok, Bool.false_and]⟩⟩
    refine ⟨fun ok k a b c e => j ≤ k ∧ k ≤ (x.legs.length : Int) ∧ runS x.m x.d (⟨a, b, c, e⟩, ok) (x.legs.drop k.toNat) = priceR x i j, fun _ k _ _ _ _ => ((x.legs.length : Int) - k).toNat, ⟨Int.le_refl _, hj, hB⟩, fun ok k a b c e hI => ⟨fun hk => ⟨fun hok => ?_, fun hok => ?_⟩, fun hk => ?_⟩⟩
    · obtain ⟨k0, k1, hI⟩ := hI
      subst hok
      have w1 : wrap (k + 1) = k + 1 := wrap_id (by omega) (by omega)
      have e1 : (k + 1).toNat = k.toNat + 1 := by omega
      have hdr : x.legs.drop k.toNat = x.legs.getD k.toNat (FK.zero .leg) :: x.legs.drop (k.toNat + 1) := by
        rw [List.drop_eq_getElem_cons (by omega : k.toNat < x.legs.length)]; simp [List.getD, (by omega : k.toNat < x.legs.length)]
      rw [hdr, runS_true] at hI
      rw [w1]
      refine ⟨⟨by omega, by omega⟩, by omega, hm, ⟨by omega, by omega, ?_⟩, by dsimp only; omega⟩
      rw [e1]
      exact hI
    · obtain ⟨k0, k1, hI⟩ := hI
      subst hok
      rw [runS_false] at hI
      exact fin _ _ _ _ _ hI
    · obtain ⟨k0, k1, hI⟩ := hI
      have e1 : k.toNat = x.legs.length := by omega
      rw [e1, List.drop_length, runS] at hI
      exact fin _ _ _ _ _ hI
theorem price_t : Told Try.prog 56 price_con := price_told (csOk_cons step_t csOk_nil) price_ok
theorem rowP_length {i : Int} : ∀ (k : Nat) (j : Int), (rowP i k j).length = k
  | 0, _ => rfl
  | k + 1, j => by simp [rowP, rowP_length k]
theorem pairsP_length : ∀ (k : Nat) (i : Int), (pairsP k i).length ≤ k * k
  | 0, _ => Nat.le_refl _
  | k + 1, i => by
    have := pairsP_length k (i + 1)
    rw [pairsP, List.length_append, rowP_length, Nat.succ_mul, Nat.mul_succ]
    omega
theorem rowP_next {i j n : Int} (h : j ≤ n) : rowP i (n + 1 - j).toNat j = (i, j) :: rowP i (n + 1 - (j + 1)).toNat (j + 1) := by
  rw [show (n + 1 - j).toNat = (n + 1 - (j + 1)).toNat + 1 by omega, rowP]
theorem pairsP_next {i n : Int} (h : i ≤ n) : pairsP (n + 1 - i).toNat i = rowP i (n + 1 - i).toNat i ++ pairsP (n + 1 - (i + 1)).toNat (i + 1) := by
  rw [show (n + 1 - i).toNat = (n + 1 - (i + 1)).toNat + 1 by omega, pairsP]
theorem sbest_ok : sbest_vc := by
  unfold sbest_vc
  simp only [bad_false, int0, nilOf, decide_eq_true_eq, decide_eq_false_iff_not, Bool.not_eq_true', Bool.not_eq_false', Bool.not_true, Bool.not_false, Bool.false_eq_true, Bool.true_eq_false, eq_self, true_and, and_true, false_or, or_false, false_implies, true_implies, implies_true, Int.not_lt, Int.not_le, gt_iff_lt, ge_iff_le, ne_eq]
  intro x hx s b hp
  obtain ⟨hm, s0, hl, hpre⟩ := hp
  have hR : bestS x s b = huntGo x.d.id (priceS x) b (pairsP ((x.legs.length : Int) + 1 - s).toNat s) hz := rfl
  generalize bestS x s b = R at *
  have hlen0 : (pairsP ((x.legs.length : Int) + 1 - s).toNat s).length ≤ 1001 * 1001 := by
    refine Nat.le_trans (pairsP_length _ _) (Nat.mul_le_mul ?_ ?_) <;> omega
  refine ⟨fun st f i d p q c => 0 ≤ i ∧ 0 ≤ st ∧ st + (pairsP ((x.legs.length : Int) + 1 - i).toNat i).length ≤ 4000000 ∧ huntGo x.d.id (priceS x) b (pairsP ((x.legs.length : Int) + 1 - i).toNat i) ⟨d, p, q, c, f, st⟩ = R, fun _ _ i _ _ _ _ => ((x.legs.length : Int) + 1 - i).toNat, ⟨s0, Int.le_refl _, by omega, hR.symm⟩, fun st f i d p q c hI => ⟨fun hi => ?_, fun hi => ?_⟩⟩
  · obtain ⟨i0, t0, t1, hI⟩ := hI
    rw [pairsP_next hi] at hI t1
    refine ⟨fun st f j d p q c => i ≤ j ∧ j ≤ (x.legs.length : Int) + 1 ∧ 0 ≤ st ∧ st + (rowP i ((x.legs.length : Int) + 1 - j).toNat j ++ pairsP ((x.legs.length : Int) + 1 - (i + 1)).toNat (i + 1)).length ≤ 4000000 ∧
      huntGo x.d.id (priceS x) b (rowP i ((x.legs.length : Int) + 1 - j).toNat j ++ pairsP ((x.legs.length : Int) + 1 - (i + 1)).toNat (i + 1)) ⟨d, p, q, c, f, st⟩ = R, fun _ _ j _ _ _ _ => ((x.legs.length : Int) + 1 - j).toNat, ⟨Int.le_refl _, by omega, t0, t1, hI⟩, fun st f j d p q c hJ => ⟨fun hj => ?_, fun hj => ?_⟩⟩
    · obtain ⟨j0, j1, u0, u1, hJ⟩ := hJ
      rw [rowP_next hj, List.cons_append] at hJ u1
      rw [List.length_cons] at u1
      rw [huntGo] at hJ
      have w1 : wrap (st + 1) = st + 1 := wrap_id (by omega) (by omega)
      have w2 : wrap (j + 1) = j + 1 := wrap_id (by omega) (by omega)
      rw [w1, w2]
      refine ⟨fun hb => ?_, fun hb => ⟨⟨hm, ⟨i0, j0⟩, by omega, hpre⟩, fun hok => ⟨fun hf => ⟨fun hc => ?_, fun hc => ?_⟩, fun hf => ?_⟩, fun hok => ?_⟩⟩
      · rw [if_pos (by dsimp only; exact hb)] at hJ
        subst hJ
        exact ⟨⟨rfl, rfl, rfl, rfl⟩, rfl, rfl⟩
      all_goals rw [if_neg (by dsimp only; omega)] at hJ
      · rw [huntStep, if_pos (by simp [hok, hc])] at hJ
        exact ⟨⟨by omega, by omega, by omega, by omega, hJ⟩, by dsimp only; omega⟩
      · rw [huntStep, if_neg (by simp [hok, hf]; omega)] at hJ
        exact ⟨⟨by omega, by omega, by omega, by omega, hJ⟩, by dsimp only; omega⟩
      · rw [huntStep, if_pos (by simp [hok, hf])] at hJ
        exact ⟨⟨by omega, by omega, by omega, by omega, hJ⟩, by dsimp only; omega⟩
      · rw [huntStep, if_neg (by simp [hok])] at hJ
        exact ⟨⟨by omega, by omega, by omega, by omega, hJ⟩, by dsimp only; omega⟩
    · obtain ⟨j0, j1, u0, u1, hJ⟩ := hJ
      have hz0 : ((x.legs.length : Int) + 1 - j).toNat = 0 := by omega
      rw [hz0, rowP, List.nil_append] at hJ u1
      have w2 : wrap (i + 1) = i + 1 := wrap_id (by omega) (by omega)
      rw [w2]
      exact ⟨⟨by omega, u0, u1, hJ⟩, by dsimp only; omega⟩
  · obtain ⟨i0, t0, t1, hI⟩ := hI
    have hz0 : ((x.legs.length : Int) + 1 - i).toNat = 0 := by omega
    rw [hz0, pairsP, huntGo] at hI
    subst hI
    exact ⟨⟨rfl, rfl, rfl, rfl⟩, rfl, rfl⟩
theorem sbest_t : Told Try.prog 32 sbest_con := sbest_told (csOk_cons price_t csOk_nil) sbest_ok
theorem preGo_length {m : MapD} {d : Driver} {os : List Order} : ∀ (l : List Stop) (s : State), (preGo m d os s l).length = l.length
  | [], _ => rfl
  | t :: l, s => by simp [preGo, preGo_length l]
theorem made_ok : made_vc := by
  unfold made_vc
  simp only [bad_false, int0, nilOf, decide_eq_true_eq, decide_eq_false_iff_not, Bool.not_eq_true', Bool.not_eq_false', Bool.not_true, Bool.not_false, Bool.false_eq_true, Bool.true_eq_false, eq_self, true_and, and_true, false_or, or_false, false_implies, true_implies, implies_true, Int.not_lt, Int.not_le, gt_iff_lt, ge_iff_le, ne_eq]
  intro m hml d os hos ss hss o hp
  obtain ⟨hm, hl⟩ := hp
  refine ⟨by simp, fun k L Q a b c e => 0 ≤ k ∧ k ≤ ss.length ∧ L = (ss.take k.toNat).map (legT os) ∧ Q.length = k.toNat + 1 ∧ Q ++ preGo m d os ⟨a, b, c, e⟩ (ss.drop k.toNat) = start d :: preGo m d os (start d) ss, fun k _ _ _ _ _ _ => ss.length - k.toNat,
    ⟨Int.le_refl _, by omega, rfl, rfl, rfl⟩, fun k L Q a b c e hI => ⟨fun hk => ?_, fun hk => ?_⟩⟩
  · obtain ⟨k0, k1, hL, hQ, hI⟩ := hI
    have w1 : wrap (k + 1) = k + 1 := wrap_id (by omega) (by omega)
    have hkl : k.toNat < ss.length := by omega
    have hLl : L.length = k.toNat := by rw [hL]; simp; omega
    have e1 : (k + 1).toNat = k.toNat + 1 := by omega
    have hdr : ss.drop k.toNat = ss.getD k.toNat (FK.zero .stop) :: ss.drop (k.toNat + 1) := by
      rw [List.drop_eq_getElem_cons hkl]; simp [List.getD, hkl]
    have htk : ss.take (k.toNat + 1) = ss.take k.toNat ++ [ss.getD k.toNat (FK.zero .stop)] := by
      rw [List.take_add_one]; simp [List.getD, hkl]
    rw [w1]
    rw [hdr, preGo] at hI
    refine ⟨⟨k0, hk⟩, hkl, hm, by rw [hLl]; simp; omega, by rw [hQ]; simp; omega, ⟨by omega, by omega, ?_, ?_, ?_⟩, ?_⟩
    all_goals try rw [e1]
    · rw [htk, List.map_append, hL]; rfl
    · simp [hQ]
    · rw [List.append_assoc]
      exact hI
    · dsimp only; omega
  · obtain ⟨k0, k1, hL, hQ, hI⟩ := hI
    have e1 : k.toNat = ss.length := by omega
    rw [e1, List.drop_length, preGo, List.append_nil] at hI
    rw [e1, List.take_length] at hL
    exact ⟨rfl, hI, hL⟩
theorem made_t : Told Try.prog 31 made_con := made_told (csOk_cons legOf_t (csOk_cons find_t (csOk_cons step_t csOk_nil))) made_ok
theorem asked_ok : asked_vc := by
  have key : ∀ (m : Option MapD) (os : List Order) (o : Order) (b : Int), (∀ x, m = some x → MapOk x) → (∀ x, m = some x → MapOk x) ∧ (orderE m o = 0 → ((findO os o.id).isSome = false → (0 ≤ b → decide (b ≤ 100000) = askedP m os o b) ∧ (b < 0 → false = askedP m os o b)) ∧ ((findO os o.id).isSome = true → false = askedP m os o b)) ∧ (¬ orderE m o = 0 → false = askedP m os o b) := by
    intro m os o b hm
    refine ⟨hm, fun h => ⟨fun h1 => ⟨fun h2 => ?_, fun h2 => ?_⟩, fun h1 => ?_⟩, fun h => ?_⟩
    · simp [askedP, h, h1, h2]
    · have : ¬ (0 ≤ b) := by omega
      simp [askedP, this]
    · simp [askedP, h1]
    · simp [askedP, h]
  unfold asked_vc
  simp only [bad_false, int0, nilOf, decide_eq_true_eq, decide_eq_false_iff_not, Bool.not_eq_true', Bool.not_eq_false', Bool.not_true, Bool.not_false, Bool.false_eq_true, Bool.true_eq_false, eq_self, true_and, and_true, false_or, or_false, false_implies, true_implies, implies_true, Int.not_lt, Int.not_le, gt_iff_lt, ge_iff_le, ne_eq]
  exact ⟨fun os _ o b hm => key none os o b hm, fun m _ os _ o b hm => key (some m) os o b hm⟩
theorem asked_t : Told Try.prog 29 asked_con := asked_told (csOk_cons find_t (csOk_cons order_t csOk_nil)) asked_ok
end Go.Eng

/- An order's place looked for on a route, in a plan. -/
set_option linter.unusedVariables false
set_option linter.unusedSimpArgs false
namespace Go.Eng
open Go Go.Proofs
theorem ibest_ok : ibest_vc := by
  have bad : ∀ (m : Option MapD) (d : Driver) (os : List Order) (r : Route) (o : Order) (b e : Int), barP m d os r o b = e → e ≠ 0 →
      (0 = (hspot (bestP m d os r o b).1).driver ∧ 0 = (hspot (bestP m d os r o b).1).pick ∧ 0 = (hspot (bestP m d os r o b).1).drop ∧ 0 = (hspot (bestP m d os r o b).1).cost) ∧ 0 = (bestP m d os r o b).1.steps ∧ e = (bestP m d os r o b).2 := by
    intro m d os r o b e h he
    have : bestP m d os r o b = (hz, e) := by unfold bestP; rw [if_pos (by rw [h]; exact he), h]
    rw [this]
    exact ⟨⟨rfl, rfl, rfl, rfl⟩, rfl, rfl⟩
  unfold ibest_vc
  simp only [bad_false, int0, nilOf, decide_eq_true_eq, decide_eq_false_iff_not, Bool.not_eq_true', Bool.not_eq_false', Bool.not_true, Bool.not_false, Bool.false_eq_true, Bool.true_eq_false, eq_self, true_and, and_true, false_or, or_false, false_implies, true_implies, implies_true, Int.not_lt, Int.not_le, gt_iff_lt, ge_iff_le, ne_eq]
  refine ⟨fun d os _ r _ o b hm => ⟨hm, fun ha => ⟨fun hd => ⟨fun hs => ⟨fun hl => bad _ _ _ _ _ _ 1 ?_ (by decide), fun hl => ⟨hm, fun hg => bad _ _ _ _ _ _ 1 ?_ (by decide), fun hg => ⟨fun hr => bad _ _ _ _ _ _ 23 ?_ (by decide), fun hr => ⟨fun h78 => bad _ _ _ _ _ _ 10 ?_ (by decide), fun h78 => ?_⟩⟩⟩⟩, fun hs => bad _ _ _ _ _ _ 1 ?_ (by decide)⟩, fun hd => bad _ _ _ _ _ _ 1 ?_ (by decide)⟩, fun ha => bad _ _ _ _ _ _ 1 ?_ (by decide)⟩,
    fun x _ d os _ r _ o b hm => ⟨hm, fun ha => ⟨fun hd => ⟨fun hs => ⟨fun hl => bad _ _ _ _ _ _ 1 ?_ (by decide), fun hl => ⟨hm, fun hg => bad _ _ _ _ _ _ 1 ?_ (by decide), fun hg => ⟨fun hr => bad _ _ _ _ _ _ 23 ?_ (by decide), fun hr => ⟨fun h78 => bad _ _ _ _ _ _ 10 ?_ (by decide), fun h78 => ?_⟩⟩⟩⟩, fun hs => bad _ _ _ _ _ _ 1 ?_ (by decide)⟩, fun hd => bad _ _ _ _ _ _ 1 ?_ (by decide)⟩, fun ha => bad _ _ _ _ _ _ 1 ?_ (by decide)⟩⟩
  · unfold barP; simp [hl]
  · unfold barP; simp [hg]
  · unfold barP; simp [ha, hd, Int.not_lt.2 hs, Int.not_lt.2 hl, hg, hr]
  · unfold barP; simp [ha, hd, Int.not_lt.2 hs, Int.not_lt.2 hl, hg, hr, h78]
  · simp [drive, fauR, good] at hg
  · unfold barP; simp [hs]
  · unfold barP; simp [hd]
  · unfold barP; simp [ha]
  · unfold barP; simp [hl]
  · unfold barP; simp [hg]
  · unfold barP; simp [ha, hd, Int.not_lt.2 hs, Int.not_lt.2 hl, hg, hr]
  · unfold barP; simp [ha, hd, Int.not_lt.2 hs, Int.not_lt.2 hl, hg, hr, h78]
  · have h0 : barP (some x) d os r o b = 0 := by unfold barP; simp [ha, hd, Int.not_lt.2 hs, Int.not_lt.2 hl, hg, hr, Int.not_lt.2 h78]
    have e : bestP (some x) d os r o b = tellH (bestS (mkS x d os r.stops o) r.served b) := by unfold bestP; rw [if_neg (by rw [h0]; decide)]
    rw [e]
    have hmo := hm x rfl
    refine ⟨⟨hmo, by omega⟩, ⟨hmo, hs, ?_, ?_⟩, fun hf => ?_, fun hf => ?_⟩
    · show (r.stops.map (legT os)).length ≤ 1000
      rw [List.length_map]; omega
    · show (start d :: preGo x d os (start d) r.stops).length = (r.stops.map (legT os)).length + 1
      rw [List.length_map, List.length_cons, preGo_length]
    · have hf : (bestS (mkS x d os r.stops o) r.served b).found = false := hf
      unfold tellH
      rw [if_neg (by rw [hf]; decide)]
      exact ⟨⟨rfl, rfl, rfl, rfl⟩, rfl, rfl⟩
    · have hf : (bestS (mkS x d os r.stops o) r.served b).found = true := hf
      unfold tellH
      rw [if_pos hf]
      exact ⟨⟨rfl, rfl, rfl, rfl⟩, rfl, rfl⟩
  · unfold barP; simp [hs]
  · unfold barP; simp [hd]
  · unfold barP; simp [ha]
theorem ibest_t : Told Try.prog 13 ibest_con := ibest_told (csOk_cons asked_t (csOk_cons drive_t (csOk_cons goodF_t (csOk_cons made_t (csOk_cons sbest_t csOk_nil))))) ibest_ok
theorem huntStep_steps {id : Int} {pr : Int → Int → Int × Bool} {h : Hunt} {p : Int × Int} : (huntStep id pr h p).steps = h.steps + 1 := by unfold huntStep; split <;> rfl
theorem huntGo_steps {id b : Int} {pr : Int → Int → Int × Bool} : ∀ (L : List (Int × Int)) (h : Hunt), h.steps ≤ (huntGo id pr b L h).steps ∧ (huntGo id pr b L h).steps ≤ h.steps + L.length
  | [], h => ⟨Int.le_refl _, by simp [huntGo]⟩
  | p :: l, h => by
    rw [huntGo]
    split
    · exact ⟨Int.le_refl _, by simp only [List.length_cons]; omega⟩
    · have := huntGo_steps (id := id) (b := b) (pr := pr) l (huntStep id pr h p)
      rw [huntStep_steps] at this
      simp only [List.length_cons]
      omega
theorem places_length {s : Int} {n : Nat} (hs : 0 ≤ s) (hn : n ≤ 78) : (places_ s n).length ≤ 6241 := by
  refine Nat.le_trans (pairsP_length _ _) ?_
  have : ((n : Int) + 1 - s).toNat ≤ 79 := by omega
  exact Nat.le_trans (Nat.mul_le_mul this this) (by decide)
theorem mkS_legs {m : MapD} {d : Driver} {os : List Order} {ss : List Stop} {o : Order} : (mkS m d os ss o).legs.length = ss.length := by simp [mkS]
theorem mkS_pre {m : MapD} {d : Driver} {os : List Order} {ss : List Stop} {o : Order} : (mkS m d os ss o).pre.length = ss.length + 1 := by simp [mkS, preGo_length]
theorem drop_at {α : Type} (d : α) {l : List α} {k : Nat} (hk : k < l.length) : l.drop k = l.getD k d :: l.drop (k + 1) := by
  rw [List.drop_eq_getElem_cons hk]; simp [List.getD, hk]
theorem tell_yes {h : Hunt} (hf : h.found = true) : tellH h = (h, 0) := by unfold tellH; rw [if_pos hf]
theorem tell_no {h : Hunt} (hf : h.found = false) : tellH h = (⟨0, 0, 0, 0, false, h.steps⟩, 20) := by unfold tellH; rw [if_neg (by rw [hf]; decide)]
theorem look_ok : look_vc := by
  unfold look_vc
  simp only [bad_false, int0, nilOf, decide_eq_true_eq, decide_eq_false_iff_not, Bool.not_eq_true', Bool.not_eq_false', Bool.not_true, Bool.not_false, Bool.false_eq_true, Bool.true_eq_false, eq_self, true_and, and_true, false_or, or_false, false_implies, true_implies, implies_true, Int.not_lt, Int.not_le, gt_iff_lt, ge_iff_le, ne_eq]
  refine ⟨fun ds _ os _ p _ o b hp => (by have := hp.is; cases this), fun x _ ds _ os _ p hpl o b hp => ?_⟩
  have hm := hp.map x rfl
  have hb := hp.b
  have hn := hp.few
  have hR : lookP (some x) ds os p o b = lookGo x ds os o b p hz := rfl
  generalize lookP (some x) ds os p o b = R at *
  let INV : Int → Bool → Int → Int → Int → Int → Int → Prop := fun st f k d q r c => 0 ≤ k ∧ k ≤ p.length ∧ 0 ≤ st ∧ st ≤ 6241 * k ∧ lookGo x ds os o b (p.drop k.toNat) ⟨d, q, r, c, f, st⟩ = R
  have stp : ∀ (st : Int) (f : Bool) (k d q r c : Int) (G : Hunt), 0 ≤ k → k < p.length → 0 ≤ st → st ≤ 6241 * k → 0 ≤ G.steps → G.steps ≤ 6241 → lookGo x ds os o b (p.drop (k.toNat + 1)) (huntJoin ⟨d, q, r, c, f, st⟩ G) = R →
      (G.found = true → (f = true → (G.cost < c → INV (wrap (st + G.steps)) true (wrap (k + 1)) G.driver G.pick G.drop G.cost ∧ p.length - (wrap (k + 1)).toNat < p.length - k.toNat) ∧ (c ≤ G.cost → INV (wrap (st + G.steps)) f (wrap (k + 1)) d q r c ∧ p.length - (wrap (k + 1)).toNat < p.length - k.toNat)) ∧
        (f = false → INV (wrap (st + G.steps)) true (wrap (k + 1)) G.driver G.pick G.drop G.cost ∧ p.length - (wrap (k + 1)).toNat < p.length - k.toNat)) ∧
      (G.found = false → INV (wrap (st + G.steps)) f (wrap (k + 1)) d q r c ∧ p.length - (wrap (k + 1)).toNat < p.length - k.toNat) := by
    intro st f k d q r c G k0 k1 t0 t1 g0 g1 h
    have w1 : wrap (k + 1) = k + 1 := wrap_id (by omega) (by omega)
    have w2 : wrap (st + G.steps) = st + G.steps := wrap_id (by omega) (by omega)
    have e1 : (k + 1).toNat = k.toNat + 1 := by omega
    rw [w1, w2]
    refine ⟨fun hf => ⟨fun hf2 => ⟨fun hc => ⟨⟨by omega, by omega, by omega, by omega, ?_⟩, by omega⟩, fun hc => ⟨⟨by omega, by omega, by omega, by omega, ?_⟩, by omega⟩⟩, fun hf2 => ⟨⟨by omega, by omega, by omega, by omega, ?_⟩, by omega⟩⟩, fun hf => ⟨⟨by omega, by omega, by omega, by omega, ?_⟩, by omega⟩⟩
    · rw [huntJoin, if_pos (by simp [hf, hc])] at h
      rw [e1]; exact h
    · rw [huntJoin, if_neg (by simp [hf, hf2]; omega)] at h
      rw [e1]; exact h
    · rw [huntJoin, if_pos (by simp [hf, hf2])] at h
      rw [e1]; exact h
    · rw [huntJoin, if_neg (by simp [hf])] at h
      rw [e1]; exact h
  refine ⟨INV, fun _ _ k _ _ _ _ => p.length - k.toNat, ⟨Int.le_refl _, by omega, Int.le_refl _, by omega, hR.symm⟩, fun st f k d q r c hI => ⟨fun hk => ?_, fun hk => ?_⟩⟩
  · obtain ⟨k0, k1, t0, t1, hI⟩ := hI
    have hkl : k.toNat < p.length := by omega
    have w1 : wrap (k + 1) = k + 1 := wrap_id (by omega) (by omega)
    have e1 : (k + 1).toNat = k.toNat + 1 := by omega
    rw [drop_at (⟨0, 0, []⟩ : Route) hkl, lookGo] at hI
    have hsv := hp.served _ (getD_mem (⟨0, 0, []⟩ : Route) hkl)
    generalize p.getD k.toNat ⟨0, 0, []⟩ = r' at *
    have skip : closedTo (fdD ds r'.driver) r' = true → INV st f (wrap (k + 1)) d q r c ∧ p.length - (wrap (k + 1)).toNat < p.length - k.toNat := by
      intro hc
      rw [if_pos hc] at hI
      rw [w1]
      exact ⟨⟨by omega, by omega, t0, by omega, by rw [e1]; exact hI⟩, by omega⟩
    refine ⟨⟨k0, hk⟩, hkl, fun hr => ⟨fun h78 => skip (by simp [closedTo, h78]), fun h78 => ?_⟩, fun hr => skip ?_⟩
    · have hnc : ¬ closedTo (fdD ds r'.driver) r' = true := by
        have : (fdD ds r'.driver).retired = false := hr
        simp [closedTo, this, Int.not_lt.2 h78]
      rw [if_neg hnc] at hI
      have wb : wrap (b - st) = b - st := wrap_id (by omega) (by omega)
      rw [wb]
      have hst := huntGo_steps (id := (fdD ds r'.driver).id) (b := b - st) (pr := priceS (mkS x (fdD ds r'.driver) os r'.stops o)) (places_ r'.served (mkS x (fdD ds r'.driver) os r'.stops o).legs.length) hz
      have hpl := places_length (s := r'.served) (n := (mkS x (fdD ds r'.driver) os r'.stops o).legs.length) hsv (by rw [mkS_legs]; omega)
      have hz0 : hz.steps = 0 := rfl
      refine ⟨⟨hm, by omega⟩, ⟨hm, hsv, ?_, ?_⟩, stp st f k d q r c (bestS (mkS x (fdD ds r'.driver) os r'.stops o) r'.served (b - st)) k0 hk t0 t1 ?_ ?_ hI⟩
      · show (mkS x (fdD ds r'.driver) os r'.stops o).legs.length ≤ 1000
        rw [mkS_legs]; omega
      · show (mkS x (fdD ds r'.driver) os r'.stops o).pre.length = (mkS x (fdD ds r'.driver) os r'.stops o).legs.length + 1
        rw [mkS_legs, mkS_pre]
      · unfold bestS
        rw [show (mkS x (fdD ds r'.driver) os r'.stops o).d = fdD ds r'.driver from rfl]
        omega
      · unfold bestS
        rw [show (mkS x (fdD ds r'.driver) os r'.stops o).d = fdD ds r'.driver from rfl]
        omega
    · have : (fdD ds r'.driver).retired = true := hr
      simp [closedTo, this]
  · obtain ⟨k0, k1, t0, t1, hI⟩ := hI
    have e1 : k.toNat = p.length := by omega
    rw [e1, List.drop_length, lookGo] at hI
    subst hI
    refine ⟨fun hf => ?_, fun hf => ?_⟩
    · rw [tell_no hf]; exact ⟨⟨rfl, rfl, rfl, rfl⟩, rfl, rfl⟩
    · rw [tell_yes hf]; exact ⟨⟨rfl, rfl, rfl, rfl⟩, rfl, rfl⟩
theorem look_t : Told Try.prog 35 look_con := look_told (csOk_cons cdriver_t (csOk_cons made_t (csOk_cons sbest_t csOk_nil))) look_ok
/-- A plan with a certificate is a right one. -/
theorem good_make {m : Option MapD} {ds : List Driver} {os : List Order} {p : List Route} (h : good (cfauR (makeP m ds os p)) = true) : ∃ x, m = some x ∧ wellP (some x) ds os p = true ∧ good (cfauR (makeGo x ds os 0 p)) = true := by
  cases m with
  | none => simp [makeP, cfauR, good] at h
  | some x =>
    by_cases hw : wellP (some x) ds os p = true
    · refine ⟨x, rfl, hw, ?_⟩
      rw [show makeP (some x) ds os p = makeGo x ds os 0 p by simp [makeP, hw]] at h
      exact h
    · rw [show makeP (some x) ds os p = .error ⟨0, 1⟩ by simp [makeP, hw]] at h
      simp [cfauR, good] at h
theorem asked_iff {m : Option MapD} {os : List Order} {o : Order} {b : Int} : askedP m os o b = true ↔ orderE m o = 0 ∧ (findO os o.id).isSome = false ∧ 0 ≤ b ∧ b ≤ 100000 := by
  simp [askedP, and_assoc]
theorem cheap_ok : cheap_vc := by
  have key : ∀ (m : Option MapD) (ds : List Driver) (os : List Order) (p : List Route) (o : Order) (b : Int), (∀ x, m = some x → MapOk x) →
      (∀ x, m = some x → MapOk x) ∧
      (good (cfauR (makeP m ds os p)) = true → (∀ x, m = some x → MapOk x) ∧ (askedP m os o b = false → (0 = (hspot (cheapP m ds os p o b).1).driver ∧ 0 = (hspot (cheapP m ds os p o b).1).pick ∧ 0 = (hspot (cheapP m ds os p o b).1).drop ∧ 0 = (hspot (cheapP m ds os p o b).1).cost) ∧ 0 = (cheapP m ds os p o b).1.steps ∧ 1 = (cheapP m ds os p o b).2) ∧
        (askedP m os o b = true → LookPre m p b ∧ ((hspot (tellH (lookP m ds os p o b)).1).driver = (hspot (cheapP m ds os p o b).1).driver ∧ (hspot (tellH (lookP m ds os p o b)).1).pick = (hspot (cheapP m ds os p o b).1).pick ∧ (hspot (tellH (lookP m ds os p o b)).1).drop = (hspot (cheapP m ds os p o b).1).drop ∧ (hspot (tellH (lookP m ds os p o b)).1).cost = (hspot (cheapP m ds os p o b).1).cost) ∧
          (tellH (lookP m ds os p o b)).1.steps = (cheapP m ds os p o b).1.steps ∧ (tellH (lookP m ds os p o b)).2 = (cheapP m ds os p o b).2)) ∧
      (good (cfauR (makeP m ds os p)) = false → (0 = (hspot (cheapP m ds os p o b).1).driver ∧ 0 = (hspot (cheapP m ds os p o b).1).pick ∧ 0 = (hspot (cheapP m ds os p o b).1).drop ∧ 0 = (hspot (cheapP m ds os p o b).1).cost) ∧ 0 = (cheapP m ds os p o b).1.steps ∧ 1 = (cheapP m ds os p o b).2) := by
    intro m ds os p o b hm
    refine ⟨hm, fun hg => ⟨hm, fun ha => ?_, fun ha => ?_⟩, fun hg => ?_⟩
    · have : cheapP m ds os p o b = (hz, 1) := by simp [cheapP, ha]
      rw [this]; exact ⟨⟨rfl, rfl, rfl, rfl⟩, rfl, rfl⟩
    · have : cheapP m ds os p o b = tellH (lookP m ds os p o b) := by simp [cheapP, ha, hg]
      rw [this]
      obtain ⟨x, rfl, hw, _⟩ := good_make hg
      have hR := rightP_iff.1 (wellP_iff.1 hw).2.2.2.1
      have hb := asked_iff.1 ha
      have h8 := hR.1
      refine ⟨⟨rfl, hm, hb.2.2, by omega, fun r hr => ?_⟩, ⟨rfl, rfl, rfl, rfl⟩, rfl, rfl⟩
      exact (okR_mem hR.2 r hr).2.2.2.1
    · have : cheapP m ds os p o b = (hz, 1) := by simp [cheapP, hg]
      rw [this]; exact ⟨⟨rfl, rfl, rfl, rfl⟩, rfl, rfl⟩
  unfold cheap_vc
  simp only [bad_false, int0, nilOf, decide_eq_true_eq, decide_eq_false_iff_not, Bool.not_eq_true', Bool.not_eq_false', Bool.not_true, Bool.not_false, Bool.false_eq_true, Bool.true_eq_false, eq_self, true_and, and_true, false_or, or_false, false_implies, true_implies, implies_true, Int.not_lt, Int.not_le, gt_iff_lt, ge_iff_le, ne_eq]
  exact ⟨fun ds _ os _ p _ o b hm => key none ds os p o b hm, fun x _ ds _ os _ p _ o b hm => key (some x) ds os p o b hm⟩
theorem cheap_t : Told Try.prog 17 cheap_con := cheap_told (csOk_cons cmake_t (csOk_cons goodF_t (csOk_cons asked_t (csOk_cons look_t csOk_nil)))) cheap_ok
end Go.Eng

/- Orders that are known have each their own number; what a driver holds. -/
set_option linter.unusedVariables false
set_option linter.unusedSimpArgs false
namespace Go.Eng
open Go Go.Proofs
def Apart (os : List Order) : Prop := os.Pairwise fun a b => a.id ≠ b.id
theorem known_iff {m : Option MapD} {os : List Order} : knownO m os = true ↔ os.length ≤ 40 ∧ (∀ o ∈ os, orderE m o = 0) ∧ Apart os := by
  constructor
  · intro h
    obtain ⟨h1, h2⟩ := known_at h
    refine ⟨h1, fun o ho => ?_, List.pairwise_iff_getElem.2 fun i j hi hj hij => ?_⟩
    · obtain ⟨k, hk, rfl⟩ := List.getElem_of_mem ho
      have := (h2 k hk).1
      rwa [getD_of hk] at this
    · have := (h2 j hj).2
      rw [getD_of hj] at this
      simp only [idFree, List.all_eq_true, Bool.not_eq_true', decide_eq_false_iff_not] at this
      exact this _ (List.mem_take_iff_getElem.2 ⟨i, by omega, rfl⟩)
  · rintro ⟨h1, h2, h3⟩
    simp only [knownO, okAt, Bool.and_eq_true, decide_eq_true_eq, List.all_eq_true, List.mem_range]
    refine ⟨h1, fun k hk => ?_⟩
    rw [getD_of hk]
    refine ⟨h2 _ (List.getElem_mem _), ?_⟩
    simp only [idFree, List.all_eq_true, Bool.not_eq_true', decide_eq_false_iff_not]
    intro p hp
    obtain ⟨i, hi, rfl⟩ := List.mem_take_iff_getElem.1 hp
    exact List.pairwise_iff_getElem.1 h3 i k (by omega) hk (by omega)
end Go.Eng

/- An order's place looked for: the document's own answer. -/
set_option linter.unusedVariables false
set_option linter.unusedSimpArgs false
namespace Go.Eng
open Go Go.Proofs
theorem ralong_ok : ralong_vc := by
  unfold ralong_vc
  simp only [bad_false, int0, nilOf, decide_eq_true_eq, decide_eq_false_iff_not, Bool.not_eq_true', Bool.not_eq_false', Bool.not_true, Bool.not_false, Bool.false_eq_true, Bool.true_eq_false, eq_self, true_and, and_true, false_or, or_false, false_implies, true_implies, implies_true, Int.not_lt, Int.not_le, gt_iff_lt, ge_iff_le, ne_eq]
  intro x _ d os hos r hr o b h hp
  obtain ⟨hm, ho, s0, hl, t0, t1⟩ := hp
  have hmo : ∀ y, some x = some y → MapOk y := fun y hy => by injection hy with hy; subst hy; exact hm
  have hR : alongP x d os r o b h = huntGo d.id (alongPr x d os r.stops o) b (pairsP ((r.stops.length : Int) + 1 - r.served).toNat r.served) h := rfl
  generalize alongP x d os r o b h = R at *
  have hlen0 : (pairsP ((r.stops.length : Int) + 1 - r.served).toNat r.served).length ≤ 1001 * 1001 := by
    refine Nat.le_trans (pairsP_length _ _) (Nat.mul_le_mul ?_ ?_) <;> omega
  refine ⟨hmo, by omega, by simp; omega, fun i d' p q c f st => 0 ≤ i ∧ 0 ≤ st ∧ st + (pairsP ((r.stops.length : Int) + 1 - i).toNat i).length ≤ 400000000 ∧ huntGo d.id (alongPr x d os r.stops o) b (pairsP ((r.stops.length : Int) + 1 - i).toNat i) ⟨d', p, q, c, f, st⟩ = R, fun i _ _ _ _ _ _ => ((r.stops.length : Int) + 1 - i).toNat, ⟨s0, t0, by omega, hR.symm⟩, fun i d' p q c f st hI => ⟨fun hi => ?_, fun hi => ?_⟩⟩
  · obtain ⟨i0, t0, t1, hI⟩ := hI
    rw [pairsP_next hi] at hI t1
    refine ⟨fun j d' p q c f st => i ≤ j ∧ j ≤ (r.stops.length : Int) + 1 ∧ 0 ≤ st ∧ st + (rowP i ((r.stops.length : Int) + 1 - j).toNat j ++ pairsP ((r.stops.length : Int) + 1 - (i + 1)).toNat (i + 1)).length ≤ 400000000 ∧
      huntGo d.id (alongPr x d os r.stops o) b (rowP i ((r.stops.length : Int) + 1 - j).toNat j ++ pairsP ((r.stops.length : Int) + 1 - (i + 1)).toNat (i + 1)) ⟨d', p, q, c, f, st⟩ = R, fun j _ _ _ _ _ _ => ((r.stops.length : Int) + 1 - j).toNat, ⟨Int.le_refl _, by omega, t0, t1, hI⟩, fun j d' p q c f st hJ => ⟨fun hj => ?_, fun hj => ?_⟩⟩
    · obtain ⟨j0, j1, u0, u1, hJ⟩ := hJ
      rw [rowP_next hj, List.cons_append] at hJ u1
      rw [List.length_cons] at u1
      rw [huntGo] at hJ
      have w1 : wrap (st + 1) = st + 1 := wrap_id (by omega) (by omega)
      have w2 : wrap (j + 1) = j + 1 := wrap_id (by omega) (by omega)
      rw [w1, w2]
      refine ⟨fun hb => ?_, fun hb => ⟨⟨by omega, putOk_iff.2 ⟨i0, j0, by omega⟩⟩, hmo, fun hok => ⟨fun hf => ⟨fun hc => ?_, fun hc => ?_⟩, fun hf => ?_⟩, fun hok => ?_⟩⟩
      · rw [if_pos (by dsimp only; exact hb)] at hJ
        subst hJ
        exact ⟨rfl, rfl, rfl, rfl, rfl, rfl⟩
      all_goals rw [if_neg (by dsimp only; omega)] at hJ
      · have hok : (alongPr x d os r.stops o i j).2 = true := hok
        have hc : (alongPr x d os r.stops o i j).1 < c := hc
        rw [huntStep, if_pos (by simp [hok, hc])] at hJ
        exact ⟨⟨by omega, by omega, by omega, by omega, hJ⟩, by dsimp only; omega⟩
      · have hok : (alongPr x d os r.stops o i j).2 = true := hok
        have hc : c ≤ (alongPr x d os r.stops o i j).1 := hc
        rw [huntStep, if_neg (by simp [hok, hf]; omega)] at hJ
        exact ⟨⟨by omega, by omega, by omega, by omega, hJ⟩, by dsimp only; omega⟩
      · have hok : (alongPr x d os r.stops o i j).2 = true := hok
        rw [huntStep, if_pos (by simp [hok, hf])] at hJ
        exact ⟨⟨by omega, by omega, by omega, by omega, hJ⟩, by dsimp only; omega⟩
      · have hok : (alongPr x d os r.stops o i j).2 = false := hok
        rw [huntStep, if_neg (by simp [hok])] at hJ
        exact ⟨⟨by omega, by omega, by omega, by omega, hJ⟩, by dsimp only; omega⟩
    · obtain ⟨j0, j1, u0, u1, hJ⟩ := hJ
      have hz0 : ((r.stops.length : Int) + 1 - j).toNat = 0 := by omega
      rw [hz0, rowP, List.nil_append] at hJ u1
      have w2 : wrap (i + 1) = i + 1 := wrap_id (by omega) (by omega)
      rw [w2]
      exact ⟨⟨by omega, u0, u1, hJ⟩, by dsimp only; omega⟩
  · obtain ⟨i0, t0, t1, hI⟩ := hI
    have hz0 : ((r.stops.length : Int) + 1 - i).toNat = 0 := by omega
    rw [hz0, pairsP, huntGo] at hI
    subst hI
    exact ⟨rfl, rfl, rfl, rfl, rfl, rfl⟩
theorem ralong_t : Told Try.prog 48 ralong_con := ralong_told (csOk_cons rCost_t (csOk_cons rSput_t csOk_nil)) ralong_ok
theorem rtold_ok : rtold_vc := by
  unfold rtold_vc
  simp only [bad_false, int0, nilOf, decide_eq_true_eq, decide_eq_false_iff_not, Bool.not_eq_true', Bool.not_eq_false', Bool.not_true, Bool.not_false, Bool.false_eq_true, Bool.true_eq_false, eq_self, true_and, and_true, false_or, or_false, false_implies, true_implies, implies_true, Int.not_lt, Int.not_le, gt_iff_lt, ge_iff_le, ne_eq]
  intro h
  exact ⟨fun hf => by rw [tell_no hf]; exact ⟨⟨rfl, rfl, rfl, rfl⟩, rfl, rfl⟩, fun hf => by rw [tell_yes hf]; exact ⟨⟨rfl, rfl, rfl, rfl⟩, rfl, rfl⟩⟩
theorem rtold_t : Told Try.prog 47 rtold_con := rtold_told csOk_nil rtold_ok
theorem ixO_sign : ∀ (os : List Order) (id k : Int), 0 ≤ k → (0 ≤ ixO os id k → (findO os id).isSome = true) ∧ (ixO os id k < 0 → (findO os id).isSome = false)
  | [], id, k, _ => by simp [ixO, findO]
  | o :: l, id, k, hk => by
    rw [ixO, findO]
    by_cases h : o.id = id
    · rw [if_pos h, if_pos h]; exact ⟨fun _ => rfl, fun q => by omega⟩
    · rw [if_neg h, if_neg h]; exact ixO_sign l id (k + 1) (by omega)
theorem rbest_ok : rbest_vc := by
  have bad : ∀ (m : Option MapD) (d : Driver) (os : List Order) (r : Route) (o : Order) (b e : Int), barP m d os r o b = e → e ≠ 0 →
      (0 = (hspot (rBestP m d os r o b).1).driver ∧ 0 = (hspot (rBestP m d os r o b).1).pick ∧ 0 = (hspot (rBestP m d os r o b).1).drop ∧ 0 = (hspot (rBestP m d os r o b).1).cost) ∧ 0 = (rBestP m d os r o b).1.steps ∧ e = (rBestP m d os r o b).2 := by
    intro m d os r o b e h he
    have : rBestP m d os r o b = (hz, e) := by unfold rBestP; rw [if_pos (by rw [h]; exact he), h]
    rw [this]
    exact ⟨⟨rfl, rfl, rfl, rfl⟩, rfl, rfl⟩
  have nog : ∀ (m : Option MapD) (d : Driver) (os : List Order) (r : Route) (o : Order) (b : Int), good (fauR (drive m d os r.stops)) = false → barP m d os r o b = 1 := by
    intro m d os r o b h
    unfold barP; simp [h]
  have noa : ∀ (m : Option MapD) (d : Driver) (os : List Order) (r : Route) (o : Order) (b : Int), askedP m os o b = false → barP m d os r o b = 1 := by
    intro m d os r o b h
    unfold barP; simp [h]
  have nf : ∀ (x : MapD) (d : Driver) (os : List Order) (r : Route), fitB (some x) d os r.stops = false → good (fauR (drive (some x) d os r.stops)) = false := by
    intro x d os r h
    unfold drive; dsimp only; rw [if_neg (by rw [h]; decide)]; rfl
  unfold rbest_vc
  simp only [bad_false, int0, nilOf, decide_eq_true_eq, decide_eq_false_iff_not, Bool.not_eq_true', Bool.not_eq_false', Bool.not_true, Bool.not_false, Bool.false_eq_true, Bool.true_eq_false, eq_self, true_and, and_true, false_or, or_false, false_implies, true_implies, implies_true, Int.not_lt, Int.not_le, gt_iff_lt, ge_iff_le, ne_eq]
  refine ⟨fun d os _ r _ o b hm => bad _ _ _ _ _ _ 1 (nog _ _ _ _ _ _ rfl) (by decide), fun x _ d os _ r _ o b hm => ⟨fun hd => ⟨fun ho => ⟨fun hk => ⟨fun hx => ⟨fun hrd => ⟨fun hs => ⟨fun hl => ⟨fun hb => ⟨fun hb2 => bad _ _ _ _ _ _ 1 (noa _ _ _ _ _ _ ?_) (by decide), fun hb2 => ⟨hm, fun hw => bad _ _ _ _ _ _ 1 (nog _ _ _ _ _ _ ?_) (by decide), fun hw => ⟨fun hr => bad _ _ _ _ _ _ 23 ?_ (by decide), fun hr => ⟨fun h78 => bad _ _ _ _ _ _ 10 ?_ (by decide), fun h78 => ?_⟩⟩⟩⟩, fun hb => bad _ _ _ _ _ _ 1 (noa _ _ _ _ _ _ ?_) (by decide)⟩, fun hl => bad _ _ _ _ _ _ 1 ?_ (by decide)⟩, fun hs => bad _ _ _ _ _ _ 1 ?_ (by decide)⟩, fun hrd => bad _ _ _ _ _ _ 1 ?_ (by decide)⟩, fun hx => bad _ _ _ _ _ _ 1 (noa _ _ _ _ _ _ ?_) (by decide)⟩, fun hk => bad _ _ _ _ _ _ 1 (nog _ _ _ _ _ _ (nf _ _ _ _ ?_)) (by decide)⟩, fun ho => bad _ _ _ _ _ _ 1 (noa _ _ _ _ _ _ ?_) (by decide)⟩, fun hd => bad _ _ _ _ _ _ 1 (nog _ _ _ _ _ _ (nf _ _ _ _ ?_)) (by decide)⟩⟩
  · simp [askedP]; omega
  · simp [good, hw]
  · have ha : askedP (some x) os o b = true := asked_iff.2 ⟨ho, (ixO_sign os o.id 0 (Int.le_refl _)).2 hx, hb, hb2⟩
    have hg : good (fauR (drive (some x) d os r.stops)) = true := by simp [good, hw]
    unfold barP; simp [ha, hrd, Int.not_lt.2 hs, Int.not_lt.2 hl, hg, hr]
  · have ha : askedP (some x) os o b = true := asked_iff.2 ⟨ho, (ixO_sign os o.id 0 (Int.le_refl _)).2 hx, hb, hb2⟩
    have hg : good (fauR (drive (some x) d os r.stops)) = true := by simp [good, hw]
    unfold barP; simp [ha, hrd, Int.not_lt.2 hs, Int.not_lt.2 hl, hg, hr, h78]
  · have ha : askedP (some x) os o b = true := asked_iff.2 ⟨ho, (ixO_sign os o.id 0 (Int.le_refl _)).2 hx, hb, hb2⟩
    have hg : good (fauR (drive (some x) d os r.stops)) = true := by simp [good, hw]
    have h0 : barP (some x) d os r o b = 0 := by unfold barP; simp [ha, hrd, Int.not_lt.2 hs, Int.not_lt.2 hl, hg, hr, Int.not_lt.2 h78]
    have e : rBestP (some x) d os r o b = tellH (alongP x d os r o b hz) := by unfold rBestP; rw [if_neg (by rw [h0]; decide)]
    rw [e]
    have hkn := (known_iff.1 hk).1
    exact ⟨⟨hm x rfl, by omega, hs, by omega, Int.le_refl _, by decide⟩, ⟨rfl, rfl, rfl, rfl⟩, rfl, rfl⟩
  · simp [askedP]; omega
  · unfold barP; simp [hl]
  · unfold barP; simp [hs]
  · unfold barP; simp [hrd]
  · simp [askedP, (ixO_sign os o.id 0 (Int.le_refl _)).1 hx]
  · simp [fitB, hk]
  · simp [askedP, ho]
  · simp [fitB, hd]
theorem rbest_t : Told Try.prog 24 rbest_con := rbest_told (csOk_cons rDriver_t (csOk_cons rOrder_t (csOk_cons rKnown_t (csOk_cons rFind_t (csOk_cons rDrive_t (csOk_cons ralong_t (csOk_cons rtold_t csOk_nil))))))) rbest_ok
end Go.Eng

/- A map of numbers that are known. -/
set_option linter.unusedVariables false
set_option linter.unusedSimpArgs false
namespace Go.Eng
open Go Go.Proofs
theorem newC_t : Told Try.prog 21 newC_con := by
  refine told_alt (ps := [.c .i, .c (.a (.f .int))]) new_t fun x _ => ⟨trivial, fun a ha h => ?_⟩
  obtain ⟨n, ts, _⟩ := x
  have ha : a = ⟨some (newE n ts ≠ 0), [.c .np, .c (.i (newE n ts))]⟩ ∨ a = ⟨some (newE n ts = 0), [.p true 101 [.i n, .o .int 3 ts], .c (.i 0)]⟩ := by
    have : a ∈ ([⟨some (newE n ts ≠ 0), [.c .np, .c (.i (newE n ts))]⟩, ⟨some (newE n ts = 0), [.p true 101 [.i n, .o .int 3 ts], .c (.i 0)]⟩] : List Alt) := ha
    simpa using this
  rcases ha with rfl | rfl
  · refine ⟨_, List.mem_singleton.2 rfl, ?_⟩
    have h : newE n ts ≠ 0 := h
    rw [decide_eq_false h]
    exact ⟨trivial, rfl⟩
  · refine ⟨_, List.mem_singleton.2 rfl, ?_⟩
    have h : newE n ts = 0 := h
    rw [decide_eq_true h]
    exact ⟨trivial, rfl⟩
theorem mapOkO_none : ∀ (x : MapD), none = some x → MapOk x := fun x h => by cases h
theorem mapOkO_some {n : Int} {ts : List Int} (h : newE n ts = 0) : ∀ (x : MapD), some ⟨n, ts⟩ = some x → MapOk x := fun x hx => by
  injection hx with hx
  subst hx
  exact newE_ok.1 h
end Go.Eng

/- What a drive says of stops that are cut off. -/
set_option linter.unusedVariables false
set_option linter.unusedSimpArgs false
namespace Go.Eng
open Go Go.Proofs
end Go.Eng

/- The statements of places looked for: what is told of them. -/
set_option linter.unusedVariables false
set_option linter.unusedSimpArgs false
namespace Go.Eng
open Go Go.Proofs
def isH (h : Hunt × Int) (s : Spot) (n e : Int) : Bool := decide (h.1.driver = s.driver ∧ h.1.pick = s.pick ∧ h.1.drop = s.drop ∧ h.1.cost = s.cost ∧ h.1.steps = n ∧ h.2 = e)
def lbest_con : Con := ⟨[.q .map tMap, .r (.f .driver), .c (.a (.f .order)), .r .route, .r (.f .order), .c .i, .r (.f .spot), .c .i, .c .i],
  fun m d os r o b s n e => ⟨some (MapOkO m), [⟨none, [.c (.b (isH (bestP m d os r o b) s n e))]⟩]⟩⟩
def lbest_cs : Cons := [(13, ibest_con)]
def lbest_la : List (Nat × LA) := []
def insertRuns_con : Con := yes_con
noncomputable def insertRuns_cs : Cons := [(21, newC_con), (22, lbest_con), (17, cheap_con)]
def insertRuns_la : List (Nat × LA) := []
def oneP (p : List Route) (at' : Int) : Route := if p.length = 0 then ⟨0, 0, []⟩ else p.getD (bwithin at' 0 (p.length - 1)).toNat ⟨0, 0, []⟩
def one_con' : Con := ⟨[.c (.a .route), .c .i], fun p at' => one [.r (SK.enc .route (oneP p at'))]⟩
def oneR_con : Con := one_con'
def oneR_cs : Cons := [(28, bWithin_con)]
def oneR_la : List (Nat × LA) := []
def insertBest_con : Con := ⟨[.r .world, .r (.f .order), .c .i, .c .i, .c .i], fun w o a d b => law (pA (.r (SK.enc .world w)) ∧ pA (.r (SK.enc (.f .order) o)) ∧ pA (.c (.i a)) ∧ pA (.c (.i d)) ∧ pA (.c (.i b)))⟩
noncomputable def insertBest_cs : Cons := [(10, maps_con), (23, kcopy_con), (11, oneR_con), (12, wDriver_con), (13, ibest_con), (24, rbest_con), (25, kroutes_con), (5, yes_con)]
def insertBest_la : List (Nat × LA) := [(2000007, ⟨[], [.frz 14]⟩)]
end Go.Eng

/- The conditions of functions, as print.. of the engine told them. -/
set_option linter.unusedVariables false
namespace Go.Eng
open Go Go.Proofs
def insertBest_vc : Prop :=
  ∀ (x : WorldD), (LenOk x.times.length ∧ LenOk x.drivers.length ∧ LenOk x.orders.length ∧ LenOk x.plan.length ∧ ∀ (r : Route), List.Mem r x.plan → LenOk r.stops.length) → ∀ (x_2 : Order) (x_3 x_4 x_5 : Int), Given (pA (AV.r (SK.world.enc x))
  ∧ pA (AV.r ((SK.f FK.order).enc x_2)) ∧ pA (AV.c (AC.i x_3)) ∧ pA (AV.c (AC.i x_4)) ∧ pA (AV.c (AC.i x_5))) → (newE x.n x.times ≠ (0 : Int) → ((!true) = true → false = true) ∧ ((!true) = false → (x.plan.length * (40 : Nat) ≤
  (140737488351232 : Nat) ∧ ∀ (r : Route), List.Mem r x.plan → r.stops.length * (16 : Nat) ≤ (140737488351232 : Nat)) ∧ (∀ (x : MapD), none = some x → MapOk x) ∧ (∀ (x : MapD), none = some x → MapOk x) ∧ ((decide ((hspot (bestP none (wdriver
  x x_4) x.orders (oneP x.plan x_3) x_2 x_5).fst).driver = (hspot (rBestP none (wdriver x x_4) x.orders (oneP x.plan x_3) x_2 x_5).fst).driver) && (decide ((hspot (bestP none (wdriver x x_4) x.orders (oneP x.plan x_3) x_2 x_5).fst).pick =
  (hspot (rBestP none (wdriver x x_4) x.orders (oneP x.plan x_3) x_2 x_5).fst).pick) && (decide ((hspot (bestP none (wdriver x x_4) x.orders (oneP x.plan x_3) x_2 x_5).fst).drop = (hspot (rBestP none (wdriver x x_4) x.orders (oneP x.plan x_3)
  x_2 x_5).fst).drop) && (decide ((hspot (bestP none (wdriver x x_4) x.orders (oneP x.plan x_3) x_2 x_5).fst).cost = (hspot (rBestP none (wdriver x x_4) x.orders (oneP x.plan x_3) x_2 x_5).fst).cost) && true)))) = true → (decide ((bestP none
  (wdriver x x_4) x.orders (oneP x.plan x_3) x_2 x_5).fst.steps = (rBestP none (wdriver x x_4) x.orders (oneP x.plan x_3) x_2 x_5).fst.steps) = true → (decide ((bestP none (wdriver x x_4) x.orders (oneP x.plan x_3) x_2 x_5).snd = (rBestP none
  (wdriver x x_4) x.orders (oneP x.plan x_3) x_2 x_5).snd) = true → (sameP x.plan x.plan = true → true = true) ∧ (sameP x.plan x.plan = !true → false = true)) ∧ (decide ((bestP none (wdriver x x_4) x.orders (oneP x.plan x_3) x_2 x_5).snd =
  (rBestP none (wdriver x x_4) x.orders (oneP x.plan x_3) x_2 x_5).snd) = !true → false = true)) ∧ (decide ((bestP none (wdriver x x_4) x.orders (oneP x.plan x_3) x_2 x_5).fst.steps = (rBestP none (wdriver x x_4) x.orders (oneP x.plan x_3)
  x_2 x_5).fst.steps) = !true → false = true)) ∧ ((decide ((hspot (bestP none (wdriver x x_4) x.orders (oneP x.plan x_3) x_2 x_5).fst).driver = (hspot (rBestP none (wdriver x x_4) x.orders (oneP x.plan x_3) x_2 x_5).fst).driver) && (decide
  ((hspot (bestP none (wdriver x x_4) x.orders (oneP x.plan x_3) x_2 x_5).fst).pick = (hspot (rBestP none (wdriver x x_4) x.orders (oneP x.plan x_3) x_2 x_5).fst).pick) && (decide ((hspot (bestP none (wdriver x x_4) x.orders (oneP x.plan x_3)
  x_2 x_5).fst).drop = (hspot (rBestP none (wdriver x x_4) x.orders (oneP x.plan x_3) x_2 x_5).fst).drop) && (decide ((hspot (bestP none (wdriver x x_4) x.orders (oneP x.plan x_3) x_2 x_5).fst).cost = (hspot (rBestP none (wdriver x x_4)
  x.orders (oneP x.plan x_3) x_2 x_5).fst).cost) && true)))) = !true → false = true))) ∧ (newE x.n x.times = (0 : Int) → ((!true) = true → false = true) ∧ ((!true) = false → (x.plan.length * (40 : Nat) ≤ (140737488351232 : Nat) ∧ ∀ (r :
  Route), List.Mem r x.plan → r.stops.length * (16 : Nat) ≤ (140737488351232 : Nat)) ∧ (∀ (x_9 : MapD), some (MapD.mk x.n x.times) = some x_9 → MapOk x_9) ∧ (∀ (x_9 : MapD), some (MapD.mk x.n x.times) = some x_9 → MapOk x_9) ∧ ((decide
  ((hspot (bestP (some (MapD.mk x.n x.times)) (wdriver x x_4) x.orders (oneP x.plan x_3) x_2 x_5).fst).driver = (hspot (rBestP (some (MapD.mk x.n x.times)) (wdriver x x_4) x.orders (oneP x.plan x_3) x_2 x_5).fst).driver) && (decide ((hspot
  (bestP (some (MapD.mk x.n x.times)) (wdriver x x_4) x.orders (oneP x.plan x_3) x_2 x_5).fst).pick = (hspot (rBestP (some (MapD.mk x.n x.times)) (wdriver x x_4) x.orders (oneP x.plan x_3) x_2 x_5).fst).pick) && (decide ((hspot (bestP (some
  (MapD.mk x.n x.times)) (wdriver x x_4) x.orders (oneP x.plan x_3) x_2 x_5).fst).drop = (hspot (rBestP (some (MapD.mk x.n x.times)) (wdriver x x_4) x.orders (oneP x.plan x_3) x_2 x_5).fst).drop) && (decide ((hspot (bestP (some (MapD.mk x.n
  x.times)) (wdriver x x_4) x.orders (oneP x.plan x_3) x_2 x_5).fst).cost = (hspot (rBestP (some (MapD.mk x.n x.times)) (wdriver x x_4) x.orders (oneP x.plan x_3) x_2 x_5).fst).cost) && true)))) = true → (decide ((bestP (some (MapD.mk x.n
  x.times)) (wdriver x x_4) x.orders (oneP x.plan x_3) x_2 x_5).fst.steps = (rBestP (some (MapD.mk x.n x.times)) (wdriver x x_4) x.orders (oneP x.plan x_3) x_2 x_5).fst.steps) = true → (decide ((bestP (some (MapD.mk x.n x.times)) (wdriver x
  x_4) x.orders (oneP x.plan x_3) x_2 x_5).snd = (rBestP (some (MapD.mk x.n x.times)) (wdriver x x_4) x.orders (oneP x.plan x_3) x_2 x_5).snd) = true → (sameP x.plan x.plan = true → true = true) ∧ (sameP x.plan x.plan = !true → false = true))
  ∧ (decide ((bestP (some (MapD.mk x.n x.times)) (wdriver x x_4) x.orders (oneP x.plan x_3) x_2 x_5).snd = (rBestP (some (MapD.mk x.n x.times)) (wdriver x x_4) x.orders (oneP x.plan x_3) x_2 x_5).snd) = !true → false = true)) ∧ (decide
  ((bestP (some (MapD.mk x.n x.times)) (wdriver x x_4) x.orders (oneP x.plan x_3) x_2 x_5).fst.steps = (rBestP (some (MapD.mk x.n x.times)) (wdriver x x_4) x.orders (oneP x.plan x_3) x_2 x_5).fst.steps) = !true → false = true)) ∧ ((decide
  ((hspot (bestP (some (MapD.mk x.n x.times)) (wdriver x x_4) x.orders (oneP x.plan x_3) x_2 x_5).fst).driver = (hspot (rBestP (some (MapD.mk x.n x.times)) (wdriver x x_4) x.orders (oneP x.plan x_3) x_2 x_5).fst).driver) && (decide ((hspot
  (bestP (some (MapD.mk x.n x.times)) (wdriver x x_4) x.orders (oneP x.plan x_3) x_2 x_5).fst).pick = (hspot (rBestP (some (MapD.mk x.n x.times)) (wdriver x x_4) x.orders (oneP x.plan x_3) x_2 x_5).fst).pick) && (decide ((hspot (bestP (some
  (MapD.mk x.n x.times)) (wdriver x x_4) x.orders (oneP x.plan x_3) x_2 x_5).fst).drop = (hspot (rBestP (some (MapD.mk x.n x.times)) (wdriver x x_4) x.orders (oneP x.plan x_3) x_2 x_5).fst).drop) && (decide ((hspot (bestP (some (MapD.mk x.n
  x.times)) (wdriver x x_4) x.orders (oneP x.plan x_3) x_2 x_5).fst).cost = (hspot (rBestP (some (MapD.mk x.n x.times)) (wdriver x x_4) x.orders (oneP x.plan x_3) x_2 x_5).fst).cost) && true)))) = !true → false = true)))
theorem insertBest_told (hc : CsOk Try.prog insertBest_cs) (h : insertBest_vc) : Told Try.prog 6 insertBest_con := told (A := insertBest_la) tabOk mixed hc Try.func6 (by kernel_rfl) (by kernel_rfl) h
end Go.Eng

/- The conditions of functions, as print.. of the engine told them. -/
set_option linter.unusedVariables false
namespace Go.Eng
open Go Go.Proofs
def insertRuns_vc : Prop :=
  ((!decide ((0 : Int) = (0 : Int))) = false → (∀ (x : MapD), some (MapD.mk (2 : Int) [(0 : Int), (5 : Int), (7 : Int), (0 : Int)]) = some x → MapOk x) ∧ (isH (bestP (some (MapD.mk (2 : Int) [(0 : Int), (5 : Int), (7 : Int), (0 : Int)]))
  (Driver.mk (4 : Int) (4 : Int) (1 : Int) (1 : Int) (30 : Int) false) [] (Route.mk (4 : Int) (0 : Int) []) (Order.mk (1 : Int) (3 : Int) (0 : Int) (2 : Int) (9 : Int) (1 : Int) (1 : Int) (0 : Int) (20 : Int) (2 : Int)) (9 : Int)) (Spot.mk (4
  : Int) (0 : Int) (0 : Int) (12 : Int)) (1 : Int) (0 : Int) = true → (∀ (x : MapD), some (MapD.mk (2 : Int) [(0 : Int), (5 : Int), (7 : Int), (0 : Int)]) = some x → MapOk x) ∧ (isH (bestP (some (MapD.mk (2 : Int) [(0 : Int), (5 : Int), (7 :
  Int), (0 : Int)])) (Driver.mk (4 : Int) (4 : Int) (1 : Int) (1 : Int) (30 : Int) false) [Order.mk (1 : Int) (3 : Int) (0 : Int) (2 : Int) (9 : Int) (1 : Int) (1 : Int) (0 : Int) (20 : Int) (2 : Int)] (Route.mk (4 : Int) (0 : Int) [Stop.mk
  (1 : Int) false, Stop.mk (1 : Int) true]) (Order.mk (2 : Int) (1 : Int) (0 : Int) (0 : Int) (100 : Int) (1 : Int) (1 : Int) (0 : Int) (100 : Int) (2 : Int)) (9 : Int)) (Spot.mk (4 : Int) (0 : Int) (1 : Int) (0 : Int)) (6 : Int) (0 : Int) =
  true → (∀ (x : MapD), some (MapD.mk (2 : Int) [(0 : Int), (5 : Int), (7 : Int), (0 : Int)]) = some x → MapOk x) ∧ (∀ (x : MapD), some (MapD.mk (2 : Int) [(0 : Int), (5 : Int), (7 : Int), (0 : Int)]) = some x → MapOk x) ∧ (isH (bestP (some
  (MapD.mk (2 : Int) [(0 : Int), (5 : Int), (7 : Int), (0 : Int)])) (Driver.mk (4 : Int) (4 : Int) (1 : Int) (1 : Int) (30 : Int) false) [Order.mk (1 : Int) (3 : Int) (0 : Int) (2 : Int) (9 : Int) (1 : Int) (1 : Int) (0 : Int) (20 : Int) (2 :
  Int)] (Route.mk (4 : Int) (0 : Int) [Stop.mk (1 : Int) false, Stop.mk (1 : Int) true]) (Order.mk (2 : Int) (1 : Int) (0 : Int) (0 : Int) (100 : Int) (1 : Int) (1 : Int) (0 : Int) (100 : Int) (2 : Int)) (1 : Int)) (Spot.mk (0 : Int) (0 :
  Int) (0 : Int) (0 : Int)) (1 : Int) (20 : Int) = true → (∀ (x : MapD), some (MapD.mk (2 : Int) [(0 : Int), (5 : Int), (7 : Int), (0 : Int)]) = some x → MapOk x) ∧ (isH (bestP (some (MapD.mk (2 : Int) [(0 : Int), (5 : Int), (7 : Int), (0 :
  Int)])) (Driver.mk (4 : Int) (4 : Int) (1 : Int) (1 : Int) (30 : Int) false) [Order.mk (1 : Int) (3 : Int) (0 : Int) (2 : Int) (9 : Int) (1 : Int) (1 : Int) (0 : Int) (20 : Int) (2 : Int)] (Route.mk (4 : Int) (0 : Int) [Stop.mk (1 : Int)
  false, Stop.mk (1 : Int) true]) (Order.mk (2 : Int) (1 : Int) (0 : Int) (0 : Int) (100 : Int) (1 : Int) (1 : Int) (0 : Int) (100 : Int) (2 : Int)) (0 : Int)) (Spot.mk (0 : Int) (0 : Int) (0 : Int) (0 : Int)) (0 : Int) (20 : Int) = true → (∀
  (x : MapD), some (MapD.mk (2 : Int) [(0 : Int), (5 : Int), (7 : Int), (0 : Int)]) = some x → MapOk x) ∧ (isH (bestP (some (MapD.mk (2 : Int) [(0 : Int), (5 : Int), (7 : Int), (0 : Int)])) (Driver.mk (4 : Int) (4 : Int) (1 : Int) (1 : Int)
  (30 : Int) false) [Order.mk (1 : Int) (3 : Int) (0 : Int) (2 : Int) (9 : Int) (1 : Int) (1 : Int) (0 : Int) (20 : Int) (2 : Int)] (Route.mk (4 : Int) (3 : Int) [Stop.mk (1 : Int) false, Stop.mk (1 : Int) true]) (Order.mk (2 : Int) (1 : Int)
  (0 : Int) (0 : Int) (100 : Int) (1 : Int) (1 : Int) (0 : Int) (100 : Int) (2 : Int)) (9 : Int)) (Spot.mk (0 : Int) (0 : Int) (0 : Int) (0 : Int)) (0 : Int) (1 : Int) = true → (∀ (x : MapD), some (MapD.mk (2 : Int) [(0 : Int), (5 : Int), (7
  : Int), (0 : Int)]) = some x → MapOk x) ∧ (∀ (x : MapD), some (MapD.mk (2 : Int) [(0 : Int), (5 : Int), (7 : Int), (0 : Int)]) = some x → MapOk x) ∧ (isH (bestP (some (MapD.mk (2 : Int) [(0 : Int), (5 : Int), (7 : Int), (0 : Int)]))
  (Driver.mk (4 : Int) (4 : Int) (1 : Int) (1 : Int) (30 : Int) false) [Order.mk (1 : Int) (3 : Int) (0 : Int) (2 : Int) (9 : Int) (1 : Int) (1 : Int) (0 : Int) (20 : Int) (2 : Int)] (Route.mk (4 : Int) (0 : Int) [Stop.mk (1 : Int) false,
  Stop.mk (1 : Int) true]) (Order.mk (2 : Int) (1 : Int) (0 : Int) (0 : Int) (100 : Int) (1 : Int) (1 : Int) (0 : Int) (100 : Int) (2 : Int)) (2 : Int)) (Spot.mk (4 : Int) (0 : Int) (1 : Int) (0 : Int)) (2 : Int) (0 : Int) = true → (isH
  (bestP (some (MapD.mk (2 : Int) [(0 : Int), (5 : Int), (7 : Int), (0 : Int)])) (Driver.mk (4 : Int) (4 : Int) (1 : Int) (1 : Int) (30 : Int) true) [Order.mk (1 : Int) (3 : Int) (0 : Int) (2 : Int) (9 : Int) (1 : Int) (1 : Int) (0 : Int) (20
  : Int) (2 : Int)] (Route.mk (4 : Int) (0 : Int) [Stop.mk (1 : Int) false, Stop.mk (1 : Int) true]) (Order.mk (2 : Int) (1 : Int) (0 : Int) (0 : Int) (100 : Int) (1 : Int) (1 : Int) (0 : Int) (100 : Int) (2 : Int)) (9 : Int)) (Spot.mk (0 :
  Int) (0 : Int) (0 : Int) (0 : Int)) (0 : Int) (23 : Int) = true → ((decide ((hspot (cheapP (some (MapD.mk (2 : Int) [(0 : Int), (5 : Int), (7 : Int), (0 : Int)])) [Driver.mk (4 : Int) (4 : Int) (1 : Int) (1 : Int) (30 : Int) false,
  Driver.mk (5 : Int) (4 : Int) (0 : Int) (1 : Int) (30 : Int) false] [Order.mk (1 : Int) (3 : Int) (0 : Int) (2 : Int) (9 : Int) (1 : Int) (1 : Int) (0 : Int) (20 : Int) (2 : Int)] [Route.mk (4 : Int) (0 : Int) [Stop.mk (1 : Int) false,
  Stop.mk (1 : Int) true], Route.mk (5 : Int) (0 : Int) []] (Order.mk (2 : Int) (1 : Int) (0 : Int) (0 : Int) (100 : Int) (1 : Int) (1 : Int) (0 : Int) (100 : Int) (2 : Int)) (100 : Int)).fst).driver = (4 : Int)) && (decide ((hspot (cheapP
  (some (MapD.mk (2 : Int) [(0 : Int), (5 : Int), (7 : Int), (0 : Int)])) [Driver.mk (4 : Int) (4 : Int) (1 : Int) (1 : Int) (30 : Int) false, Driver.mk (5 : Int) (4 : Int) (0 : Int) (1 : Int) (30 : Int) false] [Order.mk (1 : Int) (3 : Int)
  (0 : Int) (2 : Int) (9 : Int) (1 : Int) (1 : Int) (0 : Int) (20 : Int) (2 : Int)] [Route.mk (4 : Int) (0 : Int) [Stop.mk (1 : Int) false, Stop.mk (1 : Int) true], Route.mk (5 : Int) (0 : Int) []] (Order.mk (2 : Int) (1 : Int) (0 : Int) (0 :
  Int) (100 : Int) (1 : Int) (1 : Int) (0 : Int) (100 : Int) (2 : Int)) (100 : Int)).fst).pick = (0 : Int)) && (decide ((hspot (cheapP (some (MapD.mk (2 : Int) [(0 : Int), (5 : Int), (7 : Int), (0 : Int)])) [Driver.mk (4 : Int) (4 : Int) (1 :
  Int) (1 : Int) (30 : Int) false, Driver.mk (5 : Int) (4 : Int) (0 : Int) (1 : Int) (30 : Int) false] [Order.mk (1 : Int) (3 : Int) (0 : Int) (2 : Int) (9 : Int) (1 : Int) (1 : Int) (0 : Int) (20 : Int) (2 : Int)] [Route.mk (4 : Int) (0 :
  Int) [Stop.mk (1 : Int) false, Stop.mk (1 : Int) true], Route.mk (5 : Int) (0 : Int) []] (Order.mk (2 : Int) (1 : Int) (0 : Int) (0 : Int) (100 : Int) (1 : Int) (1 : Int) (0 : Int) (100 : Int) (2 : Int)) (100 : Int)).fst).drop = (1 : Int))
  && (decide ((hspot (cheapP (some (MapD.mk (2 : Int) [(0 : Int), (5 : Int), (7 : Int), (0 : Int)])) [Driver.mk (4 : Int) (4 : Int) (1 : Int) (1 : Int) (30 : Int) false, Driver.mk (5 : Int) (4 : Int) (0 : Int) (1 : Int) (30 : Int) false]
  [Order.mk (1 : Int) (3 : Int) (0 : Int) (2 : Int) (9 : Int) (1 : Int) (1 : Int) (0 : Int) (20 : Int) (2 : Int)] [Route.mk (4 : Int) (0 : Int) [Stop.mk (1 : Int) false, Stop.mk (1 : Int) true], Route.mk (5 : Int) (0 : Int) []] (Order.mk (2 :
  Int) (1 : Int) (0 : Int) (0 : Int) (100 : Int) (1 : Int) (1 : Int) (0 : Int) (100 : Int) (2 : Int)) (100 : Int)).fst).cost = (0 : Int)) && true)))) = true → (decide ((cheapP (some (MapD.mk (2 : Int) [(0 : Int), (5 : Int), (7 : Int), (0 :
  Int)])) [Driver.mk (4 : Int) (4 : Int) (1 : Int) (1 : Int) (30 : Int) false, Driver.mk (5 : Int) (4 : Int) (0 : Int) (1 : Int) (30 : Int) false] [Order.mk (1 : Int) (3 : Int) (0 : Int) (2 : Int) (9 : Int) (1 : Int) (1 : Int) (0 : Int) (20 :
  Int) (2 : Int)] [Route.mk (4 : Int) (0 : Int) [Stop.mk (1 : Int) false, Stop.mk (1 : Int) true], Route.mk (5 : Int) (0 : Int) []] (Order.mk (2 : Int) (1 : Int) (0 : Int) (0 : Int) (100 : Int) (1 : Int) (1 : Int) (0 : Int) (100 : Int) (2 :
  Int)) (100 : Int)).fst.steps = (7 : Int)) = true → decide ((cheapP (some (MapD.mk (2 : Int) [(0 : Int), (5 : Int), (7 : Int), (0 : Int)])) [Driver.mk (4 : Int) (4 : Int) (1 : Int) (1 : Int) (30 : Int) false, Driver.mk (5 : Int) (4 : Int) (0
  : Int) (1 : Int) (30 : Int) false] [Order.mk (1 : Int) (3 : Int) (0 : Int) (2 : Int) (9 : Int) (1 : Int) (1 : Int) (0 : Int) (20 : Int) (2 : Int)] [Route.mk (4 : Int) (0 : Int) [Stop.mk (1 : Int) false, Stop.mk (1 : Int) true], Route.mk (5
  : Int) (0 : Int) []] (Order.mk (2 : Int) (1 : Int) (0 : Int) (0 : Int) (100 : Int) (1 : Int) (1 : Int) (0 : Int) (100 : Int) (2 : Int)) (100 : Int)).snd = (0 : Int)) = true) ∧ (decide ((cheapP (some (MapD.mk (2 : Int) [(0 : Int), (5 : Int),
  (7 : Int), (0 : Int)])) [Driver.mk (4 : Int) (4 : Int) (1 : Int) (1 : Int) (30 : Int) false, Driver.mk (5 : Int) (4 : Int) (0 : Int) (1 : Int) (30 : Int) false] [Order.mk (1 : Int) (3 : Int) (0 : Int) (2 : Int) (9 : Int) (1 : Int) (1 : Int)
  (0 : Int) (20 : Int) (2 : Int)] [Route.mk (4 : Int) (0 : Int) [Stop.mk (1 : Int) false, Stop.mk (1 : Int) true], Route.mk (5 : Int) (0 : Int) []] (Order.mk (2 : Int) (1 : Int) (0 : Int) (0 : Int) (100 : Int) (1 : Int) (1 : Int) (0 : Int)
  (100 : Int) (2 : Int)) (100 : Int)).fst.steps = (7 : Int)) = !true → false = true)) ∧ ((decide ((hspot (cheapP (some (MapD.mk (2 : Int) [(0 : Int), (5 : Int), (7 : Int), (0 : Int)])) [Driver.mk (4 : Int) (4 : Int) (1 : Int) (1 : Int) (30 :
  Int) false, Driver.mk (5 : Int) (4 : Int) (0 : Int) (1 : Int) (30 : Int) false] [Order.mk (1 : Int) (3 : Int) (0 : Int) (2 : Int) (9 : Int) (1 : Int) (1 : Int) (0 : Int) (20 : Int) (2 : Int)] [Route.mk (4 : Int) (0 : Int) [Stop.mk (1 : Int)
  false, Stop.mk (1 : Int) true], Route.mk (5 : Int) (0 : Int) []] (Order.mk (2 : Int) (1 : Int) (0 : Int) (0 : Int) (100 : Int) (1 : Int) (1 : Int) (0 : Int) (100 : Int) (2 : Int)) (100 : Int)).fst).driver = (4 : Int)) && (decide ((hspot
  (cheapP (some (MapD.mk (2 : Int) [(0 : Int), (5 : Int), (7 : Int), (0 : Int)])) [Driver.mk (4 : Int) (4 : Int) (1 : Int) (1 : Int) (30 : Int) false, Driver.mk (5 : Int) (4 : Int) (0 : Int) (1 : Int) (30 : Int) false] [Order.mk (1 : Int) (3
  : Int) (0 : Int) (2 : Int) (9 : Int) (1 : Int) (1 : Int) (0 : Int) (20 : Int) (2 : Int)] [Route.mk (4 : Int) (0 : Int) [Stop.mk (1 : Int) false, Stop.mk (1 : Int) true], Route.mk (5 : Int) (0 : Int) []] (Order.mk (2 : Int) (1 : Int) (0 :
  Int) (0 : Int) (100 : Int) (1 : Int) (1 : Int) (0 : Int) (100 : Int) (2 : Int)) (100 : Int)).fst).pick = (0 : Int)) && (decide ((hspot (cheapP (some (MapD.mk (2 : Int) [(0 : Int), (5 : Int), (7 : Int), (0 : Int)])) [Driver.mk (4 : Int) (4 :
  Int) (1 : Int) (1 : Int) (30 : Int) false, Driver.mk (5 : Int) (4 : Int) (0 : Int) (1 : Int) (30 : Int) false] [Order.mk (1 : Int) (3 : Int) (0 : Int) (2 : Int) (9 : Int) (1 : Int) (1 : Int) (0 : Int) (20 : Int) (2 : Int)] [Route.mk (4 :
  Int) (0 : Int) [Stop.mk (1 : Int) false, Stop.mk (1 : Int) true], Route.mk (5 : Int) (0 : Int) []] (Order.mk (2 : Int) (1 : Int) (0 : Int) (0 : Int) (100 : Int) (1 : Int) (1 : Int) (0 : Int) (100 : Int) (2 : Int)) (100 : Int)).fst).drop =
  (1 : Int)) && (decide ((hspot (cheapP (some (MapD.mk (2 : Int) [(0 : Int), (5 : Int), (7 : Int), (0 : Int)])) [Driver.mk (4 : Int) (4 : Int) (1 : Int) (1 : Int) (30 : Int) false, Driver.mk (5 : Int) (4 : Int) (0 : Int) (1 : Int) (30 : Int)
  false] [Order.mk (1 : Int) (3 : Int) (0 : Int) (2 : Int) (9 : Int) (1 : Int) (1 : Int) (0 : Int) (20 : Int) (2 : Int)] [Route.mk (4 : Int) (0 : Int) [Stop.mk (1 : Int) false, Stop.mk (1 : Int) true], Route.mk (5 : Int) (0 : Int) []]
  (Order.mk (2 : Int) (1 : Int) (0 : Int) (0 : Int) (100 : Int) (1 : Int) (1 : Int) (0 : Int) (100 : Int) (2 : Int)) (100 : Int)).fst).cost = (0 : Int)) && true)))) = !true → false = true)) ∧ (isH (bestP (some (MapD.mk (2 : Int) [(0 : Int),
  (5 : Int), (7 : Int), (0 : Int)])) (Driver.mk (4 : Int) (4 : Int) (1 : Int) (1 : Int) (30 : Int) true) [Order.mk (1 : Int) (3 : Int) (0 : Int) (2 : Int) (9 : Int) (1 : Int) (1 : Int) (0 : Int) (20 : Int) (2 : Int)] (Route.mk (4 : Int) (0 :
  Int) [Stop.mk (1 : Int) false, Stop.mk (1 : Int) true]) (Order.mk (2 : Int) (1 : Int) (0 : Int) (0 : Int) (100 : Int) (1 : Int) (1 : Int) (0 : Int) (100 : Int) (2 : Int)) (9 : Int)) (Spot.mk (0 : Int) (0 : Int) (0 : Int) (0 : Int)) (0 :
  Int) (23 : Int) = !true → false = true)) ∧ (isH (bestP (some (MapD.mk (2 : Int) [(0 : Int), (5 : Int), (7 : Int), (0 : Int)])) (Driver.mk (4 : Int) (4 : Int) (1 : Int) (1 : Int) (30 : Int) false) [Order.mk (1 : Int) (3 : Int) (0 : Int) (2 :
  Int) (9 : Int) (1 : Int) (1 : Int) (0 : Int) (20 : Int) (2 : Int)] (Route.mk (4 : Int) (0 : Int) [Stop.mk (1 : Int) false, Stop.mk (1 : Int) true]) (Order.mk (2 : Int) (1 : Int) (0 : Int) (0 : Int) (100 : Int) (1 : Int) (1 : Int) (0 : Int)
  (100 : Int) (2 : Int)) (2 : Int)) (Spot.mk (4 : Int) (0 : Int) (1 : Int) (0 : Int)) (2 : Int) (0 : Int) = !true → false = true)) ∧ (isH (bestP (some (MapD.mk (2 : Int) [(0 : Int), (5 : Int), (7 : Int), (0 : Int)])) (Driver.mk (4 : Int) (4 :
  Int) (1 : Int) (1 : Int) (30 : Int) false) [Order.mk (1 : Int) (3 : Int) (0 : Int) (2 : Int) (9 : Int) (1 : Int) (1 : Int) (0 : Int) (20 : Int) (2 : Int)] (Route.mk (4 : Int) (3 : Int) [Stop.mk (1 : Int) false, Stop.mk (1 : Int) true])
  (Order.mk (2 : Int) (1 : Int) (0 : Int) (0 : Int) (100 : Int) (1 : Int) (1 : Int) (0 : Int) (100 : Int) (2 : Int)) (9 : Int)) (Spot.mk (0 : Int) (0 : Int) (0 : Int) (0 : Int)) (0 : Int) (1 : Int) = !true → (∀ (x : MapD), some (MapD.mk (2 :
  Int) [(0 : Int), (5 : Int), (7 : Int), (0 : Int)]) = some x → MapOk x) ∧ (isH (bestP (some (MapD.mk (2 : Int) [(0 : Int), (5 : Int), (7 : Int), (0 : Int)])) (Driver.mk (4 : Int) (4 : Int) (1 : Int) (1 : Int) (30 : Int) false) [Order.mk (1 :
  Int) (3 : Int) (0 : Int) (2 : Int) (9 : Int) (1 : Int) (1 : Int) (0 : Int) (20 : Int) (2 : Int)] (Route.mk (4 : Int) (0 : Int) [Stop.mk (1 : Int) false, Stop.mk (1 : Int) true]) (Order.mk (2 : Int) (1 : Int) (0 : Int) (0 : Int) (100 : Int)
  (1 : Int) (1 : Int) (0 : Int) (100 : Int) (2 : Int)) (2 : Int)) (Spot.mk (4 : Int) (0 : Int) (1 : Int) (0 : Int)) (2 : Int) (0 : Int) = true → false = true) ∧ (isH (bestP (some (MapD.mk (2 : Int) [(0 : Int), (5 : Int), (7 : Int), (0 :
  Int)])) (Driver.mk (4 : Int) (4 : Int) (1 : Int) (1 : Int) (30 : Int) false) [Order.mk (1 : Int) (3 : Int) (0 : Int) (2 : Int) (9 : Int) (1 : Int) (1 : Int) (0 : Int) (20 : Int) (2 : Int)] (Route.mk (4 : Int) (0 : Int) [Stop.mk (1 : Int)
  false, Stop.mk (1 : Int) true]) (Order.mk (2 : Int) (1 : Int) (0 : Int) (0 : Int) (100 : Int) (1 : Int) (1 : Int) (0 : Int) (100 : Int) (2 : Int)) (2 : Int)) (Spot.mk (4 : Int) (0 : Int) (1 : Int) (0 : Int)) (2 : Int) (0 : Int) = !true →
  false = true))) ∧ (isH (bestP (some (MapD.mk (2 : Int) [(0 : Int), (5 : Int), (7 : Int), (0 : Int)])) (Driver.mk (4 : Int) (4 : Int) (1 : Int) (1 : Int) (30 : Int) false) [Order.mk (1 : Int) (3 : Int) (0 : Int) (2 : Int) (9 : Int) (1 : Int)
  (1 : Int) (0 : Int) (20 : Int) (2 : Int)] (Route.mk (4 : Int) (0 : Int) [Stop.mk (1 : Int) false, Stop.mk (1 : Int) true]) (Order.mk (2 : Int) (1 : Int) (0 : Int) (0 : Int) (100 : Int) (1 : Int) (1 : Int) (0 : Int) (100 : Int) (2 : Int)) (0
  : Int)) (Spot.mk (0 : Int) (0 : Int) (0 : Int) (0 : Int)) (0 : Int) (20 : Int) = !true → (∀ (x : MapD), some (MapD.mk (2 : Int) [(0 : Int), (5 : Int), (7 : Int), (0 : Int)]) = some x → MapOk x) ∧ (isH (bestP (some (MapD.mk (2 : Int) [(0 :
  Int), (5 : Int), (7 : Int), (0 : Int)])) (Driver.mk (4 : Int) (4 : Int) (1 : Int) (1 : Int) (30 : Int) false) [Order.mk (1 : Int) (3 : Int) (0 : Int) (2 : Int) (9 : Int) (1 : Int) (1 : Int) (0 : Int) (20 : Int) (2 : Int)] (Route.mk (4 :
  Int) (0 : Int) [Stop.mk (1 : Int) false, Stop.mk (1 : Int) true]) (Order.mk (2 : Int) (1 : Int) (0 : Int) (0 : Int) (100 : Int) (1 : Int) (1 : Int) (0 : Int) (100 : Int) (2 : Int)) (2 : Int)) (Spot.mk (4 : Int) (0 : Int) (1 : Int) (0 :
  Int)) (2 : Int) (0 : Int) = true → false = true) ∧ (isH (bestP (some (MapD.mk (2 : Int) [(0 : Int), (5 : Int), (7 : Int), (0 : Int)])) (Driver.mk (4 : Int) (4 : Int) (1 : Int) (1 : Int) (30 : Int) false) [Order.mk (1 : Int) (3 : Int) (0 :
  Int) (2 : Int) (9 : Int) (1 : Int) (1 : Int) (0 : Int) (20 : Int) (2 : Int)] (Route.mk (4 : Int) (0 : Int) [Stop.mk (1 : Int) false, Stop.mk (1 : Int) true]) (Order.mk (2 : Int) (1 : Int) (0 : Int) (0 : Int) (100 : Int) (1 : Int) (1 : Int)
  (0 : Int) (100 : Int) (2 : Int)) (2 : Int)) (Spot.mk (4 : Int) (0 : Int) (1 : Int) (0 : Int)) (2 : Int) (0 : Int) = !true → false = true))) ∧ (isH (bestP (some (MapD.mk (2 : Int) [(0 : Int), (5 : Int), (7 : Int), (0 : Int)])) (Driver.mk (4
  : Int) (4 : Int) (1 : Int) (1 : Int) (30 : Int) false) [Order.mk (1 : Int) (3 : Int) (0 : Int) (2 : Int) (9 : Int) (1 : Int) (1 : Int) (0 : Int) (20 : Int) (2 : Int)] (Route.mk (4 : Int) (0 : Int) [Stop.mk (1 : Int) false, Stop.mk (1 : Int)
  true]) (Order.mk (2 : Int) (1 : Int) (0 : Int) (0 : Int) (100 : Int) (1 : Int) (1 : Int) (0 : Int) (100 : Int) (2 : Int)) (1 : Int)) (Spot.mk (0 : Int) (0 : Int) (0 : Int) (0 : Int)) (1 : Int) (20 : Int) = !true → (∀ (x : MapD), some
  (MapD.mk (2 : Int) [(0 : Int), (5 : Int), (7 : Int), (0 : Int)]) = some x → MapOk x) ∧ (isH (bestP (some (MapD.mk (2 : Int) [(0 : Int), (5 : Int), (7 : Int), (0 : Int)])) (Driver.mk (4 : Int) (4 : Int) (1 : Int) (1 : Int) (30 : Int) false)
  [Order.mk (1 : Int) (3 : Int) (0 : Int) (2 : Int) (9 : Int) (1 : Int) (1 : Int) (0 : Int) (20 : Int) (2 : Int)] (Route.mk (4 : Int) (0 : Int) [Stop.mk (1 : Int) false, Stop.mk (1 : Int) true]) (Order.mk (2 : Int) (1 : Int) (0 : Int) (0 :
  Int) (100 : Int) (1 : Int) (1 : Int) (0 : Int) (100 : Int) (2 : Int)) (2 : Int)) (Spot.mk (4 : Int) (0 : Int) (1 : Int) (0 : Int)) (2 : Int) (0 : Int) = true → false = true) ∧ (isH (bestP (some (MapD.mk (2 : Int) [(0 : Int), (5 : Int), (7 :
  Int), (0 : Int)])) (Driver.mk (4 : Int) (4 : Int) (1 : Int) (1 : Int) (30 : Int) false) [Order.mk (1 : Int) (3 : Int) (0 : Int) (2 : Int) (9 : Int) (1 : Int) (1 : Int) (0 : Int) (20 : Int) (2 : Int)] (Route.mk (4 : Int) (0 : Int) [Stop.mk
  (1 : Int) false, Stop.mk (1 : Int) true]) (Order.mk (2 : Int) (1 : Int) (0 : Int) (0 : Int) (100 : Int) (1 : Int) (1 : Int) (0 : Int) (100 : Int) (2 : Int)) (2 : Int)) (Spot.mk (4 : Int) (0 : Int) (1 : Int) (0 : Int)) (2 : Int) (0 : Int) =
  !true → false = true))) ∧ (isH (bestP (some (MapD.mk (2 : Int) [(0 : Int), (5 : Int), (7 : Int), (0 : Int)])) (Driver.mk (4 : Int) (4 : Int) (1 : Int) (1 : Int) (30 : Int) false) [Order.mk (1 : Int) (3 : Int) (0 : Int) (2 : Int) (9 : Int)
  (1 : Int) (1 : Int) (0 : Int) (20 : Int) (2 : Int)] (Route.mk (4 : Int) (0 : Int) [Stop.mk (1 : Int) false, Stop.mk (1 : Int) true]) (Order.mk (2 : Int) (1 : Int) (0 : Int) (0 : Int) (100 : Int) (1 : Int) (1 : Int) (0 : Int) (100 : Int) (2
  : Int)) (9 : Int)) (Spot.mk (4 : Int) (0 : Int) (1 : Int) (0 : Int)) (6 : Int) (0 : Int) = !true → (∀ (x : MapD), some (MapD.mk (2 : Int) [(0 : Int), (5 : Int), (7 : Int), (0 : Int)]) = some x → MapOk x) ∧ (isH (bestP (some (MapD.mk (2 :
  Int) [(0 : Int), (5 : Int), (7 : Int), (0 : Int)])) (Driver.mk (4 : Int) (4 : Int) (1 : Int) (1 : Int) (30 : Int) false) [Order.mk (1 : Int) (3 : Int) (0 : Int) (2 : Int) (9 : Int) (1 : Int) (1 : Int) (0 : Int) (20 : Int) (2 : Int)]
  (Route.mk (4 : Int) (0 : Int) [Stop.mk (1 : Int) false, Stop.mk (1 : Int) true]) (Order.mk (2 : Int) (1 : Int) (0 : Int) (0 : Int) (100 : Int) (1 : Int) (1 : Int) (0 : Int) (100 : Int) (2 : Int)) (1 : Int)) (Spot.mk (0 : Int) (0 : Int) (0 :
  Int) (0 : Int)) (1 : Int) (20 : Int) = true → (∀ (x : MapD), some (MapD.mk (2 : Int) [(0 : Int), (5 : Int), (7 : Int), (0 : Int)]) = some x → MapOk x) ∧ (isH (bestP (some (MapD.mk (2 : Int) [(0 : Int), (5 : Int), (7 : Int), (0 : Int)]))
  (Driver.mk (4 : Int) (4 : Int) (1 : Int) (1 : Int) (30 : Int) false) [Order.mk (1 : Int) (3 : Int) (0 : Int) (2 : Int) (9 : Int) (1 : Int) (1 : Int) (0 : Int) (20 : Int) (2 : Int)] (Route.mk (4 : Int) (0 : Int) [Stop.mk (1 : Int) false,
  Stop.mk (1 : Int) true]) (Order.mk (2 : Int) (1 : Int) (0 : Int) (0 : Int) (100 : Int) (1 : Int) (1 : Int) (0 : Int) (100 : Int) (2 : Int)) (0 : Int)) (Spot.mk (0 : Int) (0 : Int) (0 : Int) (0 : Int)) (0 : Int) (20 : Int) = true → (∀ (x :
  MapD), some (MapD.mk (2 : Int) [(0 : Int), (5 : Int), (7 : Int), (0 : Int)]) = some x → MapOk x) ∧ (isH (bestP (some (MapD.mk (2 : Int) [(0 : Int), (5 : Int), (7 : Int), (0 : Int)])) (Driver.mk (4 : Int) (4 : Int) (1 : Int) (1 : Int) (30 :
  Int) false) [Order.mk (1 : Int) (3 : Int) (0 : Int) (2 : Int) (9 : Int) (1 : Int) (1 : Int) (0 : Int) (20 : Int) (2 : Int)] (Route.mk (4 : Int) (3 : Int) [Stop.mk (1 : Int) false, Stop.mk (1 : Int) true]) (Order.mk (2 : Int) (1 : Int) (0 :
  Int) (0 : Int) (100 : Int) (1 : Int) (1 : Int) (0 : Int) (100 : Int) (2 : Int)) (9 : Int)) (Spot.mk (0 : Int) (0 : Int) (0 : Int) (0 : Int)) (0 : Int) (1 : Int) = true → (∀ (x : MapD), some (MapD.mk (2 : Int) [(0 : Int), (5 : Int), (7 :
  Int), (0 : Int)]) = some x → MapOk x) ∧ (∀ (x : MapD), some (MapD.mk (2 : Int) [(0 : Int), (5 : Int), (7 : Int), (0 : Int)]) = some x → MapOk x) ∧ false = true) ∧ (isH (bestP (some (MapD.mk (2 : Int) [(0 : Int), (5 : Int), (7 : Int), (0 :
  Int)])) (Driver.mk (4 : Int) (4 : Int) (1 : Int) (1 : Int) (30 : Int) false) [Order.mk (1 : Int) (3 : Int) (0 : Int) (2 : Int) (9 : Int) (1 : Int) (1 : Int) (0 : Int) (20 : Int) (2 : Int)] (Route.mk (4 : Int) (3 : Int) [Stop.mk (1 : Int)
  false, Stop.mk (1 : Int) true]) (Order.mk (2 : Int) (1 : Int) (0 : Int) (0 : Int) (100 : Int) (1 : Int) (1 : Int) (0 : Int) (100 : Int) (2 : Int)) (9 : Int)) (Spot.mk (0 : Int) (0 : Int) (0 : Int) (0 : Int)) (0 : Int) (1 : Int) = !true → (∀
  (x : MapD), some (MapD.mk (2 : Int) [(0 : Int), (5 : Int), (7 : Int), (0 : Int)]) = some x → MapOk x) ∧ false = true)) ∧ (isH (bestP (some (MapD.mk (2 : Int) [(0 : Int), (5 : Int), (7 : Int), (0 : Int)])) (Driver.mk (4 : Int) (4 : Int) (1 :
  Int) (1 : Int) (30 : Int) false) [Order.mk (1 : Int) (3 : Int) (0 : Int) (2 : Int) (9 : Int) (1 : Int) (1 : Int) (0 : Int) (20 : Int) (2 : Int)] (Route.mk (4 : Int) (0 : Int) [Stop.mk (1 : Int) false, Stop.mk (1 : Int) true]) (Order.mk (2 :
  Int) (1 : Int) (0 : Int) (0 : Int) (100 : Int) (1 : Int) (1 : Int) (0 : Int) (100 : Int) (2 : Int)) (0 : Int)) (Spot.mk (0 : Int) (0 : Int) (0 : Int) (0 : Int)) (0 : Int) (20 : Int) = !true → (∀ (x : MapD), some (MapD.mk (2 : Int) [(0 :
  Int), (5 : Int), (7 : Int), (0 : Int)]) = some x → MapOk x) ∧ false = true)) ∧ (isH (bestP (some (MapD.mk (2 : Int) [(0 : Int), (5 : Int), (7 : Int), (0 : Int)])) (Driver.mk (4 : Int) (4 : Int) (1 : Int) (1 : Int) (30 : Int) false)
  [Order.mk (1 : Int) (3 : Int) (0 : Int) (2 : Int) (9 : Int) (1 : Int) (1 : Int) (0 : Int) (20 : Int) (2 : Int)] (Route.mk (4 : Int) (0 : Int) [Stop.mk (1 : Int) false, Stop.mk (1 : Int) true]) (Order.mk (2 : Int) (1 : Int) (0 : Int) (0 :
  Int) (100 : Int) (1 : Int) (1 : Int) (0 : Int) (100 : Int) (2 : Int)) (1 : Int)) (Spot.mk (0 : Int) (0 : Int) (0 : Int) (0 : Int)) (1 : Int) (20 : Int) = !true → (∀ (x : MapD), some (MapD.mk (2 : Int) [(0 : Int), (5 : Int), (7 : Int), (0 :
  Int)]) = some x → MapOk x) ∧ false = true))) ∧ (isH (bestP (some (MapD.mk (2 : Int) [(0 : Int), (5 : Int), (7 : Int), (0 : Int)])) (Driver.mk (4 : Int) (4 : Int) (1 : Int) (1 : Int) (30 : Int) false) [] (Route.mk (4 : Int) (0 : Int) [])
  (Order.mk (1 : Int) (3 : Int) (0 : Int) (2 : Int) (9 : Int) (1 : Int) (1 : Int) (0 : Int) (20 : Int) (2 : Int)) (9 : Int)) (Spot.mk (4 : Int) (0 : Int) (0 : Int) (12 : Int)) (1 : Int) (0 : Int) = !true → (∀ (x : MapD), some (MapD.mk (2 :
  Int) [(0 : Int), (5 : Int), (7 : Int), (0 : Int)]) = some x → MapOk x) ∧ (isH (bestP (some (MapD.mk (2 : Int) [(0 : Int), (5 : Int), (7 : Int), (0 : Int)])) (Driver.mk (4 : Int) (4 : Int) (1 : Int) (1 : Int) (30 : Int) false) [Order.mk (1 :
  Int) (3 : Int) (0 : Int) (2 : Int) (9 : Int) (1 : Int) (1 : Int) (0 : Int) (20 : Int) (2 : Int)] (Route.mk (4 : Int) (0 : Int) [Stop.mk (1 : Int) false, Stop.mk (1 : Int) true]) (Order.mk (2 : Int) (1 : Int) (0 : Int) (0 : Int) (100 : Int)
  (1 : Int) (1 : Int) (0 : Int) (100 : Int) (2 : Int)) (1 : Int)) (Spot.mk (0 : Int) (0 : Int) (0 : Int) (0 : Int)) (1 : Int) (20 : Int) = true → (∀ (x : MapD), some (MapD.mk (2 : Int) [(0 : Int), (5 : Int), (7 : Int), (0 : Int)]) = some x →
  MapOk x) ∧ (isH (bestP (some (MapD.mk (2 : Int) [(0 : Int), (5 : Int), (7 : Int), (0 : Int)])) (Driver.mk (4 : Int) (4 : Int) (1 : Int) (1 : Int) (30 : Int) false) [Order.mk (1 : Int) (3 : Int) (0 : Int) (2 : Int) (9 : Int) (1 : Int) (1 :
  Int) (0 : Int) (20 : Int) (2 : Int)] (Route.mk (4 : Int) (0 : Int) [Stop.mk (1 : Int) false, Stop.mk (1 : Int) true]) (Order.mk (2 : Int) (1 : Int) (0 : Int) (0 : Int) (100 : Int) (1 : Int) (1 : Int) (0 : Int) (100 : Int) (2 : Int)) (0 :
  Int)) (Spot.mk (0 : Int) (0 : Int) (0 : Int) (0 : Int)) (0 : Int) (20 : Int) = true → (∀ (x : MapD), some (MapD.mk (2 : Int) [(0 : Int), (5 : Int), (7 : Int), (0 : Int)]) = some x → MapOk x) ∧ (isH (bestP (some (MapD.mk (2 : Int) [(0 :
  Int), (5 : Int), (7 : Int), (0 : Int)])) (Driver.mk (4 : Int) (4 : Int) (1 : Int) (1 : Int) (30 : Int) false) [Order.mk (1 : Int) (3 : Int) (0 : Int) (2 : Int) (9 : Int) (1 : Int) (1 : Int) (0 : Int) (20 : Int) (2 : Int)] (Route.mk (4 :
  Int) (3 : Int) [Stop.mk (1 : Int) false, Stop.mk (1 : Int) true]) (Order.mk (2 : Int) (1 : Int) (0 : Int) (0 : Int) (100 : Int) (1 : Int) (1 : Int) (0 : Int) (100 : Int) (2 : Int)) (9 : Int)) (Spot.mk (0 : Int) (0 : Int) (0 : Int) (0 :
  Int)) (0 : Int) (1 : Int) = true → (∀ (x : MapD), some (MapD.mk (2 : Int) [(0 : Int), (5 : Int), (7 : Int), (0 : Int)]) = some x → MapOk x) ∧ (∀ (x : MapD), some (MapD.mk (2 : Int) [(0 : Int), (5 : Int), (7 : Int), (0 : Int)]) = some x →
  MapOk x) ∧ false = true) ∧ (isH (bestP (some (MapD.mk (2 : Int) [(0 : Int), (5 : Int), (7 : Int), (0 : Int)])) (Driver.mk (4 : Int) (4 : Int) (1 : Int) (1 : Int) (30 : Int) false) [Order.mk (1 : Int) (3 : Int) (0 : Int) (2 : Int) (9 : Int)
  (1 : Int) (1 : Int) (0 : Int) (20 : Int) (2 : Int)] (Route.mk (4 : Int) (3 : Int) [Stop.mk (1 : Int) false, Stop.mk (1 : Int) true]) (Order.mk (2 : Int) (1 : Int) (0 : Int) (0 : Int) (100 : Int) (1 : Int) (1 : Int) (0 : Int) (100 : Int) (2
  : Int)) (9 : Int)) (Spot.mk (0 : Int) (0 : Int) (0 : Int) (0 : Int)) (0 : Int) (1 : Int) = !true → (∀ (x : MapD), some (MapD.mk (2 : Int) [(0 : Int), (5 : Int), (7 : Int), (0 : Int)]) = some x → MapOk x) ∧ false = true)) ∧ (isH (bestP (some
  (MapD.mk (2 : Int) [(0 : Int), (5 : Int), (7 : Int), (0 : Int)])) (Driver.mk (4 : Int) (4 : Int) (1 : Int) (1 : Int) (30 : Int) false) [Order.mk (1 : Int) (3 : Int) (0 : Int) (2 : Int) (9 : Int) (1 : Int) (1 : Int) (0 : Int) (20 : Int) (2 :
  Int)] (Route.mk (4 : Int) (0 : Int) [Stop.mk (1 : Int) false, Stop.mk (1 : Int) true]) (Order.mk (2 : Int) (1 : Int) (0 : Int) (0 : Int) (100 : Int) (1 : Int) (1 : Int) (0 : Int) (100 : Int) (2 : Int)) (0 : Int)) (Spot.mk (0 : Int) (0 :
  Int) (0 : Int) (0 : Int)) (0 : Int) (20 : Int) = !true → (∀ (x : MapD), some (MapD.mk (2 : Int) [(0 : Int), (5 : Int), (7 : Int), (0 : Int)]) = some x → MapOk x) ∧ false = true)) ∧ (isH (bestP (some (MapD.mk (2 : Int) [(0 : Int), (5 : Int),
  (7 : Int), (0 : Int)])) (Driver.mk (4 : Int) (4 : Int) (1 : Int) (1 : Int) (30 : Int) false) [Order.mk (1 : Int) (3 : Int) (0 : Int) (2 : Int) (9 : Int) (1 : Int) (1 : Int) (0 : Int) (20 : Int) (2 : Int)] (Route.mk (4 : Int) (0 : Int)
  [Stop.mk (1 : Int) false, Stop.mk (1 : Int) true]) (Order.mk (2 : Int) (1 : Int) (0 : Int) (0 : Int) (100 : Int) (1 : Int) (1 : Int) (0 : Int) (100 : Int) (2 : Int)) (1 : Int)) (Spot.mk (0 : Int) (0 : Int) (0 : Int) (0 : Int)) (1 : Int) (20
  : Int) = !true → (∀ (x : MapD), some (MapD.mk (2 : Int) [(0 : Int), (5 : Int), (7 : Int), (0 : Int)]) = some x → MapOk x) ∧ false = true))) ∧ ((!decide ((0 : Int) = (0 : Int))) = !false → false = true)
theorem insertRuns_told (hc : CsOk Try.prog insertRuns_cs) (h : insertRuns_vc) : Told Try.prog 5 insertRuns_con := told (A := insertRuns_la) tabOk mixed hc Try.func5 (by kernel_rfl) (by kernel_rfl) h
end Go.Eng

/- The conditions of functions, as print.. of the engine told them. -/
set_option linter.unusedVariables false
namespace Go.Eng
open Go Go.Proofs
def lbest_vc : Prop :=
  (∀ (x : Driver) (x_1 : List Order), LenOk x_1.length → ∀ (x_3 : Route), LenOk x_3.stops.length → ∀ (x_5 : Order) (x_6 : Int) (x_7 : Spot) (x_8 x_9 : Int), (∀ (x : MapD), none = some x → MapOk x) → (∀ (x : MapD), none = some x → MapOk x) ∧
  ((decide ((hspot (bestP none x x_1 x_3 x_5 x_6).fst).driver = x_7.driver) && (decide ((hspot (bestP none x x_1 x_3 x_5 x_6).fst).pick = x_7.pick) && (decide ((hspot (bestP none x x_1 x_3 x_5 x_6).fst).drop = x_7.drop) && (decide ((hspot
  (bestP none x x_1 x_3 x_5 x_6).fst).cost = x_7.cost) && true)))) = true → (decide ((bestP none x x_1 x_3 x_5 x_6).fst.steps = x_8) = true → decide ((bestP none x x_1 x_3 x_5 x_6).snd = x_9) = isH (bestP none x x_1 x_3 x_5 x_6) x_7 x_8 x_9)
  ∧ (decide ((bestP none x x_1 x_3 x_5 x_6).fst.steps = x_8) = !true → false = isH (bestP none x x_1 x_3 x_5 x_6) x_7 x_8 x_9)) ∧ ((decide ((hspot (bestP none x x_1 x_3 x_5 x_6).fst).driver = x_7.driver) && (decide ((hspot (bestP none x x_1
  x_3 x_5 x_6).fst).pick = x_7.pick) && (decide ((hspot (bestP none x x_1 x_3 x_5 x_6).fst).drop = x_7.drop) && (decide ((hspot (bestP none x x_1 x_3 x_5 x_6).fst).cost = x_7.cost) && true)))) = !true → false = isH (bestP none x x_1 x_3 x_5
  x_6) x_7 x_8 x_9)) ∧ ∀ (x : MapD), LenOk x.l.length → ∀ (x_2 : Driver) (x_3 : List Order), LenOk x_3.length → ∀ (x_5 : Route), LenOk x_5.stops.length → ∀ (x_7 : Order) (x_8 : Int) (x_9 : Spot) (x_10 x_11 : Int), (∀ (x_12 : MapD), some x =
  some x_12 → MapOk x_12) → (∀ (x_13 : MapD), some x = some x_13 → MapOk x_13) ∧ ((decide ((hspot (bestP (some x) x_2 x_3 x_5 x_7 x_8).fst).driver = x_9.driver) && (decide ((hspot (bestP (some x) x_2 x_3 x_5 x_7 x_8).fst).pick = x_9.pick) &&
  (decide ((hspot (bestP (some x) x_2 x_3 x_5 x_7 x_8).fst).drop = x_9.drop) && (decide ((hspot (bestP (some x) x_2 x_3 x_5 x_7 x_8).fst).cost = x_9.cost) && true)))) = true → (decide ((bestP (some x) x_2 x_3 x_5 x_7 x_8).fst.steps = x_10) =
  true → decide ((bestP (some x) x_2 x_3 x_5 x_7 x_8).snd = x_11) = isH (bestP (some x) x_2 x_3 x_5 x_7 x_8) x_9 x_10 x_11) ∧ (decide ((bestP (some x) x_2 x_3 x_5 x_7 x_8).fst.steps = x_10) = !true → false = isH (bestP (some x) x_2 x_3 x_5
  x_7 x_8) x_9 x_10 x_11)) ∧ ((decide ((hspot (bestP (some x) x_2 x_3 x_5 x_7 x_8).fst).driver = x_9.driver) && (decide ((hspot (bestP (some x) x_2 x_3 x_5 x_7 x_8).fst).pick = x_9.pick) && (decide ((hspot (bestP (some x) x_2 x_3 x_5 x_7
  x_8).fst).drop = x_9.drop) && (decide ((hspot (bestP (some x) x_2 x_3 x_5 x_7 x_8).fst).cost = x_9.cost) && true)))) = !true → false = isH (bestP (some x) x_2 x_3 x_5 x_7 x_8) x_9 x_10 x_11)
theorem lbest_told (hc : CsOk Try.prog lbest_cs) (h : lbest_vc) : Told Try.prog 22 lbest_con := told (A := lbest_la) tabOk mixed hc Try.func22 (by kernel_rfl) (by kernel_rfl) h
def oneR_vc : Prop :=
  ∀ (x : List Route), (LenOk x.length ∧ ∀ (r : Route), List.Mem r x → LenOk r.stops.length) → ∀ (x_2 : Int), (decide ((↑x.length : Int) = (0 : Int)) = true → ((0 : Int) = (oneP x x_2).driver ∧ (0 : Int) = (oneP x x_2).served) ∧ (oneP x
  x_2).stops = nilOf Stop) ∧ (decide ((↑x.length : Int) = (0 : Int)) = false → ((0 : Int) ≤ wrap ((↑x.length : Int) - (1 : Int)) ∧ (0 : Int) ≤ (0 : Int) ∧ wrap ((↑x.length : Int) - (1 : Int)) ≤ (9223372036854775806 : Int)) ∧ ((0 : Int) ≤
  bwithin x_2 (0 : Int) (wrap ((↑x.length : Int) - (1 : Int))) ∧ bwithin x_2 (0 : Int) (wrap ((↑x.length : Int) - (1 : Int))) < (↑x.length : Int)) ∧ (bwithin x_2 (0 : Int) (wrap ((↑x.length : Int) - (1 : Int)))).toNat < x.length ∧ ((x.getD
  (bwithin x_2 (0 : Int) (wrap ((↑x.length : Int) - (1 : Int)))).toNat (Route.mk (0 : Int) (0 : Int) [])).driver = (oneP x x_2).driver ∧ (x.getD (bwithin x_2 (0 : Int) (wrap ((↑x.length : Int) - (1 : Int)))).toNat (Route.mk (0 : Int) (0 :
  Int) [])).served = (oneP x x_2).served) ∧ (x.getD (bwithin x_2 (0 : Int) (wrap ((↑x.length : Int) - (1 : Int)))).toNat (Route.mk (0 : Int) (0 : Int) [])).stops = (oneP x x_2).stops)
theorem oneR_told (hc : CsOk Try.prog oneR_cs) (h : oneR_vc) : Told Try.prog 11 oneR_con := told (A := oneR_la) tabOk mixed hc Try.func11 (by kernel_rfl) (by kernel_rfl) h
end Go.Eng
