/- Orders that are known have each their own number; what a driver holds. -/
import Derived.Test.YtkokggepghghdaaRouteOk2
set_option linter.unusedVariables false
set_option linter.unusedSimpArgs false
namespace Go.Eng
open Go Go.Proofs
def Apart (os : List Order) : Prop := os.Pairwise fun a b => a.id ≠ b.id
theorem known_iff {m : Option MapD} {os : List Order} : knownO m os = true ↔ os.length ≤ 40 ∧ (∀ o ∈ os, orderE m o = 0) ∧ Apart os := by
  constructor
  · intro h
    obtain ⟨h1, h2⟩ := known_at h
    refine ⟨h1, fun o ho => ?_, List.pairwise_iff_getElem.2 fun i j hi hj hij => ?_⟩
    · obtain ⟨k, hk, rfl⟩ := List.getElem_of_mem ho
      have := (h2 k hk).1
      rwa [getD_of hk] at this
    · have := (h2 j hj).2
      rw [getD_of hj] at this
      simp only [idFree, List.all_eq_true, Bool.not_eq_true', decide_eq_false_iff_not] at this
      exact this _ (List.mem_take_iff_getElem.2 ⟨i, by omega, rfl⟩)
  · rintro ⟨h1, h2, h3⟩
    simp only [knownO, okAt, Bool.and_eq_true, decide_eq_true_eq, List.all_eq_true, List.mem_range]
    refine ⟨h1, fun k hk => ?_⟩
    rw [getD_of hk]
    refine ⟨h2 _ (List.getElem_mem _), ?_⟩
    simp only [idFree, List.all_eq_true, Bool.not_eq_true', decide_eq_false_iff_not]
    intro p hp
    obtain ⟨i, hi, rfl⟩ := List.mem_take_iff_getElem.1 hp
    exact List.pairwise_iff_getElem.1 h3 i k (by omega) hk (by omega)
theorem findO_of : ∀ {os : List Order} {o : Order}, Apart os → o ∈ os → findO os o.id = some o
  | x :: l, o, h, ho => by
    obtain ⟨h1, h2⟩ := List.pairwise_cons.1 h
    unfold findO
    rcases List.mem_cons.1 ho with rfl | ho
    · rw [if_pos rfl]
    · rw [if_neg (h1 o ho)]
      exact findO_of h2 ho
theorem findO_same {os os' : List Order} {id : Int} (h : Apart os) (h' : Apart os') (hm : ∀ o : Order, o.id = id → (o ∈ os ↔ o ∈ os')) : findO os id = findO os' id := by
  cases hf : findO os id with
  | some o =>
    obtain ⟨h1, h2⟩ := findO_mem hf
    subst h2
    exact (findO_of h' ((hm o rfl).1 h1)).symm
  | none =>
    cases hf' : findO os' id with
    | none => rfl
    | some o =>
      obtain ⟨h1, h2⟩ := findO_mem hf'
      subst h2
      rw [findO_of h ((hm o rfl).2 h1)] at hf
      cases hf

/-! ### What is held -/
def held (ahead : List Stop) (id : Int) : Bool := stands ahead ⟨id, false⟩ && !stands ahead ⟨id, true⟩
def carried (ahead : List Stop) : List Order → Int
  | [] => 0
  | o :: l => (if held ahead o.id then o.size else 0) + carried ahead l
def Paired (ahead : List Stop) : Prop := ∀ id, stands ahead ⟨id, true⟩ = true → stands ahead ⟨id, false⟩ = true
theorem stands_app {l : List Stop} {s x : Stop} : stands (l ++ [s]) x = (stands l x || sEq s x) := by
  unfold stands
  rw [List.any_append]
  simp
theorem carried_nil : ∀ os : List Order, carried [] os = 0
  | [] => rfl
  | o :: l => by
    have : held [] o.id = false := rfl
    simp [carried, this, carried_nil l]
theorem carried_pos {ahead : List Stop} : ∀ {os : List Order}, (∀ o ∈ os, 0 ≤ o.size) → 0 ≤ carried ahead os
  | [], _ => by simp [carried]
  | o :: l, h => by
    have h1 := carried_pos (ahead := ahead) (os := l) fun x hx => h x (List.mem_cons_of_mem _ hx)
    have h2 := h o (List.mem_cons_self ..)
    unfold carried
    split <;> omega
theorem carried_same {a b : List Stop} : ∀ {os : List Order}, (∀ o ∈ os, held a o.id = held b o.id) → carried a os = carried b os
  | [], _ => rfl
  | o :: l, h => by
    unfold carried
    rw [h o (List.mem_cons_self ..), carried_same (os := l) fun x hx => h x (List.mem_cons_of_mem _ hx)]
theorem carried_add {a b : List Stop} : ∀ {os : List Order} {o : Order}, Apart os → o ∈ os → held a o.id = false → held b o.id = true → (∀ id, id ≠ o.id → held b id = held a id) → carried b os = carried a os + o.size
  | x :: l, o, hp, ho, ha, hb, hab => by
    obtain ⟨h1, h2⟩ := List.pairwise_cons.1 hp
    unfold carried
    rcases List.mem_cons.1 ho with rfl | ho
    · rw [ha, hb, carried_same (a := b) (b := a) (os := l) fun y hy => hab _ fun e => h1 y hy e.symm]
      simp
      omega
    · rw [hab x.id (h1 o ho), carried_add h2 ho ha hb hab]
      omega
theorem sEq_iff {a b : Stop} : sEq a b = true ↔ a.order = b.order ∧ a.drop = b.drop := by
  simp [sEq]
theorem load_step {m : Option MapD} {os : List Order} {ahead : List Stop} {s : Stop} {load : Int} (hk : knownO m os = true) (hw : wrongE os ahead s = 0) (hP : Paired ahead) (hl : load = carried ahead os) :
    Paired (ahead ++ [s]) ∧ loadOf os s load = carried (ahead ++ [s]) os := by
  obtain ⟨_, _, hA⟩ := known_iff.1 hk
  have hs := wrongE_some hw
  obtain ⟨o, ho⟩ := Option.isSome_iff_exists.1 hs
  obtain ⟨hm, hid⟩ := findO_mem ho
  have hfo : fo os s.order = o := by unfold fo; rw [ho]; rfl
  obtain ⟨id, dr⟩ := s
  dsimp only at hid hs ho hfo
  subst hid
  unfold wrongE at hw
  rw [if_neg (by rw [ho]; simp)] at hw
  have h16 : stands ahead ⟨o.id, dr⟩ = false := by
    cases h : stands ahead ⟨o.id, dr⟩ with
    | false => rfl
    | true => rw [h, if_pos rfl] at hw; cases hw
  rw [h16, if_neg (by simp)] at hw
  have other : ∀ id, id ≠ o.id → held (ahead ++ [⟨o.id, dr⟩]) id = held ahead id := fun id hne => by
    unfold held
    have e : ∀ b, sEq ⟨o.id, dr⟩ ⟨id, b⟩ = false := fun b => by
      cases h : sEq ⟨o.id, dr⟩ ⟨id, b⟩ with
      | false => rfl
      | true => exact absurd (sEq_iff.1 h).1.symm hne
    rw [stands_app, stands_app, e, e, Bool.or_false, Bool.or_false]
  cases dr with
  | false =>
    have ht : stands ahead ⟨o.id, true⟩ = false := by
      cases h : stands ahead ⟨o.id, true⟩ with
      | false => rfl
      | true => rw [hP _ h] at h16; cases h16
    have e1 : sEq ⟨o.id, false⟩ ⟨o.id, false⟩ = true := sEq_iff.2 ⟨rfl, rfl⟩
    have e2 : ∀ i, sEq ⟨o.id, false⟩ ⟨i, true⟩ = false := fun i => by simp [sEq]
    refine ⟨fun id h => ?_, ?_⟩
    · rw [stands_app, e2, Bool.or_false] at h
      rw [stands_app, hP id h, Bool.true_or]
    · have := carried_add (a := ahead) (b := ahead ++ [⟨o.id, false⟩]) hA hm (by unfold held; rw [h16]; rfl) (by unfold held; rw [stands_app, stands_app, e1, e2, ht]; simp) other
      rw [this, hl]
      simp [loadOf, hfo]
  | true =>
    have ht : stands ahead ⟨o.id, false⟩ = true := by
      cases h : stands ahead ⟨o.id, false⟩ with
      | true => rfl
      | false => rw [h] at hw; cases hw
    have e1 : sEq ⟨o.id, true⟩ ⟨o.id, true⟩ = true := sEq_iff.2 ⟨rfl, rfl⟩
    have e2 : ∀ i, sEq ⟨o.id, true⟩ ⟨i, false⟩ = false := fun i => by simp [sEq]
    refine ⟨fun id h => ?_, ?_⟩
    · rw [stands_app] at h
      rw [stands_app]
      cases h' : stands ahead ⟨id, true⟩ with
      | true => rw [hP id h', Bool.true_or]
      | false =>
        rw [h', Bool.false_or] at h
        have := (sEq_iff.1 h).1
        dsimp only at this
        rw [← this, ht, Bool.true_or]
    · have := carried_add (a := ahead ++ [⟨o.id, true⟩]) (b := ahead) hA hm (by unfold held; rw [stands_app, stands_app, e1, e2]; simp) (by unfold held; rw [ht, h16]; rfl) fun id h => (other id h).symm
      rw [hl, this]
      simp [loadOf, hfo]
end Go.Eng
