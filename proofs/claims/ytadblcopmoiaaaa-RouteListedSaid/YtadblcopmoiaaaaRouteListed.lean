/- Orders that are listed the other way round, or without those that have no stop. -/
import Derived.Test.YtadblcopmoiaaaaRouteListedVc
import Derived.Test.YtadblcopmoiaaaaRouteCut
import Derived.Test.YtadblcopmoiaaaaRouteRuns
set_option linter.unusedVariables false
set_option linter.unusedSimpArgs false
namespace Go.Eng
open Go Go.Proofs
def Apart (os : List Order) : Prop := os.Pairwise fun a b => a.id ≠ b.id
theorem known_iff {m : Option MapD} {os : List Order} : knownO m os = true ↔ os.length ≤ 40 ∧ (∀ o ∈ os, orderE m o = 0) ∧ Apart os := by
  constructor
  · intro h
    obtain ⟨h1, h2⟩ := known_at h
    refine ⟨h1, fun o ho => ?_, List.pairwise_iff_getElem.2 fun i j hi hj hij => ?_⟩
    · obtain ⟨k, hk, rfl⟩ := List.getElem_of_mem ho
      have := (h2 k hk).1
      rwa [getD_of hk] at this
    · have := (h2 j hj).2
      rw [getD_of hj] at this
      simp only [idFree, List.all_eq_true, Bool.not_eq_true', decide_eq_false_iff_not] at this
      exact this _ (List.mem_take_iff_getElem.2 ⟨i, by omega, rfl⟩)
  · rintro ⟨h1, h2, h3⟩
    simp only [knownO, okAt, Bool.and_eq_true, decide_eq_true_eq, List.all_eq_true, List.mem_range]
    refine ⟨h1, fun k hk => ?_⟩
    rw [getD_of hk]
    refine ⟨h2 _ (List.getElem_mem _), ?_⟩
    simp only [idFree, List.all_eq_true, Bool.not_eq_true', decide_eq_false_iff_not]
    intro p hp
    obtain ⟨i, hi, rfl⟩ := List.mem_take_iff_getElem.1 hp
    exact List.pairwise_iff_getElem.1 h3 i k (by omega) hk (by omega)
theorem findO_of : ∀ {os : List Order} {o : Order}, Apart os → o ∈ os → findO os o.id = some o
  | x :: l, o, h, ho => by
    obtain ⟨h1, h2⟩ := List.pairwise_cons.1 h
    unfold findO
    rcases List.mem_cons.1 ho with rfl | ho
    · rw [if_pos rfl]
    · rw [if_neg (h1 o ho)]
      exact findO_of h2 ho
theorem findO_same {os os' : List Order} {id : Int} (h : Apart os) (h' : Apart os') (hm : ∀ o : Order, o.id = id → (o ∈ os ↔ o ∈ os')) : findO os id = findO os' id := by
  cases hf : findO os id with
  | some o =>
    obtain ⟨h1, h2⟩ := findO_mem hf
    subst h2
    exact (findO_of h' ((hm o rfl).1 h1)).symm
  | none =>
    cases hf' : findO os' id with
    | none => rfl
    | some o =>
      obtain ⟨h1, h2⟩ := findO_mem hf'
      subst h2
      rw [findO_of h ((hm o rfl).2 h1)] at hf
      cases hf
theorem driveGo_find {m : MapD} {d : Driver} {os os' : List Order} : ∀ (l ahead : List Stop) (p : Pos), (∀ s ∈ l, findO os s.order = findO os' s.order) → driveGo m d os ahead l p = driveGo m d os' ahead l p
  | [], ahead, p, _ => by unfold driveGo; rfl
  | s :: l, ahead, p, h => by
    have hs := h s (List.mem_cons_self ..)
    have e1 : fo os s.order = fo os' s.order := by unfold fo; rw [hs]
    have e2 : stopSite os s = stopSite os' s := by unfold stopSite; rw [e1]
    have e3 : ∀ n, loadOf os s n = loadOf os' s n := fun n => by unfold loadOf; rw [e1]
    have e4 : wrongE os ahead s = wrongE os' ahead s := by unfold wrongE; rw [hs]
    have e5 : tryStop m d os ahead s p = tryStop m d os' ahead s p := by unfold tryStop; rw [e2, e3, e4]
    have e6 : ∀ v, after os s v = after os' s v := fun v => by unfold after; rw [e2]
    have e7 : ∀ v, driveGo m d os (ahead ++ [s]) l (after os s v) = driveGo m d os' (ahead ++ [s]) l (after os' s v) := fun v => by
      rw [e6]
      exact driveGo_find l (ahead ++ [s]) _ fun s hs => h s (List.mem_cons_of_mem _ hs)
    unfold driveGo
    rw [e5]
    cases tryStop m d os' ahead s p with
    | error e => rfl
    | ok v => dsimp only; rw [e7]
theorem drive_find {m : MapD} {d : Driver} {os os' : List Order} {ss : List Stop} (hf : fitB (some m) d os ss = true) (hl : os'.length ≤ os.length) (ha : Apart os') (hs : ∀ o ∈ os', o ∈ os) (hm : ∀ s ∈ ss, ∀ o ∈ os, o.id = s.order → o ∈ os') :
    drive (some m) d os' ss = drive (some m) d os ss := by
  obtain ⟨f1, f2, f3⟩ := fitB_iff.1 hf
  obtain ⟨k1, k2, k3⟩ := known_iff.1 f2
  have k : knownO (some m) os' = true := known_iff.2 ⟨by omega, fun o ho => k2 o (hs o ho), ha⟩
  rw [drive_fit hf, drive_fit (fitB_iff.2 ⟨f1, k, f3⟩)]
  exact driveGo_find ss [] _ fun s hx => findO_same ha k3 fun o ho => ⟨hs o, fun hi => hm s hx o hi ho⟩
def usedB (ss : List Stop) (o : Order) : Bool := ss.any fun s => decide (s.order = o.id)
theorem any_step {ss : List Stop} {p : Stop → Bool} {k : Nat} (h : k < ss.length) (z : Stop) : (ss.take (k + 1)).any p = ((ss.take k).any p || p (ss.getD k z)) := by
  rw [List.take_succ_eq_append_getElem h, List.any_append, getD_of h]
  simp
theorem drop_step {os : List Order} {k : Nat} (h : k < os.length) (z : Order) : (os.drop k).reverse = (os.drop (k + 1)).reverse ++ [os.getD k z] := by
  rw [getD_of h, List.drop_eq_getElem_cons h, List.reverse_cons]
theorem routeListed_ok : routeListed_vc := by
  unfold routeListed_vc
  simp only [bad_false, int0, nilOf, decide_eq_true_eq, decide_eq_false_iff_not, Bool.not_eq_true', Bool.not_eq_false', Bool.not_true, Bool.not_false, Bool.false_eq_true, Bool.true_eq_false, eq_self, true_and, and_true, false_or, or_false, false_implies, true_implies, implies_true, Int.not_lt, Int.not_le, gt_iff_lt, ge_iff_le, ne_eq]
  intro w how d ss hss hg
  have hol := how.2.2.1.le
  have hsl := hss.le
  have bad1 : ∀ m : Option MapD, (fauR (drive m d w.orders ss)).why = 1 → visR (drive m d w.orders ss) = [] := fun m h => by
    cases hr : drive m d w.orders ss with
    | ok vs => rw [hr] at h; cases h
    | error f => rfl
  refine ⟨fun h => ?_, fun h => ?_⟩
  · have hm : ∀ (x : MapD), none = some x → MapOk x := mapOkO_none
    simp only [eq_true hm, true_and]
    refine ⟨fun h => ?_, fun h => absurd rfl h⟩
    simp [bad1 _ h]
  · have hm := mapOkO_some h
    simp only [eq_true hm, true_and]
    refine ⟨fun h => ?_, fun h => ?_⟩
    · simp [bad1 _ h]
    · have hf : fitB (some ⟨w.n, w.times⟩) d w.orders ss = true := by
        cases hf : fitB (some ⟨w.n, w.times⟩) d w.orders ss with
        | true => rfl
        | false => rw [drive_unfit hf] at h; exact absurd rfl h
      have hk := known_iff.1 (fitB_iff.1 hf).2.1
      have few := hk.1
      have d1 : drive (some ⟨w.n, w.times⟩) d w.orders.reverse ss = drive (some ⟨w.n, w.times⟩) d w.orders ss := by
        refine drive_find hf (by simp) ?_ (fun o ho => by simpa using ho) (fun s _ o ho _ => by simpa using ho)
        exact List.pairwise_reverse.2 (hk.2.2.imp fun h => fun e => h e.symm)
      have d2 : drive (some ⟨w.n, w.times⟩) d (w.orders.reverse.filter (usedB ss)) ss = drive (some ⟨w.n, w.times⟩) d w.orders ss := by
        refine drive_find hf ?_ ?_ (fun o ho => by simpa using (List.mem_filter.1 ho).1) fun s hs o ho he => ?_
        · have := List.length_filter_le (usedB ss) w.orders.reverse
          simpa using this
        · exact (List.pairwise_reverse.2 (hk.2.2.imp fun h => fun e => h e.symm)).sublist List.filter_sublist
        · refine List.mem_filter.2 ⟨by simpa using ho, List.any_eq_true.2 ⟨s, hs, ?_⟩⟩
          rw [he]; exact decide_eq_true rfl
      refine ⟨fun x y i => -1 ≤ i ∧ i < w.orders.length ∧ y = (w.orders.drop (i + 1).toNat).reverse ∧ x = y.filter (usedB ss), fun _ _ i => (i + 1).toNat, ?_, fun x y i hi => ⟨fun h0 => ?_, fun h0 => ?_⟩⟩
      · rw [wrap_id (by omega) (by omega)]
        refine ⟨by omega, by omega, ?_, ?_⟩
        · rw [List.drop_eq_nil_of_le (by omega)]; rfl
        · rfl
      · obtain ⟨i0, i1, hy, hx⟩ := hi
        have iN : i.toNat < w.orders.length := by omega
        have ly : y.length ≤ 40 := by rw [hy, List.length_reverse, List.length_drop]; omega
        have lx : x.length ≤ 40 := by have := List.length_filter_le (usedB ss) y; rw [← hx] at this; omega
        have hs := drop_step iN (FK.zero .order)
        rw [show i.toNat + 1 = (i + 1).toNat by omega, ← hy] at hs
        have wi : wrap (i - 1) = i - 1 := wrap_id (by omega) (by omega)
        generalize w.orders.getD i.toNat (FK.zero .order) = o at *
        refine ⟨⟨h0, i1⟩, iN, by simp only [List.length_singleton]; omega, fun u k => 0 ≤ k ∧ k ≤ ss.length ∧ u = (ss.take k.toNat).any fun s => decide (s.order = o.id), fun _ k => ss.length - k.toNat, ⟨by omega, by omega, by simp⟩, fun u k hk => ⟨fun k1 => ⟨fun hu => ?_, fun hu => ?_⟩, fun k1 => ⟨fun hu => ?_, fun hu => ?_⟩⟩⟩
        · obtain ⟨k2, k3, k4⟩ := hk
          have st := any_step (p := fun s => decide (s.order = o.id)) (show k.toNat < ss.length by omega) (FK.zero .stop)
          rw [wrap_id (n := k + 1) (by omega) (by omega)]
          refine ⟨⟨k2, k1⟩, by omega, ⟨h0, i1⟩, iN, ⟨by omega, by omega, ?_⟩, by dsimp only; omega⟩
          rw [show (k + 1).toNat = k.toNat + 1 by omega, st, ← k4, hu]
          simp
        · obtain ⟨k2, k3, k4⟩ := hk
          have st := any_step (p := fun s => decide (s.order = o.id)) (show k.toNat < ss.length by omega) (FK.zero .stop)
          rw [wrap_id (n := k + 1) (by omega) (by omega)]
          refine ⟨⟨by omega, by omega, ?_⟩, by dsimp only; omega⟩
          rw [show (k + 1).toNat = k.toNat + 1 by omega, st, ← k4, hu]
          rfl
        · obtain ⟨k2, k3, k4⟩ := hk
          rw [List.take_of_length_le (by omega)] at k4
          have hu' : usedB ss o = true := by unfold usedB; rw [← k4]; exact hu
          refine ⟨⟨h0, i1⟩, iN, by simp only [List.length_singleton]; omega, ?_⟩
          rw [wi]
          refine ⟨⟨by omega, by omega, ?_, ?_⟩, by dsimp only; omega⟩
          · rw [show i - 1 + 1 = i by omega, hs]
          · rw [List.filter_append, ← hx]; simp [hu']
        · obtain ⟨k2, k3, k4⟩ := hk
          rw [List.take_of_length_le (by omega)] at k4
          have hu' : usedB ss o = false := by unfold usedB; rw [← k4]; exact hu
          rw [wi]
          refine ⟨⟨by omega, by omega, ?_, ?_⟩, by dsimp only; omega⟩
          · rw [show i - 1 + 1 = i by omega, hs]
          · rw [List.filter_append, ← hx]; simp [hu']
      · obtain ⟨i0, i1, hy, hx⟩ := hi
        have : (i + 1).toNat = 0 := by omega
        rw [this, List.drop_zero] at hy
        rw [hy] at hx
        subst hy
        subst hx
        rw [d1, d2]
        simp [same_self]
theorem routeListed_t : Told Try.prog 8 routeListed_con := routeListed_told (csOk_cons maps_t (csOk_cons drive_t (csOk_cons routeRuns_t (csOk_cons sameV_t csOk_nil)))) routeListed_ok
end Go.Eng
