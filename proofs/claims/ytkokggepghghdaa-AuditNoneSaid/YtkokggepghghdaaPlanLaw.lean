/- Plans: plain laws of what is right, and what is kept. -/
import Derived.Test.YtkokggepghghdaaAuditKeeps
set_option linter.unusedVariables false
set_option linter.unusedSimpArgs false
namespace Go.Eng
open Go Go.Proofs
theorem routed_driver {id : Int} {p : List Route} {r : Route} (h : routed id p = some r) : r.driver = id := (routed_mem h).2
theorem kept_trans {a b c : List Route} (h : KeptP a b) (h' : KeptP b c) : KeptP a c := by
  obtain ⟨ra, rb, h1, h2⟩ := h
  obtain ⟨_, rc, h3, h4⟩ := h'
  refine ⟨ra, rc, fun r hr => ?_, fun r hr => ?_⟩
  · obtain ⟨q, hq⟩ := Option.isSome_iff_exists.1 (h1 r hr)
    have := h3 q (routed_mem hq).1
    rwa [(routed_mem hq).2] at this
  · have hk := h4 r hr
    unfold keptR at hk ⊢
    cases e : routed r.driver b with
    | none =>
      rw [e] at hk
      cases e' : routed r.driver a with
      | none => exact hk
      | some p =>
        have := h1 p (routed_mem e').1
        rw [(routed_mem e').2, e] at this; cases this
    | some q =>
      rw [e] at hk
      have hq := h2 q (routed_mem e).1
      unfold keptR at hq
      rw [(routed_mem e).2] at hq
      dsimp only [Option.getD] at hk
      refine ⟨hk.1.trans hq.1, ?_⟩
      rw [hk.2, hk.1]; exact hq.2
/-- Routes of the same drivers, with the same done. -/
def SimR (r r' : Route) : Prop := r'.driver = r.driver ∧ r'.served = r.served ∧ r'.stops.take r.served.toNat = r.stops.take r.served.toNat
inductive SimL : List Route → List Route → Prop
  | nil : SimL [] []
  | cons {r r' : Route} {l l' : List Route} : SimR r r' → SimL l l' → SimL (r :: l) (r' :: l')
theorem SimL.refl : ∀ (l : List Route), SimL l l
  | [] => .nil
  | r :: l => .cons ⟨rfl, rfl, rfl⟩ (SimL.refl l)
theorem SimL.symm {l l' : List Route} (h : SimL l l') : SimL l' l := by
  induction h with
  | nil => exact .nil
  | cons h _ ih => exact .cons ⟨h.1.symm, h.2.1.symm, by rw [h.2.1]; exact h.2.2.symm⟩ ih
theorem SimL.routed {l l' : List Route} (h : SimL l l') (id : Int) : (routed id l = none → Go.Eng.routed id l' = none) ∧ ∀ r, routed id l = some r → ∃ r', Go.Eng.routed id l' = some r' ∧ SimR r r' := by
  induction h with
  | nil => exact ⟨fun _ => rfl, fun r h => by cases h⟩
  | @cons r r' l l' h _ ih =>
    simp only [Go.Eng.routed]
    rw [h.1]
    by_cases e : r.driver = id
    · rw [if_pos e, if_pos e]
      exact ⟨fun q => (by cases q), fun q hq => by cases hq; exact ⟨r', rfl, h⟩⟩
    · rw [if_neg e, if_neg e]; exact ih
theorem sim_kept {l l' : List Route} (h : SimL l l') (hl : RightP l) (hl' : RightP l') : KeptP l l' := by
  refine ⟨hl, hl', fun r hr => ?_, fun r hr => ?_⟩
  · obtain ⟨r', e, _⟩ := (h.routed r.driver).2 r (routed_self hl.2 r hr)
    rw [e]; rfl
  · obtain ⟨q, e, hs⟩ := (h.symm.routed r.driver).2 r (routed_self hl'.2 r hr)
    unfold keptR
    rw [e]
    exact ⟨hs.2.1.symm, hs.2.2.symm⟩
def Rise : Int → List Route → Prop
  | _, [] => True
  | last, r :: l => okR1 last r ∧ Rise r.driver l
def flatS (p : List Route) : List Stop := p.flatMap (·.stops)
theorem okS_iff {all l : List Stop} : okS all l ↔ (∀ s ∈ l, (1 ≤ s.order ∧ s.order ≤ 1000000) ∧ s ∉ all) ∧ l.Nodup := by
  induction l generalizing all with
  | nil => simp [okS]
  | cons s l ih =>
    rw [okS, ih, List.nodup_cons]
    constructor
    · rintro ⟨⟨h1, h2, h3⟩, h4, h5⟩
      refine ⟨fun t ht => ?_, fun hm => ?_, h5⟩
      · rcases List.mem_cons.1 ht with rfl | ht
        · exact ⟨⟨h1, h2⟩, h3⟩
        · have := h4 t ht
          exact ⟨this.1, fun q => this.2 (by simp [q])⟩
      · exact (h4 s hm).2 (by simp)
    · rintro ⟨h1, h2, h3⟩
      have hs := h1 s (by simp)
      refine ⟨⟨hs.1.1, hs.1.2, hs.2⟩, fun t ht => ⟨(h1 t (by simp [ht])).1, ?_⟩, h3⟩
      intro q
      rcases List.mem_append.1 q with q | q
      · exact (h1 t (by simp [ht])).2 q
      · rw [List.mem_singleton.1 q] at ht; exact h2 ht
theorem okR_iff {last : Int} {all : List Stop} {p : List Route} : okR last all p ↔ Rise last p ∧ okS all (flatS p) := by
  induction p generalizing last all with
  | nil => simp [okR, Rise, flatS, okS]
  | cons r l ih =>
    rw [okR, Rise, ih]
    have : flatS (r :: l) = r.stops ++ flatS l := by simp [flatS]
    rw [this, okS_iff, okS_iff, okS_iff, List.nodup_append]
    constructor
    · rintro ⟨h1, ⟨h2, h3⟩, h4, h5, h6⟩
      refine ⟨⟨h1, h4⟩, fun s hs => ?_, h3, h6, fun a ha b hb e => ?_⟩
      · rcases List.mem_append.1 hs with q | q
        · exact h2 s q
        · have := h5 s q; exact ⟨this.1, fun z => this.2 (by simp [z])⟩
      · subst e; exact (h5 a hb).2 (by simp [ha])
    · rintro ⟨⟨h1, h4⟩, h2, h3, h6, h7⟩
      refine ⟨h1, ⟨fun s hs => h2 s (by simp [hs]), h3⟩, h4, fun s hs => ⟨(h2 s (by simp [hs])).1, fun q => ?_⟩, h6⟩
      rcases List.mem_append.1 q with q | q
      · exact (h2 s (by simp [hs])).2 q
      · exact h7 s q s hs rfl
theorem right_iff' {p : List Route} : RightP p ↔ p.length ≤ 8 ∧ Rise 0 p ∧ (∀ s ∈ flatS p, 1 ≤ s.order ∧ s.order ≤ 1000000) ∧ (flatS p).Nodup := by
  unfold RightP
  rw [okR_iff, okS_iff]
  simp
theorem findP_none {id : Int} {p : List Route} (h : findP id p = none) : ∀ s ∈ flatS p, s.order ≠ id := by
  induction p with
  | nil => simp [flatS]
  | cons r l ih =>
    rw [findP] at h
    split at h
    · cases h
    · rename_i hn
      intro s hs
      have : flatS (r :: l) = r.stops ++ flatS l := by simp [flatS]
      rw [this] at hs
      rcases List.mem_append.1 hs with q | q
      · rintro rfl
        apply hn
        cases hd : s.drop with
        | false => left; exact whereS_iff.2.2 (stands_iff.2 (by cases s; simp_all))
        | true => right; exact whereS_iff.2.2 (stands_iff.2 (by cases s; simp_all))
      · exact ih h s q
theorem putS_perm {ss : List Stop} {id i j : Int} (h : 0 ≤ i ∧ i ≤ j ∧ j ≤ ss.length) : (putS ss id i j).Perm (⟨id, false⟩ :: ⟨id, true⟩ :: ss) := by
  rw [putS_in h]
  have e : ss = ss.take i.toNat ++ ((ss.drop i.toNat).take (j.toNat - i.toNat) ++ ss.drop j.toNat) := by
    have h1 : ss.drop j.toNat = (ss.drop i.toNat).drop (j.toNat - i.toNat) := by rw [List.drop_drop]; congr 1; omega
    rw [h1, List.take_append_drop, List.take_append_drop]
  generalize ss.take i.toNat = A at *
  generalize (ss.drop i.toNat).take (j.toNat - i.toNat) = B at *
  generalize ss.drop j.toNat = C at *
  rw [e]
  have p1 : (A ++ [(⟨id, false⟩ : Stop)] ++ B ++ [(⟨id, true⟩ : Stop)] ++ C).Perm ((⟨id, false⟩ : Stop) :: (A ++ B ++ [(⟨id, true⟩ : Stop)] ++ C)) := by
    simp only [List.append_assoc, List.singleton_append]
    exact List.perm_middle
  refine p1.trans (.cons _ ?_)
  have : A ++ B ++ [(⟨id, true⟩ : Stop)] ++ C = (A ++ B) ++ ⟨id, true⟩ :: C := by simp
  rw [this]
  refine List.perm_middle.trans ?_
  rw [List.append_assoc]
theorem putS_take {ss : List Stop} {id i j : Int} {n : Nat} (h : 0 ≤ i ∧ i ≤ j ∧ j ≤ ss.length) (hn : n ≤ i.toNat) : (putS ss id i j).take n = ss.take n := by
  rw [putS_in h]
  simp only [List.append_assoc]
  rw [List.take_append_of_le_length (by rw [List.length_take]; omega), List.take_take]
  congr 1; omega
theorem withAt_sim {id : Int} {s : Spot} : ∀ {p x : List Route} {last : Int}, withAt id s p = some x → Rise last p → Rise last x ∧ SimL p x ∧ (flatS x).Perm (⟨id, false⟩ :: ⟨id, true⟩ :: flatS p) ∧ x.length = p.length
  | [], x, last, h, _ => by cases h
  | r :: l, x, last, h, hr => by
    rw [withAt] at h
    split at h
    · split at h
      · rename_i hd hs
        cases h
        simp only [spotOk, Bool.and_eq_true, decide_eq_true_eq] at hs
        obtain ⟨h1, h2⟩ := hr
        obtain ⟨o1, o2, o3, o4, o5⟩ := h1
        have hb : 0 ≤ s.pick ∧ s.pick ≤ s.drop ∧ s.drop ≤ r.stops.length := by omega
        have hlen := putS_length (id := id) hb
        refine ⟨⟨⟨o1, o2, by dsimp only; omega, o4, by dsimp only; omega⟩, h2⟩, .cons ⟨rfl, rfl, putS_take hb (by omega)⟩ (.refl l), ?_, rfl⟩
        have e1 : flatS (⟨r.driver, r.served, putS r.stops id s.pick s.drop⟩ :: l) = putS r.stops id s.pick s.drop ++ flatS l := by simp [flatS]
        have e2 : flatS (r :: l) = r.stops ++ flatS l := by simp [flatS]
        rw [e1, e2]
        exact (putS_perm hb).append_right (flatS l)
      · cases h
    · cases hw : withAt id s l with
      | none => rw [hw] at h; cases h
      | some l' =>
        rw [hw] at h
        cases h
        obtain ⟨i1, i2, i3, i4⟩ := withAt_sim hw hr.2
        refine ⟨⟨hr.1, i1⟩, .cons ⟨rfl, rfl, rfl⟩ i2, ?_, by simp [i4]⟩
        have e1 : flatS (r :: l') = r.stops ++ flatS l' := by simp [flatS]
        have e2 : flatS (r :: l) = r.stops ++ flatS l := by simp [flatS]
        rw [e1, e2]
        refine (i3.append_left r.stops).trans ?_
        refine List.perm_middle.trans (.cons _ ?_)
        exact List.perm_middle
theorem with_right {p x : List Route} {id : Int} {s : Spot} (h : withP p id s = some x) : RightP p ∧ RightP x ∧ SimL p x := by
  unfold withP at h
  split at h
  · rename_i hc
    simp only [Bool.and_eq_true, decide_eq_true_eq] at hc
    obtain ⟨⟨⟨c1, c2⟩, c3⟩, c4⟩ := hc
    have hR := rightP_iff.1 c1
    obtain ⟨r1, r2, r3, r4⟩ := right_iff'.1 hR
    obtain ⟨w1, w2, w3, w4⟩ := withAt_sim h r2
    refine ⟨hR, right_iff'.2 ⟨by omega, w1, fun t ht => ?_, ?_⟩, w2⟩
    · have := w3.mem_iff.1 ht
      simp only [List.mem_cons] at this
      rcases this with rfl | rfl | q
      · exact ⟨c2, c3⟩
      · exact ⟨c2, c3⟩
      · exact r3 t q
    · rw [w3.nodup_iff, List.nodup_cons, List.nodup_cons]
      have hf := findP_none (by simpa using c4 : findP id p = none)
      refine ⟨?_, ?_, r4⟩
      · intro q
        rcases List.mem_cons.1 q with q | q
        · cases q
        · exact hf _ q rfl
      · intro q; exact hf _ q rfl
  · cases h
theorem filter_take {α : Type} {f : α → Bool} : ∀ {l : List α} {n : Nat}, (∀ x ∈ l.take n, f x = true) → (l.filter f).take n = l.take n
  | [], n, _ => by simp
  | x :: l, 0, _ => by simp
  | x :: l, n + 1, h => by
    rw [List.take_succ_cons] at h
    have hx := h x (by simp)
    rw [List.filter_cons_of_pos hx, List.take_succ_cons, List.take_succ_cons, filter_take fun y hy => h y (by simp [hy])]
theorem without_right {p : List Route} {ids : List Int} (h : RightP p) : RightP (withoutP p ids) ∧ SimL p (withoutP p ids) := by
  have hk : ∀ r ∈ p, ∀ s ∈ r.stops.take r.served.toNat, (!goneP p ids s.order) = true := by
    intro r hr s hs
    have : begunP s.order p = true := by
      unfold begunP
      rw [List.any_eq_true]
      refine ⟨r, hr, ?_⟩
      rw [List.any_eq_true]
      exact ⟨s, hs, decide_eq_true rfl⟩
    simp [goneP, this]
  have ht : ∀ r ∈ p, (keepS p ids r.stops).take r.served.toNat = r.stops.take r.served.toNat := fun r hr => filter_take (hk r hr)
  have hsub : ∀ l : List Route, (flatS (l.map fun r => (⟨r.driver, r.served, keepS p ids r.stops⟩ : Route))).Sublist (flatS l) := by
    intro l
    induction l with
    | nil => exact .slnil
    | cons r l ih =>
      have e1 : flatS ((r :: l).map fun r => (⟨r.driver, r.served, keepS p ids r.stops⟩ : Route)) = keepS p ids r.stops ++ flatS (l.map fun r => (⟨r.driver, r.served, keepS p ids r.stops⟩ : Route)) := by simp [flatS]
      have e2 : flatS (r :: l) = r.stops ++ flatS l := by simp [flatS]
      rw [e1, e2]
      exact List.filter_sublist.append ih
  have hsim : ∀ (l : List Route), (∀ r ∈ l, r ∈ p) → SimL l (l.map fun r => (⟨r.driver, r.served, keepS p ids r.stops⟩ : Route)) := by
    intro l
    induction l with
    | nil => intro _; exact .nil
    | cons r l ih => intro hl; exact .cons ⟨rfl, rfl, ht r (hl r (by simp))⟩ (ih fun q hq => hl q (by simp [hq]))
  have hrise : ∀ (l : List Route) (last : Int), (∀ r ∈ l, r ∈ p) → Rise last l → Rise last (l.map fun r => (⟨r.driver, r.served, keepS p ids r.stops⟩ : Route)) := by
    intro l
    induction l with
    | nil => intro _ _ _; trivial
    | cons r l ih =>
      intro last hl hr
      obtain ⟨⟨o1, o2, o3, o4, o5⟩, h2⟩ := hr
      refine ⟨⟨o1, o2, ?_, o4, ?_⟩, ih _ (fun q hq => hl q (by simp [hq])) h2⟩
      · have : (keepS p ids r.stops).length ≤ r.stops.length := List.length_filter_le _ _
        dsimp only; omega
      · have := congrArg List.length (ht r (hl r (by simp)))
        rw [List.length_take, List.length_take] at this
        dsimp only; omega
  obtain ⟨r1, r2, r3, r4⟩ := right_iff'.1 h
  refine ⟨right_iff'.2 ⟨by simpa [withoutP] using r1, hrise p 0 (fun _ h => h) r2, fun s hs => r3 s ((hsub p).mem hs), (hsub p).nodup r4⟩, hsim p fun _ h => h⟩
theorem right_one {p : List Route} {r : Route} (h : RightP p) (hr : r ∈ p) : RightP [r] ∧ r.stops.Nodup := by
  have hm := okR_mem h.2 r hr
  obtain ⟨r1, r2, r3, r4⟩ := right_iff'.1 h
  have hs : r.stops.Sublist (flatS p) := by
    obtain ⟨a, b, rfl⟩ := List.append_of_mem hr
    have : flatS (a ++ r :: b) = flatS a ++ (r.stops ++ flatS b) := by simp [flatS]
    rw [this]
    exact (List.sublist_append_left _ _).trans (List.sublist_append_right _ _)
  have hn := hs.nodup r4
  have e : flatS [r] = r.stops := by simp [flatS]
  refine ⟨right_iff'.2 ⟨by simp, ⟨⟨hm.1, hm.2.1, hm.2.2.1, hm.2.2.2.1, hm.2.2.2.2⟩, trivial⟩, fun s hs' => ?_, by rw [e]; exact hn⟩, hn⟩
  rw [e] at hs'
  exact r3 s (hs.mem hs')
end Go.Eng
