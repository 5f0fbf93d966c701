/- Plans: plain laws of what is right, and what is kept. -/
import Derived.Test.YtkokggepghghdaaZ2LawCertMakes
import Derived.KernelRfl
set_option linter.unusedVariables false
set_option linter.unusedSimpArgs false
namespace Go.Eng
open Go Go.Proofs
theorem routed_driver {id : Int} {p : List Route} {r : Route} (h : routed id p = some r) : r.driver = id := (routed_mem h).2
theorem kept_trans {a b c : List Route} (h : KeptP a b) (h' : KeptP b c) : KeptP a c := by
  obtain ⟨ra, rb, h1, h2⟩ := h
  obtain ⟨_, rc, h3, h4⟩ := h'
  refine ⟨ra, rc, fun r hr => ?_, fun r hr => ?_⟩
  · obtain ⟨q, hq⟩ := Option.isSome_iff_exists.1 (h1 r hr)
    have := h3 q (routed_mem hq).1
    rwa [(routed_mem hq).2] at this
  · have hk := h4 r hr
    unfold keptR at hk ⊢
    cases e : routed r.driver b with
    | none =>
      rw [e] at hk
      cases e' : routed r.driver a with
      | none => exact hk
      | some p =>
        have := h1 p (routed_mem e').1
        rw [(routed_mem e').2, e] at this; cases this
    | some q =>
      rw [e] at hk
      have hq := h2 q (routed_mem e).1
      unfold keptR at hq
      rw [(routed_mem e).2] at hq
      dsimp only [Option.getD] at hk
      refine ⟨hk.1.trans hq.1, ?_⟩
      rw [hk.2, hk.1]; exact hq.2
/-- Routes of the same drivers, with the same done. -/
def SimR (r r' : Route) : Prop := r'.driver = r.driver ∧ r'.served = r.served ∧ r'.stops.take r.served.toNat = r.stops.take r.served.toNat
inductive SimL : List Route → List Route → Prop
  | nil : SimL [] []
  | cons {r r' : Route} {l l' : List Route} : SimR r r' → SimL l l' → SimL (r :: l) (r' :: l')
theorem SimL.refl : ∀ (l : List Route), SimL l l
  | [] => .nil
  | r :: l => .cons ⟨rfl, rfl, rfl⟩ (SimL.refl l)
theorem SimL.symm {l l' : List Route} (h : SimL l l') : SimL l' l := by
  induction h with
  | nil => exact .nil
  | cons h _ ih => exact .cons ⟨h.1.symm, h.2.1.symm, by rw [h.2.1]; exact h.2.2.symm⟩ ih
theorem SimL.routed {l l' : List Route} (h : SimL l l') (id : Int) : (routed id l = none → Go.Eng.routed id l' = none) ∧ ∀ r, routed id l = some r → ∃ r', Go.Eng.routed id l' = some r' ∧ SimR r r' := by
  induction h with
  | nil => exact ⟨fun _ => rfl, fun r h => by cases h⟩
  | @cons r r' l l' h _ ih =>
    simp only [Go.Eng.routed]
    rw [h.1]
    by_cases e : r.driver = id
    · rw [if_pos e, if_pos e]
      exact ⟨fun q => (by cases q), fun q hq => by cases hq; exact ⟨r', rfl, h⟩⟩
    · rw [if_neg e, if_neg e]; exact ih
theorem sim_kept {l l' : List Route} (h : SimL l l') (hl : RightP l) (hl' : RightP l') : KeptP l l' := by
  refine ⟨hl, hl', fun r hr => ?_, fun r hr => ?_⟩
  · obtain ⟨r', e, _⟩ := (h.routed r.driver).2 r (routed_self hl.2 r hr)
    rw [e]; rfl
  · obtain ⟨q, e, hs⟩ := (h.symm.routed r.driver).2 r (routed_self hl'.2 r hr)
    unfold keptR
    rw [e]
    exact ⟨hs.2.1.symm, hs.2.2.symm⟩
def Rise : Int → List Route → Prop
  | _, [] => True
  | last, r :: l => okR1 last r ∧ Rise r.driver l
def flatS (p : List Route) : List Stop := p.flatMap (·.stops)
theorem okS_iff {all l : List Stop} : okS all l ↔ (∀ s ∈ l, (1 ≤ s.order ∧ s.order ≤ 1000000) ∧ s ∉ all) ∧ l.Nodup := by
  induction l generalizing all with
  | nil => simp [okS]
  | cons s l ih =>
    rw [okS, ih, List.nodup_cons]
    constructor
    · rintro ⟨⟨h1, h2, h3⟩, h4, h5⟩
      refine ⟨fun t ht => ?_, fun hm => ?_, h5⟩
      · rcases List.mem_cons.1 ht with rfl | ht
        · exact ⟨⟨h1, h2⟩, h3⟩
        · have := h4 t ht
          exact ⟨this.1, fun q => this.2 (by simp [q])⟩
      · exact (h4 s hm).2 (by simp)
    · rintro ⟨h1, h2, h3⟩
      have hs := h1 s (by simp)
      refine ⟨⟨hs.1.1, hs.1.2, hs.2⟩, fun t ht => ⟨(h1 t (by simp [ht])).1, ?_⟩, h3⟩
      intro q
      rcases List.mem_append.1 q with q | q
      · exact (h1 t (by simp [ht])).2 q
      · rw [List.mem_singleton.1 q] at ht; exact h2 ht
theorem okR_iff {last : Int} {all : List Stop} {p : List Route} : okR last all p ↔ Rise last p ∧ okS all (flatS p) := by
  induction p generalizing last all with
  | nil => simp [okR, Rise, flatS, okS]
  | cons r l ih =>
    rw [okR, Rise, ih]
    have : flatS (r :: l) = r.stops ++ flatS l := by simp [flatS]
    rw [this, okS_iff, okS_iff, okS_iff, List.nodup_append]
    constructor
    · rintro ⟨h1, ⟨h2, h3⟩, h4, h5, h6⟩
      refine ⟨⟨h1, h4⟩, fun s hs => ?_, h3, h6, fun a ha b hb e => ?_⟩
      · rcases List.mem_append.1 hs with q | q
        · exact h2 s q
        · have := h5 s q; exact ⟨this.1, fun z => this.2 (by simp [z])⟩
      · subst e; exact (h5 a hb).2 (by simp [ha])
    · rintro ⟨⟨h1, h4⟩, h2, h3, h6, h7⟩
      refine ⟨h1, ⟨fun s hs => h2 s (by simp [hs]), h3⟩, h4, fun s hs => ⟨(h2 s (by simp [hs])).1, fun q => ?_⟩, h6⟩
      rcases List.mem_append.1 q with q | q
      · exact (h2 s (by simp [hs])).2 q
      · exact h7 s q s hs rfl
theorem right_iff' {p : List Route} : RightP p ↔ p.length ≤ 8 ∧ Rise 0 p ∧ (∀ s ∈ flatS p, 1 ≤ s.order ∧ s.order ≤ 1000000) ∧ (flatS p).Nodup := by
  unfold RightP
  rw [okR_iff, okS_iff]
  simp
theorem findP_none {id : Int} {p : List Route} (h : findP id p = none) : ∀ s ∈ flatS p, s.order ≠ id := by
  induction p with
  | nil => simp [flatS]
  | cons r l ih =>
    rw [findP] at h
    split at h
    · cases h
    · rename_i hn
      intro s hs
      have : flatS (r :: l) = r.stops ++ flatS l := by simp [flatS]
      rw [this] at hs
      rcases List.mem_append.1 hs with q | q
      · rintro rfl
        apply hn
        cases hd : s.drop with
        | false => left; exact whereS_iff.2.2 (stands_iff.2 (by cases s; simp_all))
        | true => right; exact whereS_iff.2.2 (stands_iff.2 (by cases s; simp_all))
      · exact ih h s q
theorem putS_perm {ss : List Stop} {id i j : Int} (h : 0 ≤ i ∧ i ≤ j ∧ j ≤ ss.length) : (putS ss id i j).Perm (⟨id, false⟩ :: ⟨id, true⟩ :: ss) := by
  rw [putS_in h]
  have e : ss = ss.take i.toNat ++ ((ss.drop i.toNat).take (j.toNat - i.toNat) ++ ss.drop j.toNat) := by
    have h1 : ss.drop j.toNat = (ss.drop i.toNat).drop (j.toNat - i.toNat) := by rw [List.drop_drop]; congr 1; omega
    rw [h1, List.take_append_drop, List.take_append_drop]
  generalize ss.take i.toNat = A at *
  generalize (ss.drop i.toNat).take (j.toNat - i.toNat) = B at *
  generalize ss.drop j.toNat = C at *
  rw [e]
  have p1 : (A ++ [(⟨id, false⟩ : Stop)] ++ B ++ [(⟨id, true⟩ : Stop)] ++ C).Perm ((⟨id, false⟩ : Stop) :: (A ++ B ++ [(⟨id, true⟩ : Stop)] ++ C)) := by
    simp only [List.append_assoc, List.singleton_append]
    exact List.perm_middle
  refine p1.trans (.cons _ ?_)
  have : A ++ B ++ [(⟨id, true⟩ : Stop)] ++ C = (A ++ B) ++ ⟨id, true⟩ :: C := by simp
  rw [this]
  refine List.perm_middle.trans ?_
  rw [List.append_assoc]
theorem putS_take {ss : List Stop} {id i j : Int} {n : Nat} (h : 0 ≤ i ∧ i ≤ j ∧ j ≤ ss.length) (hn : n ≤ i.toNat) : (putS ss id i j).take n = ss.take n := by
  rw [putS_in h]
  simp only [List.append_assoc]
  rw [List.take_append_of_le_length (by rw [List.length_take]; omega), List.take_take]
  congr 1; omega
theorem withAt_sim {id : Int} {s : Spot} : ∀ {p x : List Route} {last : Int}, withAt id s p = some x → Rise last p → Rise last x ∧ SimL p x ∧ (flatS x).Perm (⟨id, false⟩ :: ⟨id, true⟩ :: flatS p) ∧ x.length = p.length
  | [], x, last, h, _ => by cases h
  | r :: l, x, last, h, hr => by
    rw [withAt] at h
    split at h
    · split at h
      · rename_i hd hs
        cases h
        simp only [spotOk, Bool.and_eq_true, decide_eq_true_eq] at hs
        obtain ⟨h1, h2⟩ := hr
        obtain ⟨o1, o2, o3, o4, o5⟩ := h1
        have hb : 0 ≤ s.pick ∧ s.pick ≤ s.drop ∧ s.drop ≤ r.stops.length := by omega
        have hlen := putS_length (id := id) hb
        refine ⟨⟨⟨o1, o2, by dsimp only; omega, o4, by dsimp only; omega⟩, h2⟩, .cons ⟨rfl, rfl, putS_take hb (by omega)⟩ (.refl l), ?_, rfl⟩
        have e1 : flatS (⟨r.driver, r.served, putS r.stops id s.pick s.drop⟩ :: l) = putS r.stops id s.pick s.drop ++ flatS l := by simp [flatS]
        have e2 : flatS (r :: l) = r.stops ++ flatS l := by simp [flatS]
        rw [e1, e2]
        exact (putS_perm hb).append_right (flatS l)
      · cases h
    · cases hw : withAt id s l with
      | none => rw [hw] at h; cases h
      | some l' =>
        rw [hw] at h
        cases h
        obtain ⟨i1, i2, i3, i4⟩ := withAt_sim hw hr.2
        refine ⟨⟨hr.1, i1⟩, .cons ⟨rfl, rfl, rfl⟩ i2, ?_, by simp [i4]⟩
        have e1 : flatS (r :: l') = r.stops ++ flatS l' := by simp [flatS]
        have e2 : flatS (r :: l) = r.stops ++ flatS l := by simp [flatS]
        rw [e1, e2]
        refine (i3.append_left r.stops).trans ?_
        refine List.perm_middle.trans (.cons _ ?_)
        exact List.perm_middle
theorem with_right {p x : List Route} {id : Int} {s : Spot} (h : withP p id s = some x) : RightP p ∧ RightP x ∧ SimL p x := by
  unfold withP at h
  split at h
  · rename_i hc
    simp only [Bool.and_eq_true, decide_eq_true_eq] at hc
    obtain ⟨⟨⟨c1, c2⟩, c3⟩, c4⟩ := hc
    have hR := rightP_iff.1 c1
    obtain ⟨r1, r2, r3, r4⟩ := right_iff'.1 hR
    obtain ⟨w1, w2, w3, w4⟩ := withAt_sim h r2
    refine ⟨hR, right_iff'.2 ⟨by omega, w1, fun t ht => ?_, ?_⟩, w2⟩
    · have := w3.mem_iff.1 ht
      simp only [List.mem_cons] at this
      rcases this with rfl | rfl | q
      · exact ⟨c2, c3⟩
      · exact ⟨c2, c3⟩
      · exact r3 t q
    · rw [w3.nodup_iff, List.nodup_cons, List.nodup_cons]
      have hf := findP_none (by simpa using c4 : findP id p = none)
      refine ⟨?_, ?_, r4⟩
      · intro q
        rcases List.mem_cons.1 q with q | q
        · cases q
        · exact hf _ q rfl
      · intro q; exact hf _ q rfl
  · cases h
theorem filter_take {α : Type} {f : α → Bool} : ∀ {l : List α} {n : Nat}, (∀ x ∈ l.take n, f x = true) → (l.filter f).take n = l.take n
  | [], n, _ => by simp
  | x :: l, 0, _ => by simp
  | x :: l, n + 1, h => by
    rw [List.take_succ_cons] at h
    have hx := h x (by simp)
    rw [List.filter_cons_of_pos hx, List.take_succ_cons, List.take_succ_cons, filter_take fun y hy => h y (by simp [hy])]
theorem without_right {p : List Route} {ids : List Int} (h : RightP p) : RightP (withoutP p ids) ∧ SimL p (withoutP p ids) := by
  have hk : ∀ r ∈ p, ∀ s ∈ r.stops.take r.served.toNat, (!goneP p ids s.order) = true := by
    intro r hr s hs
    have : begunP s.order p = true := by
      unfold begunP
      rw [List.any_eq_true]
      refine ⟨r, hr, ?_⟩
      rw [List.any_eq_true]
      exact ⟨s, hs, decide_eq_true rfl⟩
    simp [goneP, this]
  have ht : ∀ r ∈ p, (keepS p ids r.stops).take r.served.toNat = r.stops.take r.served.toNat := fun r hr => filter_take (hk r hr)
  have hsub : ∀ l : List Route, (flatS (l.map fun r => (⟨r.driver, r.served, keepS p ids r.stops⟩ : Route))).Sublist (flatS l) := by
    intro l
    induction l with
    | nil => exact .slnil
    | cons r l ih =>
      have e1 : flatS ((r :: l).map fun r => (⟨r.driver, r.served, keepS p ids r.stops⟩ : Route)) = keepS p ids r.stops ++ flatS (l.map fun r => (⟨r.driver, r.served, keepS p ids r.stops⟩ : Route)) := by simp [flatS]
      have e2 : flatS (r :: l) = r.stops ++ flatS l := by simp [flatS]
      rw [e1, e2]
      exact List.filter_sublist.append ih
  have hsim : ∀ (l : List Route), (∀ r ∈ l, r ∈ p) → SimL l (l.map fun r => (⟨r.driver, r.served, keepS p ids r.stops⟩ : Route)) := by
    intro l
    induction l with
    | nil => intro _; exact .nil
    | cons r l ih => intro hl; exact .cons ⟨rfl, rfl, ht r (hl r (by simp))⟩ (ih fun q hq => hl q (by simp [hq]))
  have hrise : ∀ (l : List Route) (last : Int), (∀ r ∈ l, r ∈ p) → Rise last l → Rise last (l.map fun r => (⟨r.driver, r.served, keepS p ids r.stops⟩ : Route)) := by
    intro l
    induction l with
    | nil => intro _ _ _; trivial
    | cons r l ih =>
      intro last hl hr
      obtain ⟨⟨o1, o2, o3, o4, o5⟩, h2⟩ := hr
      refine ⟨⟨o1, o2, ?_, o4, ?_⟩, ih _ (fun q hq => hl q (by simp [hq])) h2⟩
      · have : (keepS p ids r.stops).length ≤ r.stops.length := List.length_filter_le _ _
        dsimp only; omega
      · have := congrArg List.length (ht r (hl r (by simp)))
        rw [List.length_take, List.length_take] at this
        dsimp only; omega
  obtain ⟨r1, r2, r3, r4⟩ := right_iff'.1 h
  refine ⟨right_iff'.2 ⟨by simpa [withoutP] using r1, hrise p 0 (fun _ h => h) r2, fun s hs => r3 s ((hsub p).mem hs), (hsub p).nodup r4⟩, hsim p fun _ h => h⟩
theorem right_one {p : List Route} {r : Route} (h : RightP p) (hr : r ∈ p) : RightP [r] ∧ r.stops.Nodup := by
  have hm := okR_mem h.2 r hr
  obtain ⟨r1, r2, r3, r4⟩ := right_iff'.1 h
  have hs : r.stops.Sublist (flatS p) := by
    obtain ⟨a, b, rfl⟩ := List.append_of_mem hr
    have : flatS (a ++ r :: b) = flatS a ++ (r.stops ++ flatS b) := by simp [flatS]
    rw [this]
    exact (List.sublist_append_left _ _).trans (List.sublist_append_right _ _)
  have hn := hs.nodup r4
  have e : flatS [r] = r.stops := by simp [flatS]
  refine ⟨right_iff'.2 ⟨by simp, ⟨⟨hm.1, hm.2.1, hm.2.2.1, hm.2.2.2.1, hm.2.2.2.2⟩, trivial⟩, fun s hs' => ?_, by rw [e]; exact hn⟩, hn⟩
  rw [e] at hs'
  exact r3 s (hs.mem hs')
end Go.Eng

/- Certificates looked at: it is so. -/
set_option linter.unusedVariables false
set_option linter.unusedSimpArgs false
namespace Go.Eng
open Go Go.Proofs
theorem fau_zero {r : Except Fault (List Visit)} (hg : ∀ f, r = .error f → f.why ≠ 0) : (¬ (fauR r).why = 0 → ∃ f, r = .error f) ∧ ((fauR r).why = 0 → ∃ v, r = .ok v) := by
  cases r with
  | ok v => exact ⟨fun h => absurd rfl h, fun _ => ⟨v, rfl⟩⟩
  | error f => exact ⟨fun _ => ⟨f, rfl⟩, fun h => absurd h (hg f rfl)⟩
theorem rCmake_ok : rCmake_vc := by
  unfold rCmake_vc
  simp only [bad_false, int0, nilOf, decide_eq_true_eq, decide_eq_false_iff_not, Bool.not_eq_true', Bool.not_eq_false', Bool.not_true, Bool.not_false, Bool.false_eq_true, Bool.true_eq_false, eq_self, true_and, and_true, false_or, or_false, false_implies, true_implies, implies_true, Int.not_lt, Int.not_le, gt_iff_lt, ge_iff_le, ne_eq]
  refine ⟨fun ds _ os _ p _ hmo => ⟨hmo, fun _ => ⟨⟨rfl, rfl⟩, rfl⟩, fun h => by cases h⟩, ?_⟩
  intro m hm ds hd os ho p hp hmo
  have hpl := hp.1.le
  refine ⟨hmo, fun h => by simp [makeP, h, cfauR, certR], fun hw => ?_⟩
  have hR := rightP_iff.1 (wellP_iff.1 hw).2.2.2.1
  have hM : makeP (some m) ds os p = makeGo m ds os 0 p := by simp [makeP, hw]
  rw [hM]
  refine ⟨fun vs i => 0 ≤ i ∧ i ≤ p.length ∧ vs.length ≤ i.toNat ∧ makeGo m ds os 0 p = (match makeGo m ds os i.toNat (p.drop i.toNat) with | .error f => .error f | .ok w => .ok (vs ++ w)), fun _ i => p.length - i.toNat, ⟨by omega, by omega, by simp, ?_⟩, fun vs i hi => ⟨fun h => ?_, fun h => ?_⟩⟩
  · simp only [Int.toNat_zero, List.drop_zero, List.nil_append]
    cases makeGo m ds os 0 p <;> rfl
  · obtain ⟨h0, h1, hL, hI⟩ := hi
    obtain ⟨e1, e2, e3, e4⟩ := ix rz hpl h0 h
    have hrm := getD_mem rz e3
    have h8 := hR.1
    rw [e4] at hI
    rw [e1]; dsimp only; rw [e2]
    obtain ⟨s1, s2⟩ := makeGo_step hI
    change List Route at p
    generalize p.getD i.toNat { driver := 0, served := 0, stops := [] } = r at *
    refine ⟨⟨h0, h⟩, e3, fun q => ?_, fun q => ?_⟩
    · rw [s1 (by simpa using q)]
      exact ⟨⟨by show i = ((i.toNat : Nat) : Int); omega, rfl⟩, rfl⟩
    · obtain ⟨d, hd'⟩ := Option.isSome_iff_exists.1 q
      obtain ⟨t1, t2⟩ := s2 d hd'
      have hwd := well_drive hw hrm (findD_mem hd').1
      rw [hd']
      dsimp only [Option.getD]
      obtain ⟨z1, z2⟩ := fau_zero (r := drive (some m) d os r.stops) fun f hf => by rw [hwd] at hf; exact driveGo_why hf
      refine ⟨⟨h0, h⟩, e3, hmo, fun g => ?_, fun g => ?_⟩
      · obtain ⟨f, hf⟩ := z1 g
        rw [t1 f hf, hf]
        exact ⟨⟨by show i = ((i.toNat : Nat) : Int); omega, rfl⟩, rfl⟩
      · obtain ⟨v, hv⟩ := z2 g
        rw [byt_rows, hv]
        refine ⟨by simp only [List.length_cons, List.length_nil]; omega, ⟨by omega, by omega, by simp only [List.length_append, List.length_cons, List.length_nil]; omega, t2 v hv⟩, by omega⟩
  · obtain ⟨h0, h1, hL, hI⟩ := hi
    rw [ixEnd h] at hI
    rw [hI]
    simp [makeGo, cfauR, certR]
theorem rCmake_t : Told Try.prog 34 rCmake_con := rCmake_told (csOk_cons rWell_t (csOk_cons rCdriver_t (csOk_cons rDrive_t csOk_nil))) rCmake_ok
theorem same_no {α : Type} {x y : List α} (h : x ≠ y) : false = same x y := (same_ne h).symm
theorem clists_ok : clists_vc := by
  unfold clists_vc
  simp only [bad_false, int0, nilOf, decide_eq_true_eq, decide_eq_false_iff_not, Bool.not_eq_true', Bool.not_eq_false', Bool.not_true, Bool.not_false, Bool.false_eq_true, Bool.true_eq_false, eq_self, true_and, and_true, false_or, or_false, false_implies, true_implies, implies_true, Int.not_lt, Int.not_le, gt_iff_lt, ge_iff_le, ne_eq]
  rintro x ⟨hl, hr⟩ y ⟨hl', hr'⟩
  have hl := hl.le
  refine ⟨fun hn => same_no fun e => hn (by rw [e]), fun hn => ⟨fun i => 0 ≤ i ∧ i ≤ x.length ∧ x.take i.toNat = y.take i.toNat, fun i => x.length - i.toNat, ⟨by omega, by omega, by simp⟩, fun i hi => ⟨fun h => ?_, fun h => ?_⟩⟩⟩
  · obtain ⟨h0, h1, hI⟩ := hi
    obtain ⟨e1, e2, e3, e4⟩ := ix ([] : List Visit) hl h0 h
    have e3' : i.toNat < y.length := by omega
    have hT := take_more (l := x) [] e3
    have hT' := take_more (l := y) [] e3'
    rw [e1]; dsimp only; rw [e2]
    refine ⟨⟨h0, h⟩, e3, ⟨h0, by omega⟩, e3', fun q => same_no fun e => ?_, fun q => ⟨⟨by omega, by omega, ?_⟩, by omega⟩⟩
    · rw [e, same_self] at q; cases q
    · rw [hT, hT', hI, same_iff.1 q]
  · obtain ⟨h0, h1, hI⟩ := hi
    rw [List.take_of_length_le (by omega), List.take_of_length_le (by omega)] at hI
    exact (same_iff.2 hI).symm
theorem clists_t : Told Try.prog 32 clists_con := clists_told (csOk_cons sameV_t csOk_nil) clists_ok
theorem ccopied_ok : ccopied_vc := by
  unfold ccopied_vc
  simp only [bad_false, int0, nilOf, decide_eq_true_eq, decide_eq_false_iff_not, Bool.not_eq_true', Bool.not_eq_false', Bool.not_true, Bool.not_false, Bool.false_eq_true, Bool.true_eq_false, eq_self, true_and, and_true, false_or, or_false, false_implies, true_implies, implies_true, Int.not_lt, Int.not_le, gt_iff_lt, ge_iff_le, ne_eq]
  rintro x ⟨hl, hr⟩ ⟨hb, hb'⟩
  have hl := hl.le
  refine ⟨fun o i => 0 ≤ i ∧ i ≤ x.length ∧ o = x.take i.toNat, fun _ i => x.length - i.toNat, ⟨by omega, by omega, by simp⟩, fun o i hi => ⟨fun h => ?_, fun h => ?_⟩⟩
  · obtain ⟨h0, h1, rfl⟩ := hi
    obtain ⟨e1, e2, e3, e4⟩ := ix ([] : List Visit) hl h0 h
    have hm := hb' _ (getD_mem [] e3)
    rw [e1]; dsimp only; rw [e2, take_more [] e3]
    refine ⟨⟨h0, h⟩, e3, by omega, ?_, ⟨by omega, by omega, by simp⟩, by omega⟩
    simp only [byt_rows, List.length_take, List.length_cons, List.length_nil]; omega
  · obtain ⟨h0, h1, rfl⟩ := hi
    exact List.take_of_length_le (by omega)
theorem ccopied_t : Told Try.prog 31 ccopied_con := ccopied_told csOk_nil ccopied_ok
theorem shape_iff {l : List Visit} {ss : List Stop} (h : l.length = ss.length) : l.map Visit.stop = ss ↔ ∀ k, k < l.length → (l.getD k (FK.zero .visit)).stop = ss.getD k (FK.zero .stop) := by
  constructor
  · rintro rfl k hk
    rw [getD_get _ hk, getD_get _ (by simpa using hk)]; simp
  · intro hh
    apply List.ext_getElem
    · simpa using h
    · intro k h1 h2
      have h1' : k < l.length := by simpa using h1
      have := hh k h1'
      rw [getD_get _ h1', getD_get _ h2] at this
      simpa using this
theorem cshaped_ok : cshaped_vc := by
  unfold cshaped_vc
  simp only [bad_false, int0, nilOf, decide_eq_true_eq, decide_eq_false_iff_not, Bool.not_eq_true', Bool.not_eq_false', Bool.not_true, Bool.not_false, Bool.false_eq_true, Bool.true_eq_false, eq_self, true_and, and_true, false_or, or_false, false_implies, true_implies, implies_true, Int.not_lt, Int.not_le, gt_iff_lt, ge_iff_le, ne_eq]
  rintro ss hss l hl
  have hl := hl.le
  refine ⟨fun hn => (decide_eq_false fun e => hn (by rw [← e]; simp)).symm, fun hn => ?_⟩
  have hS := shape_iff (l := l) (ss := ss) (by omega)
  refine ⟨fun i => 0 ≤ i ∧ i ≤ l.length ∧ ∀ k, k < i.toNat → (l.getD k (FK.zero .visit)).stop = ss.getD k (FK.zero .stop), fun i => l.length - i.toNat, ⟨by omega, by omega, fun k hk => by simp at hk⟩, fun i hi => ⟨fun h => ?_, fun h => ?_⟩⟩
  · obtain ⟨h0, h1, hI⟩ := hi
    obtain ⟨e1, e2, e3, e4⟩ := ix (FK.zero .visit) hl h0 h
    rw [e1]; dsimp only; rw [e2]
    refine ⟨⟨h0, h⟩, e3, ⟨h0, by omega⟩, by omega, fun q => (decide_eq_false fun e => ?_).symm, fun q => ⟨⟨by omega, by omega, fun k hk => ?_⟩, by omega⟩⟩
    · exact (elEqS' (l.getD i.toNat (FK.zero .visit)).stop _).1 q (hS.1 e _ e3)
    · by_cases e : k < i.toNat
      · exact hI k e
      · rw [show k = i.toNat by omega]; exact (elEqS (l.getD i.toNat (FK.zero .visit)).stop _).1 q
  · obtain ⟨h0, h1, hI⟩ := hi
    exact (decide_eq_true (hS.2 fun k hk => hI k (by omega))).symm
theorem cshaped_t : Told Try.prog 75 cshaped_con := cshaped_told csOk_nil cshaped_ok
theorem begin_in {w : Win} {t : Int} (h : (begin_ w t).2 = true) : 0 ≤ (begin_ w t).1 ∧ (begin_ w t).1 ≤ 1000000 := by
  unfold begin_ at h ⊢
  split at h
  · rename_i hc
    simp only [Bool.and_eq_true, decide_eq_true_eq] at hc
    have := right_iff.1 hc.1
    rw [if_pos (by simp [hc])]
    dsimp only
    omega
  · cases h
theorem nextE_14 {m : MapD} {d : Driver} {o : Order} {left load : Int} {v : Visit} {a : Int} (h : v.load ≠ loadN o v load ∨ d.room < loadN o v load) : 14 = nextE m d o left load v a := by
  unfold nextE; rw [if_pos h]
theorem nextE_late {m : MapD} {d : Driver} {o : Order} {left load : Int} {v : Visit} {a : Int} (h : v.load = loadN o v load) (h' : loadN o v load ≤ d.room) : nextE m d o left load v a = if lateN m d o left a v then 15 else 0 := by
  unfold nextE; rw [if_neg (by omega)]
theorem nextE_zero {m : MapD} {d : Driver} {o : Order} {left load : Int} {v : Visit} {a : Int} (h : nextE m d o left load v a = 0) : v.load = loadN o v load ∧ loadN o v load ≤ d.room ∧ v.arrive = left + tm m a (siteOf o v.drop).pl ∧ (begin_ (siteOf o v.drop).win v.arrive).2 = true ∧ v.start = (begin_ (siteOf o v.drop).win v.arrive).1 ∧
    v.leave = (begin_ (siteOf o v.drop).win v.arrive).1 + (siteOf o v.drop).sv ∧ v.leave ≤ d.hi := by
  unfold nextE at h
  split at h
  · cases h
  · rename_i h1
    split at h
    · cases h
    · rename_i h2
      simp only [lateN, Bool.or_eq_true, Bool.not_eq_true', decide_eq_true_eq, not_or, Bool.not_eq_false, Int.not_lt] at h2
      obtain ⟨⟨⟨⟨a1, a2⟩, a3⟩, a4⟩, a5⟩ := h2
      refine ⟨by omega, by omega, by omega, a2, by omega, by omega, a5⟩
theorem cnext_ok : cnext_vc := by
  unfold cnext_vc
  simp only [bad_false, int0, nilOf, decide_eq_true_eq, decide_eq_false_iff_not, Bool.not_eq_true', Bool.not_eq_false', Bool.not_true, Bool.not_false, Bool.false_eq_true, Bool.true_eq_false, eq_self, true_and, and_true, false_or, or_false, false_implies, true_implies, implies_true, Int.not_lt, Int.not_le, gt_iff_lt, ge_iff_le, ne_eq]
  intro m _ d o ah v a hp
  obtain ⟨hm, hs, ha, hl, hz⟩ := hp
  have hmt := mtime_in ha.pl.1 ha.pl.2 hs.pl.1 hs.pl.2
  have ht := tm_bound hm a (siteOf o v.drop).pl
  have hleft := ha.left
  have w1 : wrap (ah.load - o.size) = ah.load - o.size := wrap_id (by omega) (by omega)
  have w2 : wrap (ah.load + o.size) = ah.load + o.size := wrap_id (by omega) (by omega)
  have w3 : wrap (ah.leave + tm m a (siteOf o v.drop).pl) = ah.leave + tm m a (siteOf o v.drop).pl := wrap_id (by omega) (by omega)
  have hmo : ∀ x : MapD, some m = some x → MapOk x := fun x hx => by cases hx; exact hm
  have hsv := hs.sv
  have hwin : ({ lo := (siteOf o v.drop).lo, hi := (siteOf o v.drop).hi } : Win) = (siteOf o v.drop).win := rfl
  rw [hmt, w1, w2, hwin]
  dsimp only
  rw [w3]
  have rest : ∀ L, L = loadN o v ah.load → v.load = L → L ≤ d.room → (∀ x : MapD, some m = some x → MapOk x) ∧ (v.arrive = ah.leave + tm m a (siteOf o v.drop).pl → ((begin_ (siteOf o v.drop).win v.arrive).snd = true → (v.start = (begin_ (siteOf o v.drop).win v.arrive).fst → (v.leave = wrap ((begin_ (siteOf o v.drop).win v.arrive).fst + (siteOf o v.drop).sv) → (d.hi < v.leave → 15 = nextE m d o ah.leave ah.load v a) ∧ (v.leave ≤ d.hi → 0 = nextE m d o ah.leave ah.load v a)) ∧
      (¬v.leave = wrap ((begin_ (siteOf o v.drop).win v.arrive).fst + (siteOf o v.drop).sv) → 15 = nextE m d o ah.leave ah.load v a)) ∧ (¬v.start = (begin_ (siteOf o v.drop).win v.arrive).fst → 15 = nextE m d o ah.leave ah.load v a)) ∧ ((begin_ (siteOf o v.drop).win v.arrive).snd = false → 15 = nextE m d o ah.leave ah.load v a)) ∧ (¬v.arrive = ah.leave + tm m a (siteOf o v.drop).pl → 15 = nextE m d o ah.leave ah.load v a) := by
    rintro L rfl h1 h2
    rw [nextE_late h1 h2]
    refine ⟨hmo, fun a1 => ⟨fun a2 => ?_, fun a2 => ?_⟩, fun a1 => ?_⟩
    · have hb := begin_in a2
      have w4 : wrap ((begin_ (siteOf o v.drop).win v.arrive).fst + (siteOf o v.drop).sv) = (begin_ (siteOf o v.drop).win v.arrive).fst + (siteOf o v.drop).sv := wrap_id (by omega) (by omega)
      rw [w4]
      refine ⟨fun a3 => ⟨fun a4 => ⟨fun a5 => ?_, fun a5 => ?_⟩, fun a4 => ?_⟩, fun a3 => ?_⟩
      · rw [if_pos (by simp [lateN, a5])]
      · rw [if_neg]
        have : ¬ d.hi < v.leave := by omega
        simp [lateN, a1.symm, a2, a3.symm, a4.symm, this]
        omega
      · rw [if_pos (by simp [lateN, a4])]
      · rw [if_pos (by simp [lateN, a3])]
    · rw [if_pos (by simp [lateN, a2])]
    · rw [if_pos (by simp [lateN, a1])]
  refine ⟨fun hd => ?_, fun hd => ?_⟩
  · have hL : loadN o v ah.load = ah.load - o.size := by simp [loadN, hd]
    exact ⟨fun h1 => ⟨fun h2 => nextE_14 (.inr (by omega)), fun h2 => rest _ hL.symm h1 h2⟩, fun h1 => nextE_14 (.inl (by omega))⟩
  · have hL : loadN o v ah.load = ah.load + o.size := by simp [loadN, hd]
    exact ⟨fun h1 => ⟨fun h2 => nextE_14 (.inr (by omega)), fun h2 => rest _ hL.symm h1 h2⟩, fun h1 => nextE_14 (.inl (by omega))⟩
theorem cnext_t : Told Try.prog 76 cnext_con := cnext_told (csOk_cons site_t (csOk_cons time_t (csOk_cons begin_t csOk_nil))) cnext_ok
end Go.Eng

/- Orders that are known have each their own number; what a driver holds. -/
set_option linter.unusedVariables false
set_option linter.unusedSimpArgs false
namespace Go.Eng
open Go Go.Proofs
def Apart (os : List Order) : Prop := os.Pairwise fun a b => a.id ≠ b.id
theorem known_iff {m : Option MapD} {os : List Order} : knownO m os = true ↔ os.length ≤ 40 ∧ (∀ o ∈ os, orderE m o = 0) ∧ Apart os := by
  constructor
  · intro h
    obtain ⟨h1, h2⟩ := known_at h
    refine ⟨h1, fun o ho => ?_, List.pairwise_iff_getElem.2 fun i j hi hj hij => ?_⟩
    · obtain ⟨k, hk, rfl⟩ := List.getElem_of_mem ho
      have := (h2 k hk).1
      rwa [getD_of hk] at this
    · have := (h2 j hj).2
      rw [getD_of hj] at this
      simp only [idFree, List.all_eq_true, Bool.not_eq_true', decide_eq_false_iff_not] at this
      exact this _ (List.mem_take_iff_getElem.2 ⟨i, by omega, rfl⟩)
  · rintro ⟨h1, h2, h3⟩
    simp only [knownO, okAt, Bool.and_eq_true, decide_eq_true_eq, List.all_eq_true, List.mem_range]
    refine ⟨h1, fun k hk => ?_⟩
    rw [getD_of hk]
    refine ⟨h2 _ (List.getElem_mem _), ?_⟩
    simp only [idFree, List.all_eq_true, Bool.not_eq_true', decide_eq_false_iff_not]
    intro p hp
    obtain ⟨i, hi, rfl⟩ := List.mem_take_iff_getElem.1 hp
    exact List.pairwise_iff_getElem.1 h3 i k (by omega) hk (by omega)
theorem findO_of : ∀ {os : List Order} {o : Order}, Apart os → o ∈ os → findO os o.id = some o
  | x :: l, o, h, ho => by
    obtain ⟨h1, h2⟩ := List.pairwise_cons.1 h
    unfold findO
    rcases List.mem_cons.1 ho with rfl | ho
    · rw [if_pos rfl]
    · rw [if_neg (h1 o ho)]
      exact findO_of h2 ho
theorem findO_same {os os' : List Order} {id : Int} (h : Apart os) (h' : Apart os') (hm : ∀ o : Order, o.id = id → (o ∈ os ↔ o ∈ os')) : findO os id = findO os' id := by
  cases hf : findO os id with
  | some o =>
    obtain ⟨h1, h2⟩ := findO_mem hf
    subst h2
    exact (findO_of h' ((hm o rfl).1 h1)).symm
  | none =>
    cases hf' : findO os' id with
    | none => rfl
    | some o =>
      obtain ⟨h1, h2⟩ := findO_mem hf'
      subst h2
      rw [findO_of h ((hm o rfl).2 h1)] at hf
      cases hf

/-! ### What is held -/
def held (ahead : List Stop) (id : Int) : Bool := stands ahead ⟨id, false⟩ && !stands ahead ⟨id, true⟩
def carried (ahead : List Stop) : List Order → Int
  | [] => 0
  | o :: l => (if held ahead o.id then o.size else 0) + carried ahead l
def Paired (ahead : List Stop) : Prop := ∀ id, stands ahead ⟨id, true⟩ = true → stands ahead ⟨id, false⟩ = true
theorem stands_app {l : List Stop} {s x : Stop} : stands (l ++ [s]) x = (stands l x || sEq s x) := by
  unfold stands
  rw [List.any_append]
  simp
theorem carried_nil : ∀ os : List Order, carried [] os = 0
  | [] => rfl
  | o :: l => by
    have : held [] o.id = false := rfl
    simp [carried, this, carried_nil l]
theorem carried_pos {ahead : List Stop} : ∀ {os : List Order}, (∀ o ∈ os, 0 ≤ o.size) → 0 ≤ carried ahead os
  | [], _ => by simp [carried]
  | o :: l, h => by
    have h1 := carried_pos (ahead := ahead) (os := l) fun x hx => h x (List.mem_cons_of_mem _ hx)
    have h2 := h o (List.mem_cons_self ..)
    unfold carried
    split <;> omega
theorem carried_same {a b : List Stop} : ∀ {os : List Order}, (∀ o ∈ os, held a o.id = held b o.id) → carried a os = carried b os
  | [], _ => rfl
  | o :: l, h => by
    unfold carried
    rw [h o (List.mem_cons_self ..), carried_same (os := l) fun x hx => h x (List.mem_cons_of_mem _ hx)]
theorem carried_add {a b : List Stop} : ∀ {os : List Order} {o : Order}, Apart os → o ∈ os → held a o.id = false → held b o.id = true → (∀ id, id ≠ o.id → held b id = held a id) → carried b os = carried a os + o.size
  | x :: l, o, hp, ho, ha, hb, hab => by
    obtain ⟨h1, h2⟩ := List.pairwise_cons.1 hp
    unfold carried
    rcases List.mem_cons.1 ho with rfl | ho
    · rw [ha, hb, carried_same (a := b) (b := a) (os := l) fun y hy => hab _ fun e => h1 y hy e.symm]
      simp
      omega
    · rw [hab x.id (h1 o ho), carried_add h2 ho ha hb hab]
      omega
theorem sEq_iff {a b : Stop} : sEq a b = true ↔ a.order = b.order ∧ a.drop = b.drop := by
  simp [sEq]
theorem load_step {m : Option MapD} {os : List Order} {ahead : List Stop} {s : Stop} {load : Int} (hk : knownO m os = true) (hw : wrongE os ahead s = 0) (hP : Paired ahead) (hl : load = carried ahead os) :
    Paired (ahead ++ [s]) ∧ loadOf os s load = carried (ahead ++ [s]) os := by
  obtain ⟨_, _, hA⟩ := known_iff.1 hk
  have hs := wrongE_some hw
  obtain ⟨o, ho⟩ := Option.isSome_iff_exists.1 hs
  obtain ⟨hm, hid⟩ := findO_mem ho
  have hfo : fo os s.order = o := by unfold fo; rw [ho]; rfl
  obtain ⟨id, dr⟩ := s
  dsimp only at hid hs ho hfo
  subst hid
  unfold wrongE at hw
  rw [if_neg (by rw [ho]; simp)] at hw
  have h16 : stands ahead ⟨o.id, dr⟩ = false := by
    cases h : stands ahead ⟨o.id, dr⟩ with
    | false => rfl
    | true => rw [h, if_pos rfl] at hw; cases hw
  rw [h16, if_neg (by simp)] at hw
  have other : ∀ id, id ≠ o.id → held (ahead ++ [⟨o.id, dr⟩]) id = held ahead id := fun id hne => by
    unfold held
    have e : ∀ b, sEq ⟨o.id, dr⟩ ⟨id, b⟩ = false := fun b => by
      cases h : sEq ⟨o.id, dr⟩ ⟨id, b⟩ with
      | false => rfl
      | true => exact absurd (sEq_iff.1 h).1.symm hne
    rw [stands_app, stands_app, e, e, Bool.or_false, Bool.or_false]
  cases dr with
  | false =>
    have ht : stands ahead ⟨o.id, true⟩ = false := by
      cases h : stands ahead ⟨o.id, true⟩ with
      | false => rfl
      | true => rw [hP _ h] at h16; cases h16
    have e1 : sEq ⟨o.id, false⟩ ⟨o.id, false⟩ = true := sEq_iff.2 ⟨rfl, rfl⟩
    have e2 : ∀ i, sEq ⟨o.id, false⟩ ⟨i, true⟩ = false := fun i => by simp [sEq]
    refine ⟨fun id h => ?_, ?_⟩
    · rw [stands_app, e2, Bool.or_false] at h
      rw [stands_app, hP id h, Bool.true_or]
    · have := carried_add (a := ahead) (b := ahead ++ [⟨o.id, false⟩]) hA hm (by unfold held; rw [h16]; rfl) (by unfold held; rw [stands_app, stands_app, e1, e2, ht]; simp) other
      rw [this, hl]
      simp [loadOf, hfo]
  | true =>
    have ht : stands ahead ⟨o.id, false⟩ = true := by
      cases h : stands ahead ⟨o.id, false⟩ with
      | true => rfl
      | false => rw [h] at hw; cases hw
    have e1 : sEq ⟨o.id, true⟩ ⟨o.id, true⟩ = true := sEq_iff.2 ⟨rfl, rfl⟩
    have e2 : ∀ i, sEq ⟨o.id, true⟩ ⟨i, false⟩ = false := fun i => by simp [sEq]
    refine ⟨fun id h => ?_, ?_⟩
    · rw [stands_app] at h
      rw [stands_app]
      cases h' : stands ahead ⟨id, true⟩ with
      | true => rw [hP id h', Bool.true_or]
      | false =>
        rw [h', Bool.false_or] at h
        have := (sEq_iff.1 h).1
        dsimp only at this
        rw [← this, ht, Bool.true_or]
    · have := carried_add (a := ahead ++ [⟨o.id, true⟩]) (b := ahead) hA hm (by unfold held; rw [stands_app, stands_app, e1, e2]; simp) (by unfold held; rw [ht, h16]; rfl) fun id h => (other id h).symm
      rw [hl, this]
      simp [loadOf, hfo]
end Go.Eng

/- Certificates checked: it is so. -/
set_option linter.unusedVariables false
set_option linter.unusedSimpArgs false
namespace Go.Eng
open Go Go.Proofs
theorem checkGo_step {m : MapD} {d : Driver} {os : List Order} {ah : List Stop} {v : Visit} {l : List Visit} {p : Pos} {W : Int} (h : W = checkGo m d os ah (v :: l) p) :
    ((findO os v.order).isSome = false → W = 8) ∧ ((findO os v.order).isSome = true → (v.drop = true → stands ah ⟨v.order, false⟩ = false → W = 17) ∧ ((v.drop = true → stands ah ⟨v.order, false⟩ = true) →
      (¬ nextE m d (fo os v.order) p.now p.load v p.pos = 0 → W = nextE m d (fo os v.order) p.now p.load v p.pos) ∧ (nextE m d (fo os v.order) p.now p.load v p.pos = 0 → W = checkGo m d os (ah ++ [v.stop]) l ⟨v.leave, (siteOf (fo os v.order) v.drop).pl, v.load⟩))) := by
  rw [checkGo] at h
  refine ⟨fun e => ?_, fun e => ?_⟩
  · have : findO os v.order = none := by simpa using e
    rw [this] at h; exact h
  · obtain ⟨o, ho⟩ := Option.isSome_iff_exists.1 e
    have hf : fo os v.order = o := by unfold fo; rw [ho]; rfl
    rw [ho] at h; dsimp only at h
    rw [hf]
    refine ⟨fun a b => ?_, fun a => ?_⟩
    · rw [if_pos (by simp [a, b])] at h; exact h
    · have hn : ¬ (v.drop && !stands ah ⟨v.order, false⟩) = true := by
        cases hd : v.drop with
        | false => simp
        | true => simp [a hd]
      rw [if_neg hn] at h
      refine ⟨fun b => ?_, fun b => ?_⟩
      · rw [if_pos b] at h; exact h
      · rw [if_neg (by simpa using b)] at h; exact h
theorem order_size {m : MapD} {os : List Order} {id : Int} (hk : knownO (some m) os = true) (h : (findO os id).isSome = true) : OrderOk m (fo os id) := (fo_ok hk h).1
/-- The pickups that were seen, in a map. -/
def Picked (f : Int → Int) (n : Int) (ah : List Stop) : Prop := ∀ z, 0 ≤ f z ∧ f z ≤ n ∧ (f z = 0 ↔ stands ah ⟨z, false⟩ = false)
theorem picked_more {f : Int → Int} {n : Int} {ah : List Stop} {v : Visit} (h : Picked f n ah) (hn : n < 1000) (hd : v.drop = true → ¬ f v.order = 0) : Picked (upF f v.order (wrap (f v.order + 1))) (n + 1) (ah ++ [v.stop]) := by
  intro z
  obtain ⟨h0, h1, h2⟩ := h z
  unfold upF
  rw [stands_app]
  by_cases e : z = v.order
  · subst e
    rw [if_pos rfl, wrap_id (by omega) (by omega)]
    refine ⟨by omega, by omega, ⟨fun q => by omega, fun q => ?_⟩⟩
    exfalso
    rw [Bool.or_eq_false_iff] at q
    cases hv : v.drop with
    | true => exact hd hv (h2.2 q.1)
    | false => simp [sEq, Visit.stop, hv] at q
  · rw [if_neg e]
    have : sEq v.stop ⟨z, false⟩ = false := by
      cases hs : sEq v.stop ⟨z, false⟩ with
      | false => rfl
      | true => exact absurd (sEq_iff.1 hs).1.symm e
    rw [this, Bool.or_false]
    exact ⟨h0, by omega, h2⟩
theorem cchecked_ok : cchecked_vc := by
  unfold cchecked_vc
  simp only [bad_false, int0, nilOf, decide_eq_true_eq, decide_eq_false_iff_not, Bool.not_eq_true', Bool.not_eq_false', Bool.not_true, Bool.not_false, Bool.false_eq_true, Bool.true_eq_false, eq_self, true_and, and_true, false_or, or_false, false_implies, true_implies, implies_true, Int.not_lt, Int.not_le, gt_iff_lt, ge_iff_le, ne_eq]
  intro m hml d os hos ss hss l hl hC
  have hl := hl.le
  have hT := hC.timed
  have hmap := hT.map
  refine ⟨fun hn => by simp [checkedE, hn], fun hsh => ?_⟩
  have hlen : l.length = ss.length := by rw [← hsh]; simp
  have h80 := hT.few
  have hE : checkedE m d os ss l = checkGo m d os [] l ⟨d.lo, d.home, 0⟩ := by simp [checkedE, hsh]
  rw [hE]
  refine ⟨fun a i _ _ _ _ lv ld f => 0 ≤ i ∧ i ≤ l.length ∧ (0 ≤ a ∧ a < m.n) ∧ (0 ≤ lv ∧ lv ≤ 1000000) ∧ (-1000 * i ≤ ld ∧ ld ≤ 1000 * i) ∧ Picked f i ((l.take i.toNat).map Visit.stop) ∧ checkGo m d os [] l ⟨d.lo, d.home, 0⟩ = checkGo m d os ((l.take i.toNat).map Visit.stop) (l.drop i.toNat) ⟨lv, a, ld⟩,
    fun _ i _ _ _ _ _ _ _ => l.length - i.toNat, ⟨by omega, by omega, hT.driver.home, by have := hT.driver.win; omega, by omega, fun z => ⟨Int.le_refl _, Int.le_refl _, by simp [noF, stands]⟩, by simp⟩, fun a i ao ad aa ab lv ld f hi => ⟨fun h => ?_, fun h => ?_⟩⟩
  · obtain ⟨h0, h1, ha, hv, hld, hP, hI⟩ := hi
    obtain ⟨e1, e2, e3, e4⟩ := ix (FK.zero .visit) hl h0 h
    have hTk := take_more (l := l) (FK.zero .visit) e3
    rw [e4] at hI
    obtain ⟨s1, s2⟩ := checkGo_step hI
    rw [e1]; dsimp only; rw [e2, hTk]
    generalize l.getD i.toNat (FK.zero .visit) = v at *
    refine ⟨⟨h0, h⟩, e3, fun q => (s1 q).symm, fun q => ?_⟩
    obtain ⟨t1, t2⟩ := s2 q
    have ho := order_size hT.known q
    have hst := siteOf_ok ho v.drop
    have hNP : NextPre m (fo os v.order) ⟨ao, ad, aa, ab, lv, ld⟩ v a := ⟨hmap, hst, ⟨ha, hv⟩, by dsimp only; omega, by have := ho.size; omega⟩
    have go : (v.drop = true → stands ((l.take i.toNat).map Visit.stop) ⟨v.order, false⟩ = true) → (v.drop = true → ¬ f v.order = 0) →
        NextPre m (fo os v.order) ⟨ao, ad, aa, ab, lv, ld⟩ v a ∧ (¬nextE m d (fo os v.order) lv ld v a = 0 → nextE m d (fo os v.order) lv ld v a = checkGo m d os [] l ⟨d.lo, d.home, 0⟩) ∧
        (nextE m d (fo os v.order) lv ld v a = 0 → (0 ≤ i + 1 ∧ i + 1 ≤ (l.length : Int) ∧ (0 ≤ (siteOf (fo os v.order) v.drop).pl ∧ (siteOf (fo os v.order) v.drop).pl < m.n) ∧ (0 ≤ v.leave ∧ v.leave ≤ 1000000) ∧ (-1000 * (i + 1) ≤ v.load ∧ v.load ≤ 1000 * (i + 1)) ∧
          Picked (upF f v.order (wrap (f v.order + 1))) (i + 1) ((l.take i.toNat ++ [v]).map Visit.stop) ∧ checkGo m d os [] l ⟨d.lo, d.home, 0⟩ = checkGo m d os ((l.take i.toNat ++ [v]).map Visit.stop) (l.drop (i.toNat + 1)) ⟨v.leave, (siteOf (fo os v.order) v.drop).pl, v.load⟩) ∧ l.length - (i.toNat + 1) < l.length - i.toNat) := by
      intro g1 g2
      obtain ⟨u1, u2⟩ := t2 g1
      refine ⟨hNP, fun z => (u1 z).symm, fun z => ?_⟩
      obtain ⟨z1, z2, z3, z4, z5, z6, z7⟩ := nextE_zero z
      have hb := begin_in z4
      have hsv := hst.sv
      have hwin := hT.driver.win
      have hsz := ho.size
      rw [List.map_append]
      refine ⟨⟨by omega, by omega, hst.pl, by omega, ?_, picked_more hP (by omega) g2, u2 z⟩, by omega⟩
      rw [z1]; unfold loadN
      split <;> omega
    refine ⟨fun hd => ⟨fun hz => ?_, fun hz => ?_⟩, fun hd => go (fun hd' => absurd (hd.symm.trans hd') (by decide)) (fun hd' => absurd (hd.symm.trans hd') (by decide))⟩
    · exact (t1 hd ((hP v.order).2.2.1 hz)).symm
    · refine go (fun _ => ?_) (fun _ => hz)
      cases hs : stands ((l.take i.toNat).map Visit.stop) ⟨v.order, false⟩ with
      | true => rfl
      | false => exact absurd ((hP v.order).2.2.2 hs) hz
  · obtain ⟨h0, h1, ha, hv, hld, hP, hI⟩ := hi
    rw [ixEnd h] at hI
    rw [hI, checkGo]
    exact ⟨fun q => by rw [if_neg q], fun q => by rw [if_pos q]⟩
theorem cchecked_t : Told Try.prog 55 cchecked_con := cchecked_told (csOk_cons cshaped_t (csOk_cons find_t (csOk_cons cnext_t (csOk_cons site_t csOk_nil)))) cchecked_ok
theorem checkAll_step {m : MapD} {ds : List Driver} {os : List Order} {i : Nat} {r : Route} {p : List Route} {l : List Visit} {c : List (List Visit)} {W : Fault} (h : W = checkAll m ds os i (r :: p) (l :: c)) :
    (findD r.driver ds = none → W = ⟨i, 8⟩) ∧ ∀ d, findD r.driver ds = some d → (¬ checkedE m d os r.stops l = 0 → W = ⟨i, checkedE m d os r.stops l⟩) ∧ (checkedE m d os r.stops l = 0 → W = checkAll m ds os (i + 1) p c) := by
  rw [checkAll] at h
  refine ⟨fun e => by rw [e] at h; exact h, fun d e => ?_⟩
  rw [e] at h; dsimp only at h
  exact ⟨fun q => by rw [if_pos q] at h; exact h, fun q => by rw [if_neg (by simpa using q)] at h; exact h⟩
theorem well_check {m : MapD} {ds : List Driver} {os : List Order} {p : List Route} (hm : MapOk m) (h : wellP (some m) ds os p = true) {r : Route} (hr : r ∈ p) {d : Driver} (hd : d ∈ ds) : CheckPre m d os r.stops :=
  ⟨well_timed hm h hr hd, (right_one (rightP_iff.1 (wellP_iff.1 h).2.2.2.1) hr).2⟩
theorem ccheck_ok : ccheck_vc := by
  unfold ccheck_vc
  simp only [bad_false, int0, nilOf, decide_eq_true_eq, decide_eq_false_iff_not, Bool.not_eq_true', Bool.not_eq_false', Bool.not_true, Bool.not_false, Bool.false_eq_true, Bool.true_eq_false, eq_self, true_and, and_true, false_or, or_false, false_implies, true_implies, implies_true, Int.not_lt, Int.not_le, gt_iff_lt, ge_iff_le, ne_eq]
  refine ⟨fun ds _ os _ p _ c _ hmo => ⟨hmo, fun _ => ⟨rfl, rfl⟩, fun h => by cases h⟩, ?_⟩
  intro m hm ds hd os ho p hp c hc hmo
  have hpl := hp.1.le
  refine ⟨hmo, fun h => by simp [checkP, h], fun hw => ⟨fun hn => ?_, fun hn => ?_⟩⟩
  · have : ¬ c.length = p.length := by omega
    simp [checkP, hw, this]
  have hcl : c.length = p.length := by omega
  have hP : checkP (some m) ds os p c = checkAll m ds os 0 p c := by simp [checkP, hw, hcl]
  rw [hP]
  refine ⟨fun i => 0 ≤ i ∧ i ≤ p.length ∧ checkAll m ds os 0 p c = checkAll m ds os i.toNat (p.drop i.toNat) (c.drop i.toNat), fun i => p.length - i.toNat, ⟨by omega, by omega, rfl⟩, fun i hi => ⟨fun h => ?_, fun h => ?_⟩⟩
  · obtain ⟨h0, h1, hI⟩ := hi
    obtain ⟨e1, e2, e3, e4⟩ := ix rz hpl h0 h
    have e3' : i.toNat < c.length := by omega
    have hrm := getD_mem rz e3
    rw [e4, getD_drop (d := ([] : List Visit)) e3'] at hI
    rw [e1]; dsimp only; rw [e2]
    obtain ⟨s1, s2⟩ := checkAll_step hI
    change List Route at p
    generalize p.getD i.toNat { driver := 0, served := 0, stops := [] } = r at *
    refine ⟨⟨h0, h⟩, e3, fun q => ?_, fun q => ⟨fun _ => ?_, fun z => by omega⟩⟩
    · obtain ⟨d, hd'⟩ := Option.isSome_iff_exists.1 q
      obtain ⟨t1, t2⟩ := s2 d hd'
      rw [hd']
      dsimp only [Option.getD]
      refine ⟨⟨h0, by omega⟩, e3', well_check (hmo m rfl) hw hrm (findD_mem hd').1, fun z => ?_, fun z => ⟨⟨by omega, by omega, t2 z⟩, by omega⟩⟩
      rw [t1 z]
      exact ⟨by show i = ((i.toNat : Nat) : Int); omega, rfl⟩
    · rw [s1 (by simpa using q)]
      exact ⟨by show i = ((i.toNat : Nat) : Int); omega, rfl⟩
  · obtain ⟨h0, h1, hI⟩ := hi
    rw [ixEnd h] at hI
    rw [hI]
    simp [checkAll]
theorem ccheck_t : Told Try.prog 33 ccheck_con := ccheck_told (csOk_cons ctog_t (csOk_cons cdriver_t (csOk_cons cchecked_t csOk_nil))) ccheck_ok
end Go.Eng

/- Certificates checked by the document: it is so. -/
set_option linter.unusedVariables false
set_option linter.unusedSimpArgs false
namespace Go.Eng
open Go Go.Proofs
/-- How far the visits were gone through. -/
structure OneInv (m : MapD) (d : Driver) (os : List Order) (ss : List Stop) (l : List Visit) (W : Int) (a lv ld k : Int) : Prop where
  k0 : 0 ≤ k
  k1 : k ≤ l.length
  pl : 0 ≤ a ∧ a < m.n
  left : 0 ≤ lv ∧ lv ≤ 1000000
  few : -1000 * k ≤ ld ∧ ld ≤ 1000 * k
  held : ld = carried (ss.take k.toNat) os
  pair : Paired (ss.take k.toNat)
  same : W = checkGo m d os (ss.take k.toNat) (l.drop k.toNat) ⟨lv, a, ld⟩
theorem wrong_zero {os : List Order} {ah : List Stop} {s : Stop} (h : (findO os s.order).isSome = true) (hn : stands ah s = false) (hp : s.drop = true → stands ah ⟨s.order, false⟩ = true) : wrongE os ah s = 0 := by
  unfold wrongE
  rw [if_neg (by simpa [Option.isSome_iff_ne_none] using h), if_neg (by rw [hn]; simp), if_neg]
  cases hd : s.drop with
  | false => simp
  | true => simp [hp hd]
theorem OneInv.step {m : MapD} {d : Driver} {os : List Order} {ss : List Stop} {l : List Visit} {W a lv ld k : Int} (h : OneInv m d os ss l W a lv ld k) (hT : TimedPre m d os ss) (hn : ss.Nodup) (hsh : l.map Visit.stop = ss) (hk : k < l.length) :
    ∀ v, v = l.getD k.toNat (FK.zero .visit) → ((findO os v.order).isSome = false → 8 = W) ∧ ((findO os v.order).isSome = true → (v.drop = true → stands (ss.take k.toNat) ⟨v.order, false⟩ = false → 17 = W) ∧ ((v.drop = true → stands (ss.take k.toNat) ⟨v.order, false⟩ = true) →
      (¬ nextE m d (fo os v.order) lv ld v a = 0 → nextE m d (fo os v.order) lv ld v a = W) ∧ (nextE m d (fo os v.order) lv ld v a = 0 → OneInv m d os ss l W (siteOf (fo os v.order) v.drop).pl v.leave v.load (k + 1)))) := by
  rintro v hv
  obtain ⟨k0, k1, pl, left, few, held, pair, same⟩ := h
  have e3 : k.toNat < l.length := by omega
  have hlen : l.length = ss.length := by rw [← hsh]; simp
  have e3' : k.toNat < ss.length := by omega
  have hvs : ss.getD k.toNat (FK.zero .stop) = v.stop := by
    rw [hv]
    exact ((shape_iff hlen).1 hsh k.toNat e3).symm
  have hT2 := take_more (l := ss) (FK.zero .stop) e3'
  rw [hvs] at hT2
  rw [getD_drop (d := FK.zero .visit) e3, ← hv] at same
  obtain ⟨s1, s2⟩ := checkGo_step same
  refine ⟨fun q => (s1 q).symm, fun q => ?_⟩
  obtain ⟨t1, t2⟩ := s2 q
  refine ⟨fun x y => (t1 x y).symm, fun x => ?_⟩
  obtain ⟨u1, u2⟩ := t2 x
  refine ⟨fun z => (u1 z).symm, fun z => ?_⟩
  obtain ⟨z1, z2, z3, z4, z5, z6, z7⟩ := nextE_zero z
  have ho := order_size hT.known q
  have hst := siteOf_ok ho v.drop
  have hb := begin_in z4
  have hsv := hst.sv
  have hwin := hT.driver.win
  have hsz := ho.size
  have hns : stands (ss.take k.toNat) v.stop = false := by
    rw [← Bool.not_eq_true, stands_iff]
    intro hm
    have : ss = ss.take (k.toNat + 1) ++ ss.drop (k.toNat + 1) := (List.take_append_drop _ _).symm
    rw [this, hT2] at hn
    have := (List.nodup_append.1 (List.nodup_append.1 hn).1).2.2 _ hm v.stop (by simp)
    exact this rfl
  have hw := wrong_zero (os := os) (ah := ss.take k.toNat) (s := v.stop) q hns x
  obtain ⟨p1, p2⟩ := load_step hT.known hw pair held
  have hL : v.load = loadOf os v.stop ld := by rw [z1]; rfl
  have hkk : (k + 1).toNat = k.toNat + 1 := by omega
  refine ⟨by omega, by omega, hst.pl, by omega, ?_, by rw [hkk, hT2, hL]; exact p2, by rw [hkk, hT2]; exact p1, by rw [hkk, hT2]; exact u2 z⟩
  rw [z1]; unfold loadN
  split <;> omega
theorem rOne_ok : rOne_vc := by
  unfold rOne_vc
  simp only [bad_false, int0, nilOf, decide_eq_true_eq, decide_eq_false_iff_not, Bool.not_eq_true', Bool.not_eq_false', Bool.not_true, Bool.not_false, Bool.false_eq_true, Bool.true_eq_false, eq_self, true_and, and_true, false_or, or_false, false_implies, true_implies, implies_true, Int.not_lt, Int.not_le, gt_iff_lt, ge_iff_le, ne_eq]
  intro m hml d os hos ss hss l hl hC
  have hl := hl.le
  have hT := hC.timed
  have hmap := hT.map
  refine ⟨fun hn => ?_, fun hn => ?_⟩
  · have : ¬ l.map Visit.stop = ss := fun e => hn (by rw [← e]; simp)
    simp [checkedE, this]
  have hlen : l.length = ss.length := by omega
  have hS := shape_iff hlen
  have h80 := hT.few
  refine ⟨fun i => 0 ≤ i ∧ i ≤ l.length ∧ ∀ k, k < i.toNat → (l.getD k (FK.zero .visit)).stop = ss.getD k (FK.zero .stop), fun i => l.length - i.toNat, ⟨by omega, by omega, fun k hk => by simp at hk⟩, fun i hi => ⟨fun h => ?_, fun h => ?_⟩⟩
  · obtain ⟨h0, h1, hI⟩ := hi
    obtain ⟨e1, e2, e3, e4⟩ := ix (FK.zero .visit) hl h0 h
    rw [e1]; dsimp only; rw [e2]
    refine ⟨⟨h0, h⟩, e3, ⟨h0, by omega⟩, by omega, fun q => ?_, fun q => ⟨⟨by omega, by omega, fun k hk => ?_⟩, by omega⟩⟩
    · have : ¬ l.map Visit.stop = ss := fun e => (elEqS' (l.getD i.toNat (FK.zero .visit)).stop _).1 q (hS.1 e _ e3)
      simp [checkedE, this]
    · by_cases e : k < i.toNat
      · exact hI k e
      · rw [show k = i.toNat by omega]; exact (elEqS (l.getD i.toNat (FK.zero .visit)).stop _).1 q
  obtain ⟨h0, h1, hI⟩ := hi
  have hsh : l.map Visit.stop = ss := hS.2 fun k hk => hI k (by omega)
  have hE : checkedE m d os ss l = checkGo m d os [] l ⟨d.lo, d.home, 0⟩ := by simp [checkedE, hsh]
  refine ⟨OneInv m d os ss l (checkedE m d os ss l), fun _ _ _ k => l.length - k.toNat, ⟨by omega, by omega, hT.driver.home, by have := hT.driver.win; omega, by omega, (carried_nil os).symm, fun id h => (by cases h), by rw [hE]; rfl⟩, fun a lv ld k hk => ⟨fun g => ?_, fun g => ?_⟩⟩
  · have k0 := hk.k0
    obtain ⟨e1, e2, e3, e4⟩ := ix (FK.zero .visit) hl k0 g
    have hvs : ss.getD k.toNat (FK.zero .stop) = (l.getD k.toNat (FK.zero .visit)).stop := (hS.1 hsh k.toNat e3).symm
    have hp : part ss (Int.toNat 0) (k.toNat - Int.toNat 0) = ss.take k.toNat := by simp [part]
    have hstep := hk.step hT hC.nodup hsh g
    have bS : (0 ≤ k ∧ k < (ss.length : Int)) ∧ k.toNat < ss.length := ⟨⟨k0, by omega⟩, by omega⟩
    have bV : (0 ≤ k ∧ k < (l.length : Int)) ∧ k.toNat < l.length := ⟨⟨k0, g⟩, e3⟩
    have hpl := hk.pl
    have hlf := hk.left
    have hfew := hk.few
    rw [e1, hvs, hp]
    dsimp only
    rw [e2]
    generalize l.getD k.toNat (FK.zero .visit) = v at *
    obtain ⟨s1, s2⟩ := hstep v rfl
    generalize checkedE m d os ss l = W at *
    rw [show v.stop.order = v.order from rfl, show v.stop.drop = v.drop from rfl]
    refine ⟨bS.1, bS.2, fun q => s1 (by rw [ixO_neg q]; rfl), fun q => ?_⟩
    obtain ⟨q1, q2, q3⟩ := ixO_pos q
    have q4 : (ixO os v.order 0).toNat < os.length := by omega
    rw [q3]
    obtain ⟨t1, t2⟩ := s2 q1
    have ho := order_size hT.known q1
    have hst := siteOf_ok ho v.drop
    have hsz := ho.size
    have hsv := hst.sv
    have hmt := mtime_in hpl.1 hpl.2 hst.pl.1 hst.pl.2
    have ht := tm_bound hmap a (siteOf (fo os v.order) v.drop).pl
    have w1 : wrap (ld - (fo os v.order).size) = ld - (fo os v.order).size := wrap_id (by omega) (by omega)
    have w2 : wrap (ld + (fo os v.order).size) = ld + (fo os v.order).size := wrap_id (by omega) (by omega)
    rw [hmt, w1, w2]
    dsimp only
    have w3 : wrap (lv + tm m a (siteOf (fo os v.order) v.drop).pl) = lv + tm m a (siteOf (fo os v.order) v.drop).pl := wrap_id (by omega) (by omega)
    rw [w3, show ({ lo := (siteOf (fo os v.order) v.drop).lo, hi := (siteOf (fo os v.order) v.drop).hi } : Win) = (siteOf (fo os v.order) v.drop).win from rfl]
    have rest : (v.drop = true → stands (ss.take k.toNat) ⟨v.order, false⟩ = true) → ∀ L, L = loadN (fo os v.order) v ld → (0 ≤ ixO os v.order 0 ∧ ixO os v.order 0 < (os.length : Int)) ∧ (ixO os v.order 0).toNat < os.length ∧ (0 ≤ k ∧ k < (l.length : Int)) ∧ k.toNat < l.length ∧
        (v.load = L → (d.room < L → 14 = W) ∧ (L ≤ d.room → (0 ≤ ixO os v.order 0 ∧ ixO os v.order 0 < (os.length : Int)) ∧ (ixO os v.order 0).toNat < os.length ∧ (0 ≤ k ∧ k < (ss.length : Int)) ∧ k.toNat < ss.length ∧ MapOk m ∧
          ((begin_ (siteOf (fo os v.order) v.drop).win (lv + tm m a (siteOf (fo os v.order) v.drop).pl)).snd = true → (0 ≤ k ∧ k < (l.length : Int)) ∧ k.toNat < l.length ∧ (v.arrive = lv + tm m a (siteOf (fo os v.order) v.drop).pl → (0 ≤ k ∧ k < (l.length : Int)) ∧ k.toNat < l.length ∧
            (v.start = (begin_ (siteOf (fo os v.order) v.drop).win (lv + tm m a (siteOf (fo os v.order) v.drop).pl)).fst → (0 ≤ k ∧ k < (l.length : Int)) ∧ k.toNat < l.length ∧
              (v.leave = wrap ((begin_ (siteOf (fo os v.order) v.drop).win (lv + tm m a (siteOf (fo os v.order) v.drop).pl)).fst + (siteOf (fo os v.order) v.drop).sv) →
                (d.hi < wrap ((begin_ (siteOf (fo os v.order) v.drop).win (lv + tm m a (siteOf (fo os v.order) v.drop).pl)).fst + (siteOf (fo os v.order) v.drop).sv) → 15 = W) ∧
                (wrap ((begin_ (siteOf (fo os v.order) v.drop).win (lv + tm m a (siteOf (fo os v.order) v.drop).pl)).fst + (siteOf (fo os v.order) v.drop).sv) ≤ d.hi → (0 ≤ k ∧ k < (l.length : Int)) ∧ k.toNat < l.length ∧
                  OneInv m d os ss l W (siteOf (fo os v.order) v.drop).pl v.leave L (k + 1) ∧ l.length - (k.toNat + 1) < l.length - k.toNat)) ∧
              (¬v.leave = wrap ((begin_ (siteOf (fo os v.order) v.drop).win (lv + tm m a (siteOf (fo os v.order) v.drop).pl)).fst + (siteOf (fo os v.order) v.drop).sv) → 15 = W)) ∧
            (¬v.start = (begin_ (siteOf (fo os v.order) v.drop).win (lv + tm m a (siteOf (fo os v.order) v.drop).pl)).fst → 15 = W)) ∧
            (¬v.arrive = lv + tm m a (siteOf (fo os v.order) v.drop).pl → 15 = W)) ∧
          ((begin_ (siteOf (fo os v.order) v.drop).win (lv + tm m a (siteOf (fo os v.order) v.drop).pl)).snd = false → 15 = W))) ∧ (¬v.load = L → 14 = W) := by
      rintro hpk L rfl
      obtain ⟨u1, u2⟩ := t2 hpk
      have n14 : (v.load ≠ loadN (fo os v.order) v ld ∨ d.room < loadN (fo os v.order) v ld) → 14 = W := fun hh => by
        have e := nextE_14 (m := m) (left := lv) (a := a) hh
        rw [← u1 (by rw [← e]; decide), ← e]
      have n15 : v.load = loadN (fo os v.order) v ld → loadN (fo os v.order) v ld ≤ d.room → lateN m d (fo os v.order) lv a v = true → 15 = W := fun g1 g2 g3 => by
        have e := nextE_late (m := m) (left := lv) (a := a) g1 g2
        rw [if_pos g3] at e
        rw [← u1 (by rw [e]; decide), e]
      refine ⟨⟨q, q2⟩, q4, bV.1, bV.2, fun b1 => ⟨fun b2 => n14 (.inr b2), fun b2 => ⟨⟨q, q2⟩, q4, bS.1, bS.2, hmap, fun b3 => ⟨bV.1, bV.2, fun b4 => ⟨bV.1, bV.2, fun b5 => ?_, fun b5 => ?_⟩, fun b4 => ?_⟩, fun b3 => ?_⟩⟩, fun b1 => n14 (.inl b1)⟩
      · have hb := begin_in b3
        have w4 : wrap ((begin_ (siteOf (fo os v.order) v.drop).win (lv + tm m a (siteOf (fo os v.order) v.drop).pl)).fst + (siteOf (fo os v.order) v.drop).sv) = (begin_ (siteOf (fo os v.order) v.drop).win (lv + tm m a (siteOf (fo os v.order) v.drop).pl)).fst + (siteOf (fo os v.order) v.drop).sv := wrap_id (by omega) (by omega)
        rw [w4]
        rw [← b4] at b3 b5 ⊢
        refine ⟨bV.1, bV.2, fun b6 => ⟨fun b7 => n15 b1 b2 ?_, fun b7 => ⟨bV.1, bV.2, ?_, by omega⟩⟩, fun b6 => n15 b1 b2 ?_⟩
        · have : d.hi < v.leave := by omega
          simp [lateN, this]
        · rw [← b1]
          refine u2 ?_
          rw [nextE_late b1 b2, if_neg]
          unfold lateN
          simp only [Bool.or_eq_true, Bool.not_eq_true', decide_eq_true_eq, not_or, ne_eq, Decidable.not_not, Bool.not_eq_false, Int.not_lt]
          exact ⟨⟨⟨⟨b4, b3⟩, b5⟩, b6⟩, by omega⟩
        · simp [lateN, b6]
      · refine n15 b1 b2 ?_
        rw [← b4] at b5
        simp [lateN, b5]
      · exact n15 b1 b2 (by simp [lateN, b4])
      · refine n15 b1 b2 ?_
        by_cases e : v.arrive = lv + tm m a (siteOf (fo os v.order) v.drop).pl
        · rw [← e] at b3; simp [lateN, b3]
        · simp [lateN, e]
    have hLd : v.drop = true → loadN (fo os v.order) v ld = ld - (fo os v.order).size := fun hd => by simp [loadN, hd]
    have hLp : v.drop = false → loadN (fo os v.order) v ld = ld + (fo os v.order).size := fun hd => by simp [loadN, hd]
    refine ⟨bS.1, bS.2, fun hd => ⟨⟨by omega, by omega, by omega⟩, bS.1, bS.2, by simp; omega, fun z => t1 hd (whereS_iff.1.1 z), fun z => ⟨bS.1, bS.2, fun _ => rest (fun _ => whereS_iff.2.1 z) _ (hLd hd).symm, fun hd' => absurd (hd.symm.trans hd') (by decide)⟩⟩,
      fun hd => ⟨bS.1, bS.2, fun hd' => absurd (hd.symm.trans hd') (by decide), fun _ => rest (fun hd' => absurd (hd.symm.trans hd') (by decide)) _ (hLp hd).symm⟩⟩
  · have same := hk.same
    have k1 := hk.k1
    rw [ixEnd g, checkGo] at same
    dsimp only at same
    have hc := hk.held
    obtain ⟨_, hs, _⟩ := known_iff.1 hT.known
    have hp := carried_pos (ahead := ss.take k.toNat) (os := os) fun o ho => by have := (orderE_ok (hs o ho)).size; omega
    refine ⟨fun q => ?_, fun q => ?_⟩
    · rw [same, if_neg (by omega)]
    · rw [same, if_pos (by omega)]
theorem rOne_t : Told Try.prog 57 rOne_con := rOne_told (csOk_cons rFind_t (csOk_cons rWhere_t (csOk_cons rSite_t (csOk_cons rTime_t (csOk_cons rBegin_t csOk_nil))))) rOne_ok
theorem rCcheck_ok : rCcheck_vc := by
  unfold rCcheck_vc
  simp only [bad_false, int0, nilOf, decide_eq_true_eq, decide_eq_false_iff_not, Bool.not_eq_true', Bool.not_eq_false', Bool.not_true, Bool.not_false, Bool.false_eq_true, Bool.true_eq_false, eq_self, true_and, and_true, false_or, or_false, false_implies, true_implies, implies_true, Int.not_lt, Int.not_le, gt_iff_lt, ge_iff_le, ne_eq]
  refine ⟨fun ds _ os _ p _ c _ hmo => ⟨hmo, fun _ => ⟨rfl, rfl⟩, fun h => by cases h⟩, ?_⟩
  intro m hm ds hd os ho p hp c hc hmo
  have hpl := hp.1.le
  refine ⟨hmo, fun h => by simp [checkP, h], fun hw => ⟨fun hn => ?_, fun hn => ?_⟩⟩
  · have : ¬ c.length = p.length := by omega
    simp [checkP, hw, this]
  have hcl : c.length = p.length := by omega
  have hP : checkP (some m) ds os p c = checkAll m ds os 0 p c := by simp [checkP, hw, hcl]
  rw [hP]
  refine ⟨fun i => 0 ≤ i ∧ i ≤ p.length ∧ checkAll m ds os 0 p c = checkAll m ds os i.toNat (p.drop i.toNat) (c.drop i.toNat), fun i => p.length - i.toNat, ⟨by omega, by omega, rfl⟩, fun i hi => ⟨fun h => ?_, fun h => ?_⟩⟩
  · obtain ⟨h0, h1, hI⟩ := hi
    obtain ⟨e1, e2, e3, e4⟩ := ix rz hpl h0 h
    have e3' : i.toNat < c.length := by omega
    have hrm := getD_mem rz e3
    rw [e4, getD_drop (d := ([] : List Visit)) e3'] at hI
    rw [e1]; dsimp only; rw [e2]
    obtain ⟨s1, s2⟩ := checkAll_step hI
    change List Route at p
    generalize p.getD i.toNat { driver := 0, served := 0, stops := [] } = r at *
    refine ⟨⟨h0, h⟩, e3, fun q => ?_, fun q => ?_⟩
    · rw [s1 (by simpa using q)]
      exact ⟨by show i = ((i.toNat : Nat) : Int); omega, rfl⟩
    · obtain ⟨d, hd'⟩ := Option.isSome_iff_exists.1 q
      obtain ⟨t1, t2⟩ := s2 d hd'
      rw [hd']
      dsimp only [Option.getD]
      refine ⟨⟨h0, h⟩, e3, ⟨h0, by omega⟩, e3', well_check (hmo m rfl) hw hrm (findD_mem hd').1, fun z => ?_, fun z => ⟨⟨by omega, by omega, t2 z⟩, by omega⟩⟩
      rw [t1 z]
      exact ⟨by show i = ((i.toNat : Nat) : Int); omega, rfl⟩
  · obtain ⟨h0, h1, hI⟩ := hi
    rw [ixEnd h] at hI
    rw [hI]
    simp [checkAll]
theorem rCcheck_t : Told Try.prog 35 rCcheck_con := rCcheck_told (csOk_cons rWell_t (csOk_cons rCdriver_t (csOk_cons rOne_t csOk_nil))) rCcheck_ok
end Go.Eng

/- A map of numbers that are known. -/
set_option linter.unusedVariables false
set_option linter.unusedSimpArgs false
namespace Go.Eng
open Go Go.Proofs
theorem newC_t : Told Try.prog 15 newC_con := by
  refine told_alt (ps := [.c .i, .c (.a (.f .int))]) new_t fun x _ => ⟨trivial, fun a ha h => ?_⟩
  obtain ⟨n, ts, _⟩ := x
  have ha : a = ⟨some (newE n ts ≠ 0), [.c .np, .c (.i (newE n ts))]⟩ ∨ a = ⟨some (newE n ts = 0), [.p true 91 [.i n, .o .int 3 ts], .c (.i 0)]⟩ := by
    have : a ∈ ([⟨some (newE n ts ≠ 0), [.c .np, .c (.i (newE n ts))]⟩, ⟨some (newE n ts = 0), [.p true 91 [.i n, .o .int 3 ts], .c (.i 0)]⟩] : List Alt) := ha
    simpa using this
  rcases ha with rfl | rfl
  · refine ⟨_, List.mem_singleton.2 rfl, ?_⟩
    have h : newE n ts ≠ 0 := h
    rw [decide_eq_false h]
    exact ⟨trivial, rfl⟩
  · refine ⟨_, List.mem_singleton.2 rfl, ?_⟩
    have h : newE n ts = 0 := h
    rw [decide_eq_true h]
    exact ⟨trivial, rfl⟩
theorem mapOkO_none : ∀ (x : MapD), none = some x → MapOk x := fun x h => by cases h
theorem mapOkO_some {n : Int} {ts : List Int} (h : newE n ts = 0) : ∀ (x : MapD), some ⟨n, ts⟩ = some x → MapOk x := fun x hx => by
  injection hx with hx
  subst hx
  exact newE_ok.1 h
end Go.Eng

/- What a drive says of stops that are cut off. -/
set_option linter.unusedVariables false
set_option linter.unusedSimpArgs false
namespace Go.Eng
open Go Go.Proofs
/-! ### Cut off -/
theorem wrongE_why {os : List Order} {l : List Stop} {s : Stop} : wrongE os l s = 0 ∨ wrongE os l s = 8 ∨ wrongE os l s = 16 ∨ wrongE os l s = 17 := by
  unfold wrongE
  split
  · exact .inr (.inl rfl)
  · split
    · exact .inr (.inr (.inl rfl))
    · split
      · exact .inr (.inr (.inr rfl))
      · exact .inl rfl
theorem tryStop_why {m : MapD} {d : Driver} {os : List Order} {ahead : List Stop} {s : Stop} {p : Pos} {e : Int} (h : tryStop m d os ahead s p = .error e) : e ≠ 0 ∧ e ≠ 1 ∧ e ≠ 18 := by
  have := @wrongE_why os ahead s
  rcases tryStop_err h with ⟨_, _⟩ | _ | _ <;> omega
theorem driveGo_cut {m : MapD} {d : Driver} {os : List Order} : ∀ (l ahead : List Stop) (p : Pos) (f : Fault), driveGo m d os ahead l p = .error f →
    f = ⟨((ahead.length + l.length : Nat) : Int), 18⟩ ∨ ∃ j, j < l.length ∧ f.spot = ((ahead.length + j : Nat) : Int) ∧ (f.why ≠ 0 ∧ f.why ≠ 1 ∧ f.why ≠ 18) ∧ ((∃ vs, driveGo m d os ahead (l.take j) p = .ok vs) ∨ driveGo m d os ahead (l.take j) p = .error ⟨((ahead.length + j : Nat) : Int), 18⟩) ∧ ∀ more, driveGo m d os ahead (l.take (j + 1) ++ more) p = .error f
  | [], ahead, p, f, h => by
    unfold driveGo at h
    split at h
    · injection h with h; exact .inl h.symm
    · cases h
  | s :: l, ahead, p, f, h => by
    unfold driveGo at h
    cases hv : tryStop m d os ahead s p with
    | error e =>
      rw [hv] at h
      injection h with h
      subst h
      refine .inr ⟨0, by simp, rfl, tryStop_why hv, ?_, fun more => ?_⟩
      · show (∃ vs, driveGo m d os ahead [] p = .ok vs) ∨ driveGo m d os ahead [] p = .error ⟨ahead.length, 18⟩
        unfold driveGo
        split
        · exact .inr rfl
        · exact .inl ⟨[], rfl⟩
      · show driveGo m d os ahead (s :: more) p = _
        unfold driveGo
        rw [hv]
    | ok v =>
      rw [hv] at h
      dsimp only at h
      cases hr : driveGo m d os (ahead ++ [s]) l (after os s v) with
      | ok vs => rw [hr] at h; cases h
      | error g =>
        rw [hr] at h
        injection h with h
        subst h
        have e : (ahead ++ [s]).length = ahead.length + 1 := by simp
        rcases driveGo_cut l (ahead ++ [s]) (after os s v) g hr with h | ⟨j, h1, h2, h3, h4, h5⟩
        · left
          rw [h, e]
          congr 1
          simp
          omega
        · refine .inr ⟨j + 1, by simp; omega, ?_, h3, ?_, fun more => ?_⟩
          · rw [h2, e]; omega
          · rw [e, show ahead.length + 1 + j = ahead.length + (j + 1) by omega] at h4
            show (∃ vs, driveGo m d os ahead (s :: l.take j) p = .ok vs) ∨ driveGo m d os ahead (s :: l.take j) p = _
            rcases h4 with ⟨vs, h4⟩ | h4
            · left; refine ⟨v :: vs, ?_⟩; rw [driveGo, hv]; dsimp only; rw [h4]
            · right; rw [driveGo, hv]; dsimp only; rw [h4]
          · show driveGo m d os ahead (s :: (l.take (j + 1) ++ more)) p = _
            rw [driveGo, hv]
            dsimp only
            rw [h5 more]
theorem drive_cut (m : MapD) (d : Driver) (os : List Order) (ss : List Stop) :
    good (fauR (drive (some m) d os ss)) = true ∨ fauR (drive (some m) d os ss) = ⟨0, 1⟩ ∨ fauR (drive (some m) d os ss) = ⟨ss.length, 18⟩ ∨
    ∃ (j : Nat) (e : Int), j < ss.length ∧ j < 80 ∧ fauR (drive (some m) d os ss) = ⟨j, e⟩ ∧ (e ≠ 0 ∧ e ≠ 1 ∧ e ≠ 18) ∧ (good (fauR (drive (some m) d os (ss.take j))) = true ∨ fauR (drive (some m) d os (ss.take j)) = ⟨j, 18⟩) ∧
      ∀ more, more.length ≤ 80 - j - 1 → fauR (drive (some m) d os (ss.take (j + 1) ++ more)) = ⟨j, e⟩ := by
  cases hf : fitB (some m) d os ss with
  | false => right; left; rw [drive_unfit hf]; rfl
  | true =>
    obtain ⟨f1, f2, f3⟩ := fitB_iff.1 hf
    rw [drive_fit hf]
    cases hr : driveT m d os ss with
    | ok vs => left; rfl
    | error f =>
      have hs : ∀ l : List Stop, l.length ≤ 80 → drive (some m) d os l = driveGo m d os [] l ⟨d.lo, d.home, 0⟩ := fun l hl => drive_fit (fitB_iff.2 ⟨f1, f2, hl⟩)
      rcases driveGo_cut ss [] _ f hr with h | ⟨j, h1, h2, h3, h4, h5⟩
      · right; right; left
        rw [h]
        simp [fauR]
      · right; right; right
        have ef : f = ⟨j, f.why⟩ := by
          cases f
          simp at h2
          simp [h2]
        refine ⟨j, f.why, h1, by omega, ef, h3, ?_, fun more hm => ?_⟩
        · rw [hs _ (by rw [List.length_take]; omega)]
          rcases h4 with ⟨vs, h4⟩ | h4
          · left; rw [h4]; rfl
          · right; rw [h4]; simp [fauR]
        · rw [hs _ (by rw [List.length_append, List.length_take]; omega), h5 more]
          exact ef
end Go.Eng

/- The statements of certificates: what is told of them. -/
set_option linter.unusedVariables false
set_option linter.unusedSimpArgs false
namespace Go.Eng
open Go Go.Proofs
@[reducible] def eVisits : Nat := 76
def certRuns_con : Con := yes_con
noncomputable def certRuns_cs : Cons := [(15, newC_con), (29, cmake_con), (31, ccopied_con), (32, clists_con), (33, ccheck_con)]
def certRuns_la : List (Nat × LA) := [(2000012, ⟨[], [.tk 12 (.const (.int .i64 0))]⟩), (2000013, ⟨[], [.hl 12, .tk 13 (.const (.int .i64 0))]⟩), (2000014, ⟨[], [.hl 13]⟩)]
def certMakes_con : Con := ⟨[.r .world], fun w => law (pA (.r (SK.enc .world w)))⟩
noncomputable def certMakes_cs : Cons := [(19, maps_con), (20, kcopy_con), (29, cmake_con), (34, rCmake_con), (32, clists_con), (22, kroutes_con), (9, certRuns_con)]
noncomputable def certMakes_la : List (Nat × LA) := app [(11, ⟨[1, 6, 7, 9, 11], [.i 13, .appd 7 (.rows .visit) eVisits]⟩), (15, ⟨[1, 6, 7, 9, 11, 13, 14], [.i 15, .pr 14 .visit]⟩)] [(2000013, ⟨[], [.ts 7 (.tmp 13)]⟩), (2000012, ⟨[], [.hl 7]⟩)]
def certTurned_con : Con := ⟨[.r .world, .c .i, .c .i, .c .i], fun w a b c => law (pA (.r (SK.enc .world w)) ∧ pA (.c (.i a)) ∧ pA (.c (.i b)) ∧ pA (.c (.i c)))⟩
noncomputable def certTurned_cs : Cons := [(19, maps_con), (34, rCmake_con), (33, ccheck_con), (35, rCcheck_con), (9, certRuns_con), (36, bWithin_con)]
noncomputable def certTurned_la : List (Nat × LA) := app [(7, ⟨[1, 2, 3, 4, 9, 10, 12, 13], [.i 14, .i 15]⟩), (14, ⟨[2, 3, 4, 9, 10, 12], [.i 16, .i 17, .appd 12 (.rows .visit) eVisits]⟩)] [(2000009, ⟨[], [.tk 12 (.tmp 15)]⟩), (2000008, ⟨[], [.hl 12]⟩), (2000016, ⟨[], [.tk 12 (.tmp 17)]⟩), (2000015, ⟨[], [.hl 12]⟩)]
def certChecks_con : Con := ⟨[.r .world, .c (.a (.rows .visit))], fun w c => law (pA (.r (SK.enc .world w)) ∧ pA (.c (.a (.rows .visit) c)))⟩
noncomputable def certChecks_cs : Cons := [(19, maps_con), (31, ccopied_con), (33, ccheck_con), (35, rCcheck_con), (32, clists_con), (9, certRuns_con)]
def certChecks_la : List (Nat × LA) := []
def certOnly_con : Con := ⟨[.r .world, .c (.a (.rows .visit)), .c .b], fun w c b => law (pA (.r (SK.enc .world w)) ∧ pA (.c (.a (.rows .visit) c)) ∧ pA (.c (.b b)))⟩
noncomputable def certOnly_cs : Cons := [(19, maps_con), (29, cmake_con), (31, ccopied_con), (33, ccheck_con), (30, good_con), (32, clists_con), (9, certRuns_con)]
def certOnly_la : List (Nat × LA) := []
def certRoutes_con : Con := ⟨[.r .world], fun w => law (pA (.r (SK.enc .world w)))⟩
noncomputable def certRoutes_cs : Cons := [(19, maps_con), (29, cmake_con), (30, good_con), (9, certRuns_con), (37, drive_con), (38, sameV_con)]
def certRoutes_la : List (Nat × LA) := [(10, ⟨[1, 3, 6], [.i 8, .frz 6]⟩), (14, ⟨[1, 3, 6, 8], [.b 9, .i 10]⟩)]
end Go.Eng

/- The conditions of functions, as print.. of the engine told them. -/
set_option linter.unusedVariables false
namespace Go.Eng
open Go Go.Proofs
def certMakes_vc : Prop :=
  ∀ (x : WorldD), (LenOk x.times.length ∧ LenOk x.drivers.length ∧ LenOk x.orders.length ∧ LenOk x.plan.length ∧ ∀ (r : Route), List.Mem r x.plan → LenOk r.stops.length) → Given (pA (AV.r (SK.world.enc x))) → (newE x.n x.times ≠ (0 : Int) →
  ((!true) = true → false = true) ∧ ((!true) = false → (x.plan.length * (40 : Nat) ≤ (140737488351232 : Nat) ∧ ∀ (r : Route), List.Mem r x.plan → r.stops.length * (16 : Nat) ≤ (140737488351232 : Nat)) ∧ (∀ (x : MapD), none = some x → MapOk x)
  ∧ (∀ (x : MapD), none = some x → MapOk x) ∧ (∀ (x : MapD), none = some x → MapOk x) ∧ ((!(decide ((cfauR (makeP none x.drivers x.orders x.plan)).spot = (cfauR (makeP none x.drivers x.orders x.plan)).spot) && (decide ((cfauR (makeP none
  x.drivers x.orders x.plan)).why = (cfauR (makeP none x.drivers x.orders x.plan)).why) && true))) = false → ((!(decide ((cfauR (makeP none x.drivers x.orders x.plan)).spot = (cfauR (makeP none x.drivers x.orders x.plan)).spot) && (decide
  ((cfauR (makeP none x.drivers x.orders x.plan)).why = (cfauR (makeP none x.drivers x.orders x.plan)).why) && true))) = false → ((!same (certR (makeP none x.drivers x.orders x.plan)) (certR (makeP none x.drivers x.orders x.plan))) = false →
  ((!same (certR (makeP none x.drivers x.orders x.plan)) (certR (makeP none x.drivers x.orders x.plan))) = true → false = true) ∧ ((!same (certR (makeP none x.drivers x.orders x.plan)) (certR (makeP none x.drivers x.orders x.plan))) = false →
  ∃ (inv : Int → List (List Visit) → Prop), ∃ (μ : Int → List (List Visit) → Nat), (((0 : Int) = (0 : Int) ∧ x.n = x.n ∧ x.plan = x.plan ∧ x.orders = x.orders ∧ x.drivers = x.drivers ∧ x.times = x.times ∧ certR (makeP none x.drivers x.orders
  x.plan) = certR (makeP none x.drivers x.orders x.plan) ∧ certR (makeP none x.drivers x.orders x.plan) = certR (makeP none x.drivers x.orders x.plan) ∧ certR (makeP none x.drivers x.orders x.plan) = certR (makeP none x.drivers x.orders
  x.plan) ∧ x.plan = x.plan) ∧ inv (0 : Int) (certR (makeP none x.drivers x.orders x.plan))) ∧ ∀ (x_9 : Int) (x_10 : List (List Visit)), inv x_9 x_10 → (decide (x_9 < (↑x_10.length : Int)) = true → ((0 : Int) ≤ x_9 ∧ x_9 < (↑x_10.length :
  Int)) ∧ ∀ (c : Nat), (x_10.getD x_9.toNat []).length ≤ c → LenOk c → ((0 : Int) ≤ x_9 ∧ x_9 < (↑x_10.length : Int)) ∧ x_9.toNat = x_9.toNat ∧ ((0 : Int) ≤ x_9 ∧ x_9 < (↑x_10.length : Int)) ∧ x_9.toNat = x_9.toNat ∧ (↑c : Int) = (↑c : Int) ∧
  ∃ (inv_1 : Int → List Visit → Prop), ∃ (μ_1 : Int → List Visit → Nat), (((x_9 = x_9 ∧ (0 : Int) = (0 : Int)) ∧ x.n = x.n ∧ x.plan = x.plan ∧ x.orders = x.orders ∧ x.drivers = x.drivers ∧ x.times = x.times ∧ (x_10.getD x_9.toNat [] =
  x_10.getD x_9.toNat [] ∧ c = c) ∧ certR (makeP none x.drivers x.orders x.plan) = certR (makeP none x.drivers x.orders x.plan) ∧ certR (makeP none x.drivers x.orders x.plan) = certR (makeP none x.drivers x.orders x.plan) ∧ (x_10 = x_10 ∧
  x_9.toNat = x_9.toNat ∧ (x_10.getD x_9.toNat []).length = (x_10.getD x_9.toNat []).length) ∧ x.plan = x.plan) ∧ inv_1 (0 : Int) (x_10.getD x_9.toNat [])) ∧ ∀ (x_15 : Int) (x_16 : List Visit), inv_1 x_15 x_16 → (decide (x_15 < (↑c : Int)) =
  true → ((0 : Int) ≤ x_15 ∧ x_15 < (↑c : Int)) ∧ (x_15.toNat ≤ x_16.length ∧ x_15.toNat < c) ∧ ((x_9 = x_9 ∧ wrap (x_15 + (1 : Int)) = wrap (x_15 + (1 : Int))) ∧ x.n = x.n ∧ x.plan = x.plan ∧ x.orders = x.orders ∧ x.drivers = x.drivers ∧
  x.times = x.times ∧ (List.take x_15.toNat x_16 ++ Visit.mk (0 : Int) false (0 : Int) (0 : Int) (0 : Int) (-5 : Int) :: List.drop (x_15.toNat + (1 : Nat)) x_16 = List.take x_15.toNat x_16 ++ Visit.mk (0 : Int) false (0 : Int) (0 : Int) (0 :
  Int) (-5 : Int) :: List.drop (x_15.toNat + (1 : Nat)) x_16 ∧ c = c) ∧ certR (makeP none x.drivers x.orders x.plan) = certR (makeP none x.drivers x.orders x.plan) ∧ certR (makeP none x.drivers x.orders x.plan) = certR (makeP none x.drivers
  x.orders x.plan) ∧ (x_10 = x_10 ∧ x_9.toNat = x_9.toNat ∧ (x_10.getD x_9.toNat []).length = (x_10.getD x_9.toNat []).length) ∧ x.plan = x.plan) ∧ inv_1 (wrap (x_15 + (1 : Int))) (List.take x_15.toNat x_16 ++ Visit.mk (0 : Int) false (0 :
  Int) (0 : Int) (0 : Int) (-5 : Int) :: List.drop (x_15.toNat + (1 : Nat)) x_16) ∧ μ_1 (wrap (x_15 + (1 : Int))) (List.take x_15.toNat x_16 ++ Visit.mk (0 : Int) false (0 : Int) (0 : Int) (0 : Int) (-5 : Int) :: List.drop (x_15.toNat + (1 :
  Nat)) x_16) < μ_1 x_15 x_16) ∧ (decide (x_15 < (↑c : Int)) = false → (x_10.getD x_9.toNat []).length ≤ x_16.length ∧ (wrap (x_9 + (1 : Int)) = wrap (x_9 + (1 : Int)) ∧ x.n = x.n ∧ x.plan = x.plan ∧ x.orders = x.orders ∧ x.drivers =
  x.drivers ∧ x.times = x.times ∧ certR (makeP none x.drivers x.orders x.plan) = certR (makeP none x.drivers x.orders x.plan) ∧ certR (makeP none x.drivers x.orders x.plan) = certR (makeP none x.drivers x.orders x.plan) ∧ x_10.set x_9.toNat
  (List.take (x_10.getD x_9.toNat []).length x_16) = x_10.set x_9.toNat (List.take (x_10.getD x_9.toNat []).length x_16) ∧ x.plan = x.plan) ∧ inv (wrap (x_9 + (1 : Int))) (x_10.set x_9.toNat (List.take (x_10.getD x_9.toNat []).length x_16)) ∧
  μ (wrap (x_9 + (1 : Int))) (x_10.set x_9.toNat (List.take (x_10.getD x_9.toNat []).length x_16)) < μ x_9 x_10)) ∧ (decide (x_9 < (↑x_10.length : Int)) = false → (same (certR (makeP none x.drivers x.orders x.plan)) (certR (makeP none
  x.drivers x.orders x.plan)) = true → (sameP x.plan x.plan = true → true = true) ∧ (sameP x.plan x.plan = !true → false = true)) ∧ (same (certR (makeP none x.drivers x.orders x.plan)) (certR (makeP none x.drivers x.orders x.plan)) = !true →
  false = true)))) ∧ ((!same (certR (makeP none x.drivers x.orders x.plan)) (certR (makeP none x.drivers x.orders x.plan))) = !false → false = true)) ∧ ((!(decide ((cfauR (makeP none x.drivers x.orders x.plan)).spot = (cfauR (makeP none
  x.drivers x.orders x.plan)).spot) && (decide ((cfauR (makeP none x.drivers x.orders x.plan)).why = (cfauR (makeP none x.drivers x.orders x.plan)).why) && true))) = !false → false = true)) ∧ ((!(decide ((cfauR (makeP none x.drivers x.orders
  x.plan)).spot = (cfauR (makeP none x.drivers x.orders x.plan)).spot) && (decide ((cfauR (makeP none x.drivers x.orders x.plan)).why = (cfauR (makeP none x.drivers x.orders x.plan)).why) && true))) = !false → false = true))) ∧ (newE x.n
  x.times = (0 : Int) → ((!true) = true → false = true) ∧ ((!true) = false → (x.plan.length * (40 : Nat) ≤ (140737488351232 : Nat) ∧ ∀ (r : Route), List.Mem r x.plan → r.stops.length * (16 : Nat) ≤ (140737488351232 : Nat)) ∧ (∀ (x_5 : MapD),
  some (MapD.mk x.n x.times) = some x_5 → MapOk x_5) ∧ (∀ (x_5 : MapD), some (MapD.mk x.n x.times) = some x_5 → MapOk x_5) ∧ (∀ (x_5 : MapD), some (MapD.mk x.n x.times) = some x_5 → MapOk x_5) ∧ ((!(decide ((cfauR (makeP (some (MapD.mk x.n
  x.times)) x.drivers x.orders x.plan)).spot = (cfauR (makeP (some (MapD.mk x.n x.times)) x.drivers x.orders x.plan)).spot) && (decide ((cfauR (makeP (some (MapD.mk x.n x.times)) x.drivers x.orders x.plan)).why = (cfauR (makeP (some (MapD.mk
  x.n x.times)) x.drivers x.orders x.plan)).why) && true))) = false → ((!(decide ((cfauR (makeP (some (MapD.mk x.n x.times)) x.drivers x.orders x.plan)).spot = (cfauR (makeP (some (MapD.mk x.n x.times)) x.drivers x.orders x.plan)).spot) &&
  (decide ((cfauR (makeP (some (MapD.mk x.n x.times)) x.drivers x.orders x.plan)).why = (cfauR (makeP (some (MapD.mk x.n x.times)) x.drivers x.orders x.plan)).why) && true))) = false → ((!same (certR (makeP (some (MapD.mk x.n x.times))
  x.drivers x.orders x.plan)) (certR (makeP (some (MapD.mk x.n x.times)) x.drivers x.orders x.plan))) = false → ((!same (certR (makeP (some (MapD.mk x.n x.times)) x.drivers x.orders x.plan)) (certR (makeP (some (MapD.mk x.n x.times))
  x.drivers x.orders x.plan))) = true → false = true) ∧ ((!same (certR (makeP (some (MapD.mk x.n x.times)) x.drivers x.orders x.plan)) (certR (makeP (some (MapD.mk x.n x.times)) x.drivers x.orders x.plan))) = false → ∃ (inv : Int → List (List
  Visit) → Prop), ∃ (μ : Int → List (List Visit) → Nat), (((0 : Int) = (0 : Int) ∧ x.n = x.n ∧ x.plan = x.plan ∧ x.orders = x.orders ∧ x.drivers = x.drivers ∧ x.times = x.times ∧ certR (makeP (some (MapD.mk x.n x.times)) x.drivers x.orders
  x.plan) = certR (makeP (some (MapD.mk x.n x.times)) x.drivers x.orders x.plan) ∧ certR (makeP (some (MapD.mk x.n x.times)) x.drivers x.orders x.plan) = certR (makeP (some (MapD.mk x.n x.times)) x.drivers x.orders x.plan) ∧ certR (makeP
  (some (MapD.mk x.n x.times)) x.drivers x.orders x.plan) = certR (makeP (some (MapD.mk x.n x.times)) x.drivers x.orders x.plan) ∧ x.plan = x.plan) ∧ inv (0 : Int) (certR (makeP (some (MapD.mk x.n x.times)) x.drivers x.orders x.plan))) ∧ ∀
  (x_9 : Int) (x_10 : List (List Visit)), inv x_9 x_10 → (decide (x_9 < (↑x_10.length : Int)) = true → ((0 : Int) ≤ x_9 ∧ x_9 < (↑x_10.length : Int)) ∧ ∀ (c : Nat), (x_10.getD x_9.toNat []).length ≤ c → LenOk c → ((0 : Int) ≤ x_9 ∧ x_9 <
  (↑x_10.length : Int)) ∧ x_9.toNat = x_9.toNat ∧ ((0 : Int) ≤ x_9 ∧ x_9 < (↑x_10.length : Int)) ∧ x_9.toNat = x_9.toNat ∧ (↑c : Int) = (↑c : Int) ∧ ∃ (inv_1 : Int → List Visit → Prop), ∃ (μ_1 : Int → List Visit → Nat), (((x_9 = x_9 ∧ (0 :
  Int) = (0 : Int)) ∧ x.n = x.n ∧ x.plan = x.plan ∧ x.orders = x.orders ∧ x.drivers = x.drivers ∧ x.times = x.times ∧ (x_10.getD x_9.toNat [] = x_10.getD x_9.toNat [] ∧ c = c) ∧ certR (makeP (some (MapD.mk x.n x.times)) x.drivers x.orders
  x.plan) = certR (makeP (some (MapD.mk x.n x.times)) x.drivers x.orders x.plan) ∧ certR (makeP (some (MapD.mk x.n x.times)) x.drivers x.orders x.plan) = certR (makeP (some (MapD.mk x.n x.times)) x.drivers x.orders x.plan) ∧ (x_10 = x_10 ∧
  x_9.toNat = x_9.toNat ∧ (x_10.getD x_9.toNat []).length = (x_10.getD x_9.toNat []).length) ∧ x.plan = x.plan) ∧ inv_1 (0 : Int) (x_10.getD x_9.toNat [])) ∧ ∀ (x_15 : Int) (x_16 : List Visit), inv_1 x_15 x_16 → (decide (x_15 < (↑c : Int)) =
  true → ((0 : Int) ≤ x_15 ∧ x_15 < (↑c : Int)) ∧ (x_15.toNat ≤ x_16.length ∧ x_15.toNat < c) ∧ ((x_9 = x_9 ∧ wrap (x_15 + (1 : Int)) = wrap (x_15 + (1 : Int))) ∧ x.n = x.n ∧ x.plan = x.plan ∧ x.orders = x.orders ∧ x.drivers = x.drivers ∧
  x.times = x.times ∧ (List.take x_15.toNat x_16 ++ Visit.mk (0 : Int) false (0 : Int) (0 : Int) (0 : Int) (-5 : Int) :: List.drop (x_15.toNat + (1 : Nat)) x_16 = List.take x_15.toNat x_16 ++ Visit.mk (0 : Int) false (0 : Int) (0 : Int) (0 :
  Int) (-5 : Int) :: List.drop (x_15.toNat + (1 : Nat)) x_16 ∧ c = c) ∧ certR (makeP (some (MapD.mk x.n x.times)) x.drivers x.orders x.plan) = certR (makeP (some (MapD.mk x.n x.times)) x.drivers x.orders x.plan) ∧ certR (makeP (some (MapD.mk
  x.n x.times)) x.drivers x.orders x.plan) = certR (makeP (some (MapD.mk x.n x.times)) x.drivers x.orders x.plan) ∧ (x_10 = x_10 ∧ x_9.toNat = x_9.toNat ∧ (x_10.getD x_9.toNat []).length = (x_10.getD x_9.toNat []).length) ∧ x.plan = x.plan) ∧
  inv_1 (wrap (x_15 + (1 : Int))) (List.take x_15.toNat x_16 ++ Visit.mk (0 : Int) false (0 : Int) (0 : Int) (0 : Int) (-5 : Int) :: List.drop (x_15.toNat + (1 : Nat)) x_16) ∧ μ_1 (wrap (x_15 + (1 : Int))) (List.take x_15.toNat x_16 ++
  Visit.mk (0 : Int) false (0 : Int) (0 : Int) (0 : Int) (-5 : Int) :: List.drop (x_15.toNat + (1 : Nat)) x_16) < μ_1 x_15 x_16) ∧ (decide (x_15 < (↑c : Int)) = false → (x_10.getD x_9.toNat []).length ≤ x_16.length ∧ (wrap (x_9 + (1 : Int)) =
  wrap (x_9 + (1 : Int)) ∧ x.n = x.n ∧ x.plan = x.plan ∧ x.orders = x.orders ∧ x.drivers = x.drivers ∧ x.times = x.times ∧ certR (makeP (some (MapD.mk x.n x.times)) x.drivers x.orders x.plan) = certR (makeP (some (MapD.mk x.n x.times))
  x.drivers x.orders x.plan) ∧ certR (makeP (some (MapD.mk x.n x.times)) x.drivers x.orders x.plan) = certR (makeP (some (MapD.mk x.n x.times)) x.drivers x.orders x.plan) ∧ x_10.set x_9.toNat (List.take (x_10.getD x_9.toNat []).length x_16) =
  x_10.set x_9.toNat (List.take (x_10.getD x_9.toNat []).length x_16) ∧ x.plan = x.plan) ∧ inv (wrap (x_9 + (1 : Int))) (x_10.set x_9.toNat (List.take (x_10.getD x_9.toNat []).length x_16)) ∧ μ (wrap (x_9 + (1 : Int))) (x_10.set x_9.toNat
  (List.take (x_10.getD x_9.toNat []).length x_16)) < μ x_9 x_10)) ∧ (decide (x_9 < (↑x_10.length : Int)) = false → (same (certR (makeP (some (MapD.mk x.n x.times)) x.drivers x.orders x.plan)) (certR (makeP (some (MapD.mk x.n x.times))
  x.drivers x.orders x.plan)) = true → (sameP x.plan x.plan = true → true = true) ∧ (sameP x.plan x.plan = !true → false = true)) ∧ (same (certR (makeP (some (MapD.mk x.n x.times)) x.drivers x.orders x.plan)) (certR (makeP (some (MapD.mk x.n
  x.times)) x.drivers x.orders x.plan)) = !true → false = true)))) ∧ ((!same (certR (makeP (some (MapD.mk x.n x.times)) x.drivers x.orders x.plan)) (certR (makeP (some (MapD.mk x.n x.times)) x.drivers x.orders x.plan))) = !false → false =
  true)) ∧ ((!(decide ((cfauR (makeP (some (MapD.mk x.n x.times)) x.drivers x.orders x.plan)).spot = (cfauR (makeP (some (MapD.mk x.n x.times)) x.drivers x.orders x.plan)).spot) && (decide ((cfauR (makeP (some (MapD.mk x.n x.times)) x.drivers
  x.orders x.plan)).why = (cfauR (makeP (some (MapD.mk x.n x.times)) x.drivers x.orders x.plan)).why) && true))) = !false → false = true)) ∧ ((!(decide ((cfauR (makeP (some (MapD.mk x.n x.times)) x.drivers x.orders x.plan)).spot = (cfauR
  (makeP (some (MapD.mk x.n x.times)) x.drivers x.orders x.plan)).spot) && (decide ((cfauR (makeP (some (MapD.mk x.n x.times)) x.drivers x.orders x.plan)).why = (cfauR (makeP (some (MapD.mk x.n x.times)) x.drivers x.orders x.plan)).why) &&
  true))) = !false → false = true)))
theorem certMakes_told (hc : CsOk Try.prog certMakes_cs) (h : certMakes_vc) : Told Try.prog 10 certMakes_con := told (A := certMakes_la) tabOk mixed hc Try.func10 (by kernel_rfl) (by kernel_rfl) h
end Go.Eng

/- The conditions of functions, as print.. of the engine told them. -/
set_option linter.unusedVariables false
namespace Go.Eng
open Go Go.Proofs
def certTurned_vc : Prop :=
  ∀ (x : WorldD), (LenOk x.times.length ∧ LenOk x.drivers.length ∧ LenOk x.orders.length ∧ LenOk x.plan.length ∧ ∀ (r : Route), List.Mem r x.plan → LenOk r.stops.length) → ∀ (x_2 x_3 x_4 : Int), Given (pA (AV.r (SK.world.enc x)) ∧ pA (AV.c
  (AC.i x_2)) ∧ pA (AV.c (AC.i x_3)) ∧ pA (AV.c (AC.i x_4))) → (newE x.n x.times ≠ (0 : Int) → ((!true) = true → false = true) ∧ ((!true) = false → (∀ (x : MapD), none = some x → MapOk x) ∧ ∃ (inv : Int → Int → Prop), ∃ (μ : Int → Int → Nat),
  (((x_2 = x_2 ∧ x_3 = x_3 ∧ x_4 = x_4 ∧ (0 : Int) = (0 : Int) ∧ (0 : Int) = (0 : Int)) ∧ (x.n = x.n ∧ (cfauR (makeP none x.drivers x.orders x.plan)).spot = (cfauR (makeP none x.drivers x.orders x.plan)).spot ∧ (cfauR (makeP none x.drivers
  x.orders x.plan)).why = (cfauR (makeP none x.drivers x.orders x.plan)).why) ∧ x.plan = x.plan ∧ x.orders = x.orders ∧ x.drivers = x.drivers ∧ x.times = x.times ∧ certR (makeP none x.drivers x.orders x.plan) = certR (makeP none x.drivers
  x.orders x.plan)) ∧ inv (0 : Int) (0 : Int)) ∧ ∀ (x_8 x_9 : Int), inv x_8 x_9 → (decide (x_9 < (↑(certR (makeP none x.drivers x.orders x.plan)).length : Int)) = true → ((0 : Int) ≤ x_9 ∧ x_9 < (↑(certR (makeP none x.drivers x.orders
  x.plan)).length : Int)) ∧ ∀ (e' : Nat), ((0 : Int) ≤ x_9 ∧ x_9 < (↑(certR (makeP none x.drivers x.orders x.plan)).length : Int)) ∧ x_9.toNat = x_9.toNat ∧ ((x_2 = x_2 ∧ x_3 = x_3 ∧ x_4 = x_4 ∧ wrap (x_8 + (↑((certR (makeP none x.drivers
  x.orders x.plan)).getD x_9.toNat []).length : Int)) = wrap (x_8 + (↑((certR (makeP none x.drivers x.orders x.plan)).getD x_9.toNat []).length : Int)) ∧ wrap (x_9 + (1 : Int)) = wrap (x_9 + (1 : Int))) ∧ (x.n = x.n ∧ (cfauR (makeP none
  x.drivers x.orders x.plan)).spot = (cfauR (makeP none x.drivers x.orders x.plan)).spot ∧ (cfauR (makeP none x.drivers x.orders x.plan)).why = (cfauR (makeP none x.drivers x.orders x.plan)).why) ∧ x.plan = x.plan ∧ x.orders = x.orders ∧
  x.drivers = x.drivers ∧ x.times = x.times ∧ (certR (makeP none x.drivers x.orders x.plan)).set x_9.toNat ((certR (makeP none x.drivers x.orders x.plan)).getD x_9.toNat []) = certR (makeP none x.drivers x.orders x.plan)) ∧ inv (wrap (x_8 +
  (↑((certR (makeP none x.drivers x.orders x.plan)).getD x_9.toNat []).length : Int))) (wrap (x_9 + (1 : Int))) ∧ μ (wrap (x_8 + (↑((certR (makeP none x.drivers x.orders x.plan)).getD x_9.toNat []).length : Int))) (wrap (x_9 + (1 : Int))) < μ
  x_8 x_9) ∧ (decide (x_9 < (↑(certR (makeP none x.drivers x.orders x.plan)).length : Int)) = false → ((!decide ((cfauR (makeP none x.drivers x.orders x.plan)).why = (0 : Int))) = false → (decide (x_8 = (0 : Int)) = true → (∀ (x : MapD), none
  = some x → MapOk x) ∧ (∀ (x : MapD), none = some x → MapOk x) ∧ ((decide ((checkP none x.drivers x.orders x.plan (certR (makeP none x.drivers x.orders x.plan))).spot = (checkP none x.drivers x.orders x.plan (certR (makeP none x.drivers
  x.orders x.plan))).spot) && (decide ((checkP none x.drivers x.orders x.plan (certR (makeP none x.drivers x.orders x.plan))).why = (checkP none x.drivers x.orders x.plan (certR (makeP none x.drivers x.orders x.plan))).why) && true)) = true →
  true = true) ∧ ((decide ((checkP none x.drivers x.orders x.plan (certR (makeP none x.drivers x.orders x.plan))).spot = (checkP none x.drivers x.orders x.plan (certR (makeP none x.drivers x.orders x.plan))).spot) && (decide ((checkP none
  x.drivers x.orders x.plan (certR (makeP none x.drivers x.orders x.plan))).why = (checkP none x.drivers x.orders x.plan (certR (makeP none x.drivers x.orders x.plan))).why) && true)) = !true → false = true)) ∧ (decide (x_8 = (0 : Int)) =
  false → ((0 : Int) ≤ wrap (x_8 - (1 : Int)) ∧ (0 : Int) ≤ (0 : Int) ∧ wrap (x_8 - (1 : Int)) ≤ (9223372036854775806 : Int)) ∧ ∃ (inv : Int → Int → List (List Visit) → Prop), ∃ (μ : Int → Int → List (List Visit) → Nat), (((x_3 = x_3 ∧ x_4 =
  x_4 ∧ bwithin x_2 (0 : Int) (wrap (x_8 - (1 : Int))) = bwithin x_2 (0 : Int) (wrap (x_8 - (1 : Int))) ∧ (0 : Int) = (0 : Int)) ∧ x.n = x.n ∧ x.plan = x.plan ∧ x.orders = x.orders ∧ x.drivers = x.drivers ∧ x.times = x.times ∧ certR (makeP
  none x.drivers x.orders x.plan) = certR (makeP none x.drivers x.orders x.plan)) ∧ inv (bwithin x_2 (0 : Int) (wrap (x_8 - (1 : Int)))) (0 : Int) (certR (makeP none x.drivers x.orders x.plan))) ∧ ∀ (x_14 x_15 : Int) (x_16 : List (List
  Visit)), inv x_14 x_15 x_16 → (decide (x_15 < (↑x_16.length : Int)) = true → ((0 : Int) ≤ x_15 ∧ x_15 < (↑x_16.length : Int)) ∧ ∀ (e' : Nat), (decide (x_14 < (0 : Int)) = false → ((0 : Int) ≤ x_15 ∧ x_15 < (↑x_16.length : Int)) ∧ x_15.toNat
  = x_15.toNat ∧ (decide (x_14 ≥ (↑(x_16.getD x_15.toNat []).length : Int)) = true → ((0 : Int) ≤ x_15 ∧ x_15 < (↑x_16.length : Int)) ∧ x_15.toNat = x_15.toNat ∧ ((x_3 = x_3 ∧ x_4 = x_4 ∧ wrap (x_14 - (↑(x_16.getD x_15.toNat []).length :
  Int)) = wrap (x_14 - (↑(x_16.getD x_15.toNat []).length : Int)) ∧ wrap (x_15 + (1 : Int)) = wrap (x_15 + (1 : Int))) ∧ x.n = x.n ∧ x.plan = x.plan ∧ x.orders = x.orders ∧ x.drivers = x.drivers ∧ x.times = x.times ∧ x_16.set x_15.toNat
  (x_16.getD x_15.toNat []) = x_16.set x_15.toNat (x_16.getD x_15.toNat [])) ∧ inv (wrap (x_14 - (↑(x_16.getD x_15.toNat []).length : Int))) (wrap (x_15 + (1 : Int))) (x_16.set x_15.toNat (x_16.getD x_15.toNat [])) ∧ μ (wrap (x_14 -
  (↑(x_16.getD x_15.toNat []).length : Int))) (wrap (x_15 + (1 : Int))) (x_16.set x_15.toNat (x_16.getD x_15.toNat [])) < μ x_14 x_15 x_16) ∧ (decide (x_14 ≥ (↑(x_16.getD x_15.toNat []).length : Int)) = false → ((0 : Int) ≤ x_15 ∧ x_15 <
  (↑x_16.length : Int)) ∧ x_15.toNat = x_15.toNat ∧ ((0 : Int) ≤ x_14 ∧ x_14 < (↑(x_16.getD x_15.toNat []).length : Int)) ∧ ((0 : Int) ≤ (5 : Int) ∧ (0 : Int) ≤ (0 : Int) ∧ (5 : Int) ≤ (9223372036854775806 : Int)) ∧ (decide (bwithin x_3 (0 :
  Int) (5 : Int) = (0 : Int)) = true → x_14.toNat < (x_16.getD x_15.toNat []).length ∧ x_14.toNat < (x_16.getD x_15.toNat []).length ∧ ((x_3 = x_3 ∧ x_4 = x_4 ∧ (-1 : Int) = (-1 : Int) ∧ wrap (x_15 + (1 : Int)) = wrap (x_15 + (1 : Int))) ∧
  x.n = x.n ∧ x.plan = x.plan ∧ x.orders = x.orders ∧ x.drivers = x.drivers ∧ x.times = x.times ∧ x_16.set x_15.toNat ((x_16.getD x_15.toNat []).set x_14.toNat (Visit.mk ((x_16.getD x_15.toNat []).getD x_14.toNat FK.visit.zero).order
  ((x_16.getD x_15.toNat []).getD x_14.toNat FK.visit.zero).drop (wrap (((x_16.getD x_15.toNat []).getD x_14.toNat FK.visit.zero).arrive + x_4)) ((x_16.getD x_15.toNat []).getD x_14.toNat FK.visit.zero).start ((x_16.getD x_15.toNat []).getD
  x_14.toNat FK.visit.zero).leave ((x_16.getD x_15.toNat []).getD x_14.toNat FK.visit.zero).load)) = x_16.set x_15.toNat ((x_16.getD x_15.toNat []).set x_14.toNat (Visit.mk ((x_16.getD x_15.toNat []).getD x_14.toNat FK.visit.zero).order
  ((x_16.getD x_15.toNat []).getD x_14.toNat FK.visit.zero).drop (wrap (((x_16.getD x_15.toNat []).getD x_14.toNat FK.visit.zero).arrive + x_4)) ((x_16.getD x_15.toNat []).getD x_14.toNat FK.visit.zero).start ((x_16.getD x_15.toNat []).getD
  x_14.toNat FK.visit.zero).leave ((x_16.getD x_15.toNat []).getD x_14.toNat FK.visit.zero).load))) ∧ inv (-1 : Int) (wrap (x_15 + (1 : Int))) (x_16.set x_15.toNat ((x_16.getD x_15.toNat []).set x_14.toNat (Visit.mk ((x_16.getD x_15.toNat
  []).getD x_14.toNat FK.visit.zero).order ((x_16.getD x_15.toNat []).getD x_14.toNat FK.visit.zero).drop (wrap (((x_16.getD x_15.toNat []).getD x_14.toNat FK.visit.zero).arrive + x_4)) ((x_16.getD x_15.toNat []).getD x_14.toNat
  FK.visit.zero).start ((x_16.getD x_15.toNat []).getD x_14.toNat FK.visit.zero).leave ((x_16.getD x_15.toNat []).getD x_14.toNat FK.visit.zero).load))) ∧ μ (-1 : Int) (wrap (x_15 + (1 : Int))) (x_16.set x_15.toNat ((x_16.getD x_15.toNat
  []).set x_14.toNat (Visit.mk ((x_16.getD x_15.toNat []).getD x_14.toNat FK.visit.zero).order ((x_16.getD x_15.toNat []).getD x_14.toNat FK.visit.zero).drop (wrap (((x_16.getD x_15.toNat []).getD x_14.toNat FK.visit.zero).arrive + x_4))
  ((x_16.getD x_15.toNat []).getD x_14.toNat FK.visit.zero).start ((x_16.getD x_15.toNat []).getD x_14.toNat FK.visit.zero).leave ((x_16.getD x_15.toNat []).getD x_14.toNat FK.visit.zero).load))) < μ x_14 x_15 x_16) ∧ (decide (bwithin x_3 (0
  : Int) (5 : Int) = (0 : Int)) = false → (decide (bwithin x_3 (0 : Int) (5 : Int) = (1 : Int)) = true → x_14.toNat < (x_16.getD x_15.toNat []).length ∧ x_14.toNat < (x_16.getD x_15.toNat []).length ∧ ((x_3 = x_3 ∧ x_4 = x_4 ∧ (-1 : Int) =
  (-1 : Int) ∧ wrap (x_15 + (1 : Int)) = wrap (x_15 + (1 : Int))) ∧ x.n = x.n ∧ x.plan = x.plan ∧ x.orders = x.orders ∧ x.drivers = x.drivers ∧ x.times = x.times ∧ x_16.set x_15.toNat ((x_16.getD x_15.toNat []).set x_14.toNat (Visit.mk
  ((x_16.getD x_15.toNat []).getD x_14.toNat FK.visit.zero).order ((x_16.getD x_15.toNat []).getD x_14.toNat FK.visit.zero).drop ((x_16.getD x_15.toNat []).getD x_14.toNat FK.visit.zero).arrive (wrap (((x_16.getD x_15.toNat []).getD
  x_14.toNat FK.visit.zero).start + x_4)) ((x_16.getD x_15.toNat []).getD x_14.toNat FK.visit.zero).leave ((x_16.getD x_15.toNat []).getD x_14.toNat FK.visit.zero).load)) = x_16.set x_15.toNat ((x_16.getD x_15.toNat []).set x_14.toNat
  (Visit.mk ((x_16.getD x_15.toNat []).getD x_14.toNat FK.visit.zero).order ((x_16.getD x_15.toNat []).getD x_14.toNat FK.visit.zero).drop ((x_16.getD x_15.toNat []).getD x_14.toNat FK.visit.zero).arrive (wrap (((x_16.getD x_15.toNat []).getD
  x_14.toNat FK.visit.zero).start + x_4)) ((x_16.getD x_15.toNat []).getD x_14.toNat FK.visit.zero).leave ((x_16.getD x_15.toNat []).getD x_14.toNat FK.visit.zero).load))) ∧ inv (-1 : Int) (wrap (x_15 + (1 : Int))) (x_16.set x_15.toNat
  ((x_16.getD x_15.toNat []).set x_14.toNat (Visit.mk ((x_16.getD x_15.toNat []).getD x_14.toNat FK.visit.zero).order ((x_16.getD x_15.toNat []).getD x_14.toNat FK.visit.zero).drop ((x_16.getD x_15.toNat []).getD x_14.toNat
  FK.visit.zero).arrive (wrap (((x_16.getD x_15.toNat []).getD x_14.toNat FK.visit.zero).start + x_4)) ((x_16.getD x_15.toNat []).getD x_14.toNat FK.visit.zero).leave ((x_16.getD x_15.toNat []).getD x_14.toNat FK.visit.zero).load))) ∧ μ (-1 :
  Int) (wrap (x_15 + (1 : Int))) (x_16.set x_15.toNat ((x_16.getD x_15.toNat []).set x_14.toNat (Visit.mk ((x_16.getD x_15.toNat []).getD x_14.toNat FK.visit.zero).order ((x_16.getD x_15.toNat []).getD x_14.toNat FK.visit.zero).drop
  ((x_16.getD x_15.toNat []).getD x_14.toNat FK.visit.zero).arrive (wrap (((x_16.getD x_15.toNat []).getD x_14.toNat FK.visit.zero).start + x_4)) ((x_16.getD x_15.toNat []).getD x_14.toNat FK.visit.zero).leave ((x_16.getD x_15.toNat []).getD
  x_14.toNat FK.visit.zero).load))) < μ x_14 x_15 x_16) ∧ (decide (bwithin x_3 (0 : Int) (5 : Int) = (1 : Int)) = false → (decide (bwithin x_3 (0 : Int) (5 : Int) = (2 : Int)) = true → x_14.toNat < (x_16.getD x_15.toNat []).length ∧
  x_14.toNat < (x_16.getD x_15.toNat []).length ∧ ((x_3 = x_3 ∧ x_4 = x_4 ∧ (-1 : Int) = (-1 : Int) ∧ wrap (x_15 + (1 : Int)) = wrap (x_15 + (1 : Int))) ∧ x.n = x.n ∧ x.plan = x.plan ∧ x.orders = x.orders ∧ x.drivers = x.drivers ∧ x.times =
  x.times ∧ x_16.set x_15.toNat ((x_16.getD x_15.toNat []).set x_14.toNat (Visit.mk ((x_16.getD x_15.toNat []).getD x_14.toNat FK.visit.zero).order ((x_16.getD x_15.toNat []).getD x_14.toNat FK.visit.zero).drop ((x_16.getD x_15.toNat []).getD
  x_14.toNat FK.visit.zero).arrive ((x_16.getD x_15.toNat []).getD x_14.toNat FK.visit.zero).start (wrap (((x_16.getD x_15.toNat []).getD x_14.toNat FK.visit.zero).leave + x_4)) ((x_16.getD x_15.toNat []).getD x_14.toNat FK.visit.zero).load))
  = x_16.set x_15.toNat ((x_16.getD x_15.toNat []).set x_14.toNat (Visit.mk ((x_16.getD x_15.toNat []).getD x_14.toNat FK.visit.zero).order ((x_16.getD x_15.toNat []).getD x_14.toNat FK.visit.zero).drop ((x_16.getD x_15.toNat []).getD
  x_14.toNat FK.visit.zero).arrive ((x_16.getD x_15.toNat []).getD x_14.toNat FK.visit.zero).start (wrap (((x_16.getD x_15.toNat []).getD x_14.toNat FK.visit.zero).leave + x_4)) ((x_16.getD x_15.toNat []).getD x_14.toNat
  FK.visit.zero).load))) ∧ inv (-1 : Int) (wrap (x_15 + (1 : Int))) (x_16.set x_15.toNat ((x_16.getD x_15.toNat []).set x_14.toNat (Visit.mk ((x_16.getD x_15.toNat []).getD x_14.toNat FK.visit.zero).order ((x_16.getD x_15.toNat []).getD
  x_14.toNat FK.visit.zero).drop ((x_16.getD x_15.toNat []).getD x_14.toNat FK.visit.zero).arrive ((x_16.getD x_15.toNat []).getD x_14.toNat FK.visit.zero).start (wrap (((x_16.getD x_15.toNat []).getD x_14.toNat FK.visit.zero).leave + x_4))
  ((x_16.getD x_15.toNat []).getD x_14.toNat FK.visit.zero).load))) ∧ μ (-1 : Int) (wrap (x_15 + (1 : Int))) (x_16.set x_15.toNat ((x_16.getD x_15.toNat []).set x_14.toNat (Visit.mk ((x_16.getD x_15.toNat []).getD x_14.toNat
  FK.visit.zero).order ((x_16.getD x_15.toNat []).getD x_14.toNat FK.visit.zero).drop ((x_16.getD x_15.toNat []).getD x_14.toNat FK.visit.zero).arrive ((x_16.getD x_15.toNat []).getD x_14.toNat FK.visit.zero).start (wrap (((x_16.getD
  x_15.toNat []).getD x_14.toNat FK.visit.zero).leave + x_4)) ((x_16.getD x_15.toNat []).getD x_14.toNat FK.visit.zero).load))) < μ x_14 x_15 x_16) ∧ (decide (bwithin x_3 (0 : Int) (5 : Int) = (2 : Int)) = false → (decide (bwithin x_3 (0 :
  Int) (5 : Int) = (3 : Int)) = true → x_14.toNat < (x_16.getD x_15.toNat []).length ∧ x_14.toNat < (x_16.getD x_15.toNat []).length ∧ ((x_3 = x_3 ∧ x_4 = x_4 ∧ (-1 : Int) = (-1 : Int) ∧ wrap (x_15 + (1 : Int)) = wrap (x_15 + (1 : Int))) ∧
  x.n = x.n ∧ x.plan = x.plan ∧ x.orders = x.orders ∧ x.drivers = x.drivers ∧ x.times = x.times ∧ x_16.set x_15.toNat ((x_16.getD x_15.toNat []).set x_14.toNat (Visit.mk ((x_16.getD x_15.toNat []).getD x_14.toNat FK.visit.zero).order
  ((x_16.getD x_15.toNat []).getD x_14.toNat FK.visit.zero).drop ((x_16.getD x_15.toNat []).getD x_14.toNat FK.visit.zero).arrive ((x_16.getD x_15.toNat []).getD x_14.toNat FK.visit.zero).start ((x_16.getD x_15.toNat []).getD x_14.toNat
  FK.visit.zero).leave (wrap (((x_16.getD x_15.toNat []).getD x_14.toNat FK.visit.zero).load + x_4)))) = x_16.set x_15.toNat ((x_16.getD x_15.toNat []).set x_14.toNat (Visit.mk ((x_16.getD x_15.toNat []).getD x_14.toNat FK.visit.zero).order
  ((x_16.getD x_15.toNat []).getD x_14.toNat FK.visit.zero).drop ((x_16.getD x_15.toNat []).getD x_14.toNat FK.visit.zero).arrive ((x_16.getD x_15.toNat []).getD x_14.toNat FK.visit.zero).start ((x_16.getD x_15.toNat []).getD x_14.toNat
  FK.visit.zero).leave (wrap (((x_16.getD x_15.toNat []).getD x_14.toNat FK.visit.zero).load + x_4))))) ∧ inv (-1 : Int) (wrap (x_15 + (1 : Int))) (x_16.set x_15.toNat ((x_16.getD x_15.toNat []).set x_14.toNat (Visit.mk ((x_16.getD x_15.toNat
  []).getD x_14.toNat FK.visit.zero).order ((x_16.getD x_15.toNat []).getD x_14.toNat FK.visit.zero).drop ((x_16.getD x_15.toNat []).getD x_14.toNat FK.visit.zero).arrive ((x_16.getD x_15.toNat []).getD x_14.toNat FK.visit.zero).start
  ((x_16.getD x_15.toNat []).getD x_14.toNat FK.visit.zero).leave (wrap (((x_16.getD x_15.toNat []).getD x_14.toNat FK.visit.zero).load + x_4))))) ∧ μ (-1 : Int) (wrap (x_15 + (1 : Int))) (x_16.set x_15.toNat ((x_16.getD x_15.toNat []).set
  x_14.toNat (Visit.mk ((x_16.getD x_15.toNat []).getD x_14.toNat FK.visit.zero).order ((x_16.getD x_15.toNat []).getD x_14.toNat FK.visit.zero).drop ((x_16.getD x_15.toNat []).getD x_14.toNat FK.visit.zero).arrive ((x_16.getD x_15.toNat
  []).getD x_14.toNat FK.visit.zero).start ((x_16.getD x_15.toNat []).getD x_14.toNat FK.visit.zero).leave (wrap (((x_16.getD x_15.toNat []).getD x_14.toNat FK.visit.zero).load + x_4))))) < μ x_14 x_15 x_16) ∧ (decide (bwithin x_3 (0 : Int)
  (5 : Int) = (3 : Int)) = false → (decide (bwithin x_3 (0 : Int) (5 : Int) = (4 : Int)) = true → x_14.toNat < (x_16.getD x_15.toNat []).length ∧ x_14.toNat < (x_16.getD x_15.toNat []).length ∧ ((x_3 = x_3 ∧ x_4 = x_4 ∧ (-1 : Int) = (-1 :
  Int) ∧ wrap (x_15 + (1 : Int)) = wrap (x_15 + (1 : Int))) ∧ x.n = x.n ∧ x.plan = x.plan ∧ x.orders = x.orders ∧ x.drivers = x.drivers ∧ x.times = x.times ∧ x_16.set x_15.toNat ((x_16.getD x_15.toNat []).set x_14.toNat (Visit.mk (wrap
  (((x_16.getD x_15.toNat []).getD x_14.toNat FK.visit.zero).order + x_4)) ((x_16.getD x_15.toNat []).getD x_14.toNat FK.visit.zero).drop ((x_16.getD x_15.toNat []).getD x_14.toNat FK.visit.zero).arrive ((x_16.getD x_15.toNat []).getD
  x_14.toNat FK.visit.zero).start ((x_16.getD x_15.toNat []).getD x_14.toNat FK.visit.zero).leave ((x_16.getD x_15.toNat []).getD x_14.toNat FK.visit.zero).load)) = x_16.set x_15.toNat ((x_16.getD x_15.toNat []).set x_14.toNat (Visit.mk (wrap
  (((x_16.getD x_15.toNat []).getD x_14.toNat FK.visit.zero).order + x_4)) ((x_16.getD x_15.toNat []).getD x_14.toNat FK.visit.zero).drop ((x_16.getD x_15.toNat []).getD x_14.toNat FK.visit.zero).arrive ((x_16.getD x_15.toNat []).getD
  x_14.toNat FK.visit.zero).start ((x_16.getD x_15.toNat []).getD x_14.toNat FK.visit.zero).leave ((x_16.getD x_15.toNat []).getD x_14.toNat FK.visit.zero).load))) ∧ inv (-1 : Int) (wrap (x_15 + (1 : Int))) (x_16.set x_15.toNat ((x_16.getD
  x_15.toNat []).set x_14.toNat (Visit.mk (wrap (((x_16.getD x_15.toNat []).getD x_14.toNat FK.visit.zero).order + x_4)) ((x_16.getD x_15.toNat []).getD x_14.toNat FK.visit.zero).drop ((x_16.getD x_15.toNat []).getD x_14.toNat
  FK.visit.zero).arrive ((x_16.getD x_15.toNat []).getD x_14.toNat FK.visit.zero).start ((x_16.getD x_15.toNat []).getD x_14.toNat FK.visit.zero).leave ((x_16.getD x_15.toNat []).getD x_14.toNat FK.visit.zero).load))) ∧ μ (-1 : Int) (wrap
  (x_15 + (1 : Int))) (x_16.set x_15.toNat ((x_16.getD x_15.toNat []).set x_14.toNat (Visit.mk (wrap (((x_16.getD x_15.toNat []).getD x_14.toNat FK.visit.zero).order + x_4)) ((x_16.getD x_15.toNat []).getD x_14.toNat FK.visit.zero).drop
  ((x_16.getD x_15.toNat []).getD x_14.toNat FK.visit.zero).arrive ((x_16.getD x_15.toNat []).getD x_14.toNat FK.visit.zero).start ((x_16.getD x_15.toNat []).getD x_14.toNat FK.visit.zero).leave ((x_16.getD x_15.toNat []).getD x_14.toNat
  FK.visit.zero).load))) < μ x_14 x_15 x_16) ∧ (decide (bwithin x_3 (0 : Int) (5 : Int) = (4 : Int)) = false → (decide (bwithin x_3 (0 : Int) (5 : Int) = (5 : Int)) = true → x_14.toNat < (x_16.getD x_15.toNat []).length ∧ (2 : Int) ≠ (0 :
  Int) ∧ x_14.toNat < (x_16.getD x_15.toNat []).length ∧ ((x_3 = x_3 ∧ x_4 = x_4 ∧ (-1 : Int) = (-1 : Int) ∧ wrap (x_15 + (1 : Int)) = wrap (x_15 + (1 : Int))) ∧ x.n = x.n ∧ x.plan = x.plan ∧ x.orders = x.orders ∧ x.drivers = x.drivers ∧
  x.times = x.times ∧ x_16.set x_15.toNat ((x_16.getD x_15.toNat []).set x_14.toNat (Visit.mk ((x_16.getD x_15.toNat []).getD x_14.toNat FK.visit.zero).order (!((x_16.getD x_15.toNat []).getD x_14.toNat FK.visit.zero).drop == !decide
  (x_4.tmod (2 : Int) = (0 : Int))) ((x_16.getD x_15.toNat []).getD x_14.toNat FK.visit.zero).arrive ((x_16.getD x_15.toNat []).getD x_14.toNat FK.visit.zero).start ((x_16.getD x_15.toNat []).getD x_14.toNat FK.visit.zero).leave ((x_16.getD
  x_15.toNat []).getD x_14.toNat FK.visit.zero).load)) = x_16.set x_15.toNat ((x_16.getD x_15.toNat []).set x_14.toNat (Visit.mk ((x_16.getD x_15.toNat []).getD x_14.toNat FK.visit.zero).order (!((x_16.getD x_15.toNat []).getD x_14.toNat
  FK.visit.zero).drop == !decide (x_4.tmod (2 : Int) = (0 : Int))) ((x_16.getD x_15.toNat []).getD x_14.toNat FK.visit.zero).arrive ((x_16.getD x_15.toNat []).getD x_14.toNat FK.visit.zero).start ((x_16.getD x_15.toNat []).getD x_14.toNat
  FK.visit.zero).leave ((x_16.getD x_15.toNat []).getD x_14.toNat FK.visit.zero).load))) ∧ inv (-1 : Int) (wrap (x_15 + (1 : Int))) (x_16.set x_15.toNat ((x_16.getD x_15.toNat []).set x_14.toNat (Visit.mk ((x_16.getD x_15.toNat []).getD
  x_14.toNat FK.visit.zero).order (!((x_16.getD x_15.toNat []).getD x_14.toNat FK.visit.zero).drop == !decide (x_4.tmod (2 : Int) = (0 : Int))) ((x_16.getD x_15.toNat []).getD x_14.toNat FK.visit.zero).arrive ((x_16.getD x_15.toNat []).getD
  x_14.toNat FK.visit.zero).start ((x_16.getD x_15.toNat []).getD x_14.toNat FK.visit.zero).leave ((x_16.getD x_15.toNat []).getD x_14.toNat FK.visit.zero).load))) ∧ μ (-1 : Int) (wrap (x_15 + (1 : Int))) (x_16.set x_15.toNat ((x_16.getD
  x_15.toNat []).set x_14.toNat (Visit.mk ((x_16.getD x_15.toNat []).getD x_14.toNat FK.visit.zero).order (!((x_16.getD x_15.toNat []).getD x_14.toNat FK.visit.zero).drop == !decide (x_4.tmod (2 : Int) = (0 : Int))) ((x_16.getD x_15.toNat
  []).getD x_14.toNat FK.visit.zero).arrive ((x_16.getD x_15.toNat []).getD x_14.toNat FK.visit.zero).start ((x_16.getD x_15.toNat []).getD x_14.toNat FK.visit.zero).leave ((x_16.getD x_15.toNat []).getD x_14.toNat FK.visit.zero).load))) < μ
  x_14 x_15 x_16) ∧ (decide (bwithin x_3 (0 : Int) (5 : Int) = (5 : Int)) = false → ((x_3 = x_3 ∧ x_4 = x_4 ∧ (-1 : Int) = (-1 : Int) ∧ wrap (x_15 + (1 : Int)) = wrap (x_15 + (1 : Int))) ∧ x.n = x.n ∧ x.plan = x.plan ∧ x.orders = x.orders ∧
  x.drivers = x.drivers ∧ x.times = x.times ∧ x_16.set x_15.toNat (x_16.getD x_15.toNat []) = x_16.set x_15.toNat (x_16.getD x_15.toNat [])) ∧ inv (-1 : Int) (wrap (x_15 + (1 : Int))) (x_16.set x_15.toNat (x_16.getD x_15.toNat [])) ∧ μ (-1 :
  Int) (wrap (x_15 + (1 : Int))) (x_16.set x_15.toNat (x_16.getD x_15.toNat [])) < μ x_14 x_15 x_16)))))))) ∧ (decide (x_14 < (0 : Int)) = !false → ((0 : Int) ≤ x_15 ∧ x_15 < (↑x_16.length : Int)) ∧ x_15.toNat = x_15.toNat ∧ ((x_3 = x_3 ∧ x_4
  = x_4 ∧ wrap (x_14 - (↑(x_16.getD x_15.toNat []).length : Int)) = wrap (x_14 - (↑(x_16.getD x_15.toNat []).length : Int)) ∧ wrap (x_15 + (1 : Int)) = wrap (x_15 + (1 : Int))) ∧ x.n = x.n ∧ x.plan = x.plan ∧ x.orders = x.orders ∧ x.drivers =
  x.drivers ∧ x.times = x.times ∧ x_16.set x_15.toNat (x_16.getD x_15.toNat []) = x_16.set x_15.toNat (x_16.getD x_15.toNat [])) ∧ inv (wrap (x_14 - (↑(x_16.getD x_15.toNat []).length : Int))) (wrap (x_15 + (1 : Int))) (x_16.set x_15.toNat
  (x_16.getD x_15.toNat [])) ∧ μ (wrap (x_14 - (↑(x_16.getD x_15.toNat []).length : Int))) (wrap (x_15 + (1 : Int))) (x_16.set x_15.toNat (x_16.getD x_15.toNat [])) < μ x_14 x_15 x_16)) ∧ (decide (x_15 < (↑x_16.length : Int)) = false → (∀ (x
  : MapD), none = some x → MapOk x) ∧ (∀ (x : MapD), none = some x → MapOk x) ∧ ((decide ((checkP none x.drivers x.orders x.plan x_16).spot = (checkP none x.drivers x.orders x.plan x_16).spot) && (decide ((checkP none x.drivers x.orders
  x.plan x_16).why = (checkP none x.drivers x.orders x.plan x_16).why) && true)) = true → true = true) ∧ ((decide ((checkP none x.drivers x.orders x.plan x_16).spot = (checkP none x.drivers x.orders x.plan x_16).spot) && (decide ((checkP none
  x.drivers x.orders x.plan x_16).why = (checkP none x.drivers x.orders x.plan x_16).why) && true)) = !true → false = true)))) ∧ ((!decide ((cfauR (makeP none x.drivers x.orders x.plan)).why = (0 : Int))) = !false → (∀ (x : MapD), none = some
  x → MapOk x) ∧ (∀ (x : MapD), none = some x → MapOk x) ∧ ((decide ((checkP none x.drivers x.orders x.plan (certR (makeP none x.drivers x.orders x.plan))).spot = (checkP none x.drivers x.orders x.plan (certR (makeP none x.drivers x.orders
  x.plan))).spot) && (decide ((checkP none x.drivers x.orders x.plan (certR (makeP none x.drivers x.orders x.plan))).why = (checkP none x.drivers x.orders x.plan (certR (makeP none x.drivers x.orders x.plan))).why) && true)) = true → true =
  true) ∧ ((decide ((checkP none x.drivers x.orders x.plan (certR (makeP none x.drivers x.orders x.plan))).spot = (checkP none x.drivers x.orders x.plan (certR (makeP none x.drivers x.orders x.plan))).spot) && (decide ((checkP none x.drivers
  x.orders x.plan (certR (makeP none x.drivers x.orders x.plan))).why = (checkP none x.drivers x.orders x.plan (certR (makeP none x.drivers x.orders x.plan))).why) && true)) = !true → false = true))))) ∧ (newE x.n x.times = (0 : Int) →
  ((!true) = true → false = true) ∧ ((!true) = false → (∀ (x_8 : MapD), some (MapD.mk x.n x.times) = some x_8 → MapOk x_8) ∧ ∃ (inv : Int → Int → Prop), ∃ (μ : Int → Int → Nat), (((x_2 = x_2 ∧ x_3 = x_3 ∧ x_4 = x_4 ∧ (0 : Int) = (0 : Int) ∧
  (0 : Int) = (0 : Int)) ∧ (x.n = x.n ∧ x.n = x.n ∧ x.n = x.n ∧ (cfauR (makeP (some (MapD.mk x.n x.times)) x.drivers x.orders x.plan)).spot = (cfauR (makeP (some (MapD.mk x.n x.times)) x.drivers x.orders x.plan)).spot ∧ (cfauR (makeP (some
  (MapD.mk x.n x.times)) x.drivers x.orders x.plan)).why = (cfauR (makeP (some (MapD.mk x.n x.times)) x.drivers x.orders x.plan)).why) ∧ x.times = x.times ∧ x.times = x.times ∧ x.plan = x.plan ∧ x.orders = x.orders ∧ x.drivers = x.drivers ∧
  x.times = x.times ∧ certR (makeP (some (MapD.mk x.n x.times)) x.drivers x.orders x.plan) = certR (makeP (some (MapD.mk x.n x.times)) x.drivers x.orders x.plan)) ∧ inv (0 : Int) (0 : Int)) ∧ ∀ (x_8 x_9 : Int), inv x_8 x_9 → (decide (x_9 <
  (↑(certR (makeP (some (MapD.mk x.n x.times)) x.drivers x.orders x.plan)).length : Int)) = true → ((0 : Int) ≤ x_9 ∧ x_9 < (↑(certR (makeP (some (MapD.mk x.n x.times)) x.drivers x.orders x.plan)).length : Int)) ∧ ∀ (e' : Nat), ((0 : Int) ≤
  x_9 ∧ x_9 < (↑(certR (makeP (some (MapD.mk x.n x.times)) x.drivers x.orders x.plan)).length : Int)) ∧ x_9.toNat = x_9.toNat ∧ ((x_2 = x_2 ∧ x_3 = x_3 ∧ x_4 = x_4 ∧ wrap (x_8 + (↑((certR (makeP (some (MapD.mk x.n x.times)) x.drivers x.orders
  x.plan)).getD x_9.toNat []).length : Int)) = wrap (x_8 + (↑((certR (makeP (some (MapD.mk x.n x.times)) x.drivers x.orders x.plan)).getD x_9.toNat []).length : Int)) ∧ wrap (x_9 + (1 : Int)) = wrap (x_9 + (1 : Int))) ∧ (x.n = x.n ∧ x.n = x.n
  ∧ x.n = x.n ∧ (cfauR (makeP (some (MapD.mk x.n x.times)) x.drivers x.orders x.plan)).spot = (cfauR (makeP (some (MapD.mk x.n x.times)) x.drivers x.orders x.plan)).spot ∧ (cfauR (makeP (some (MapD.mk x.n x.times)) x.drivers x.orders
  x.plan)).why = (cfauR (makeP (some (MapD.mk x.n x.times)) x.drivers x.orders x.plan)).why) ∧ x.times = x.times ∧ x.times = x.times ∧ x.plan = x.plan ∧ x.orders = x.orders ∧ x.drivers = x.drivers ∧ x.times = x.times ∧ (certR (makeP (some
  (MapD.mk x.n x.times)) x.drivers x.orders x.plan)).set x_9.toNat ((certR (makeP (some (MapD.mk x.n x.times)) x.drivers x.orders x.plan)).getD x_9.toNat []) = certR (makeP (some (MapD.mk x.n x.times)) x.drivers x.orders x.plan)) ∧ inv (wrap
  (x_8 + (↑((certR (makeP (some (MapD.mk x.n x.times)) x.drivers x.orders x.plan)).getD x_9.toNat []).length : Int))) (wrap (x_9 + (1 : Int))) ∧ μ (wrap (x_8 + (↑((certR (makeP (some (MapD.mk x.n x.times)) x.drivers x.orders x.plan)).getD
  x_9.toNat []).length : Int))) (wrap (x_9 + (1 : Int))) < μ x_8 x_9) ∧ (decide (x_9 < (↑(certR (makeP (some (MapD.mk x.n x.times)) x.drivers x.orders x.plan)).length : Int)) = false → ((!decide ((cfauR (makeP (some (MapD.mk x.n x.times))
  x.drivers x.orders x.plan)).why = (0 : Int))) = false → (decide (x_8 = (0 : Int)) = true → (∀ (x_14 : MapD), some (MapD.mk x.n x.times) = some x_14 → MapOk x_14) ∧ (∀ (x_14 : MapD), some (MapD.mk x.n x.times) = some x_14 → MapOk x_14) ∧
  ((decide ((checkP (some (MapD.mk x.n x.times)) x.drivers x.orders x.plan (certR (makeP (some (MapD.mk x.n x.times)) x.drivers x.orders x.plan))).spot = (checkP (some (MapD.mk x.n x.times)) x.drivers x.orders x.plan (certR (makeP (some
  (MapD.mk x.n x.times)) x.drivers x.orders x.plan))).spot) && (decide ((checkP (some (MapD.mk x.n x.times)) x.drivers x.orders x.plan (certR (makeP (some (MapD.mk x.n x.times)) x.drivers x.orders x.plan))).why = (checkP (some (MapD.mk x.n
  x.times)) x.drivers x.orders x.plan (certR (makeP (some (MapD.mk x.n x.times)) x.drivers x.orders x.plan))).why) && true)) = true → true = true) ∧ ((decide ((checkP (some (MapD.mk x.n x.times)) x.drivers x.orders x.plan (certR (makeP (some
  (MapD.mk x.n x.times)) x.drivers x.orders x.plan))).spot = (checkP (some (MapD.mk x.n x.times)) x.drivers x.orders x.plan (certR (makeP (some (MapD.mk x.n x.times)) x.drivers x.orders x.plan))).spot) && (decide ((checkP (some (MapD.mk x.n
  x.times)) x.drivers x.orders x.plan (certR (makeP (some (MapD.mk x.n x.times)) x.drivers x.orders x.plan))).why = (checkP (some (MapD.mk x.n x.times)) x.drivers x.orders x.plan (certR (makeP (some (MapD.mk x.n x.times)) x.drivers x.orders
  x.plan))).why) && true)) = !true → false = true)) ∧ (decide (x_8 = (0 : Int)) = false → ((0 : Int) ≤ wrap (x_8 - (1 : Int)) ∧ (0 : Int) ≤ (0 : Int) ∧ wrap (x_8 - (1 : Int)) ≤ (9223372036854775806 : Int)) ∧ ∃ (inv : Int → Int → List (List
  Visit) → Prop), ∃ (μ : Int → Int → List (List Visit) → Nat), (((x_3 = x_3 ∧ x_4 = x_4 ∧ bwithin x_2 (0 : Int) (wrap (x_8 - (1 : Int))) = bwithin x_2 (0 : Int) (wrap (x_8 - (1 : Int))) ∧ (0 : Int) = (0 : Int)) ∧ (x.n = x.n ∧ x.n = x.n ∧ x.n
  = x.n) ∧ x.times = x.times ∧ x.times = x.times ∧ x.plan = x.plan ∧ x.orders = x.orders ∧ x.drivers = x.drivers ∧ x.times = x.times ∧ certR (makeP (some (MapD.mk x.n x.times)) x.drivers x.orders x.plan) = certR (makeP (some (MapD.mk x.n
  x.times)) x.drivers x.orders x.plan)) ∧ inv (bwithin x_2 (0 : Int) (wrap (x_8 - (1 : Int)))) (0 : Int) (certR (makeP (some (MapD.mk x.n x.times)) x.drivers x.orders x.plan))) ∧ ∀ (x_14 x_15 : Int) (x_16 : List (List Visit)), inv x_14 x_15
  x_16 → (decide (x_15 < (↑x_16.length : Int)) = true → ((0 : Int) ≤ x_15 ∧ x_15 < (↑x_16.length : Int)) ∧ ∀ (e' : Nat), (decide (x_14 < (0 : Int)) = false → ((0 : Int) ≤ x_15 ∧ x_15 < (↑x_16.length : Int)) ∧ x_15.toNat = x_15.toNat ∧ (decide
  (x_14 ≥ (↑(x_16.getD x_15.toNat []).length : Int)) = true → ((0 : Int) ≤ x_15 ∧ x_15 < (↑x_16.length : Int)) ∧ x_15.toNat = x_15.toNat ∧ ((x_3 = x_3 ∧ x_4 = x_4 ∧ wrap (x_14 - (↑(x_16.getD x_15.toNat []).length : Int)) = wrap (x_14 -
  (↑(x_16.getD x_15.toNat []).length : Int)) ∧ wrap (x_15 + (1 : Int)) = wrap (x_15 + (1 : Int))) ∧ (x.n = x.n ∧ x.n = x.n ∧ x.n = x.n) ∧ x.times = x.times ∧ x.times = x.times ∧ x.plan = x.plan ∧ x.orders = x.orders ∧ x.drivers = x.drivers ∧
  x.times = x.times ∧ x_16.set x_15.toNat (x_16.getD x_15.toNat []) = x_16.set x_15.toNat (x_16.getD x_15.toNat [])) ∧ inv (wrap (x_14 - (↑(x_16.getD x_15.toNat []).length : Int))) (wrap (x_15 + (1 : Int))) (x_16.set x_15.toNat (x_16.getD
  x_15.toNat [])) ∧ μ (wrap (x_14 - (↑(x_16.getD x_15.toNat []).length : Int))) (wrap (x_15 + (1 : Int))) (x_16.set x_15.toNat (x_16.getD x_15.toNat [])) < μ x_14 x_15 x_16) ∧ (decide (x_14 ≥ (↑(x_16.getD x_15.toNat []).length : Int)) = false
  → ((0 : Int) ≤ x_15 ∧ x_15 < (↑x_16.length : Int)) ∧ x_15.toNat = x_15.toNat ∧ ((0 : Int) ≤ x_14 ∧ x_14 < (↑(x_16.getD x_15.toNat []).length : Int)) ∧ ((0 : Int) ≤ (5 : Int) ∧ (0 : Int) ≤ (0 : Int) ∧ (5 : Int) ≤ (9223372036854775806 : Int))
  ∧ (decide (bwithin x_3 (0 : Int) (5 : Int) = (0 : Int)) = true → x_14.toNat < (x_16.getD x_15.toNat []).length ∧ x_14.toNat < (x_16.getD x_15.toNat []).length ∧ ((x_3 = x_3 ∧ x_4 = x_4 ∧ (-1 : Int) = (-1 : Int) ∧ wrap (x_15 + (1 : Int)) =
  wrap (x_15 + (1 : Int))) ∧ (x.n = x.n ∧ x.n = x.n ∧ x.n = x.n) ∧ x.times = x.times ∧ x.times = x.times ∧ x.plan = x.plan ∧ x.orders = x.orders ∧ x.drivers = x.drivers ∧ x.times = x.times ∧ x_16.set x_15.toNat ((x_16.getD x_15.toNat []).set
  x_14.toNat (Visit.mk ((x_16.getD x_15.toNat []).getD x_14.toNat FK.visit.zero).order ((x_16.getD x_15.toNat []).getD x_14.toNat FK.visit.zero).drop (wrap (((x_16.getD x_15.toNat []).getD x_14.toNat FK.visit.zero).arrive + x_4)) ((x_16.getD
  x_15.toNat []).getD x_14.toNat FK.visit.zero).start ((x_16.getD x_15.toNat []).getD x_14.toNat FK.visit.zero).leave ((x_16.getD x_15.toNat []).getD x_14.toNat FK.visit.zero).load)) = x_16.set x_15.toNat ((x_16.getD x_15.toNat []).set
  x_14.toNat (Visit.mk ((x_16.getD x_15.toNat []).getD x_14.toNat FK.visit.zero).order ((x_16.getD x_15.toNat []).getD x_14.toNat FK.visit.zero).drop (wrap (((x_16.getD x_15.toNat []).getD x_14.toNat FK.visit.zero).arrive + x_4)) ((x_16.getD
  x_15.toNat []).getD x_14.toNat FK.visit.zero).start ((x_16.getD x_15.toNat []).getD x_14.toNat FK.visit.zero).leave ((x_16.getD x_15.toNat []).getD x_14.toNat FK.visit.zero).load))) ∧ inv (-1 : Int) (wrap (x_15 + (1 : Int))) (x_16.set
  x_15.toNat ((x_16.getD x_15.toNat []).set x_14.toNat (Visit.mk ((x_16.getD x_15.toNat []).getD x_14.toNat FK.visit.zero).order ((x_16.getD x_15.toNat []).getD x_14.toNat FK.visit.zero).drop (wrap (((x_16.getD x_15.toNat []).getD x_14.toNat
  FK.visit.zero).arrive + x_4)) ((x_16.getD x_15.toNat []).getD x_14.toNat FK.visit.zero).start ((x_16.getD x_15.toNat []).getD x_14.toNat FK.visit.zero).leave ((x_16.getD x_15.toNat []).getD x_14.toNat FK.visit.zero).load))) ∧ μ (-1 : Int)
  (wrap (x_15 + (1 : Int))) (x_16.set x_15.toNat ((x_16.getD x_15.toNat []).set x_14.toNat (Visit.mk ((x_16.getD x_15.toNat []).getD x_14.toNat FK.visit.zero).order ((x_16.getD x_15.toNat []).getD x_14.toNat FK.visit.zero).drop (wrap
  (((x_16.getD x_15.toNat []).getD x_14.toNat FK.visit.zero).arrive + x_4)) ((x_16.getD x_15.toNat []).getD x_14.toNat FK.visit.zero).start ((x_16.getD x_15.toNat []).getD x_14.toNat FK.visit.zero).leave ((x_16.getD x_15.toNat []).getD
  x_14.toNat FK.visit.zero).load))) < μ x_14 x_15 x_16) ∧ (decide (bwithin x_3 (0 : Int) (5 : Int) = (0 : Int)) = false → (decide (bwithin x_3 (0 : Int) (5 : Int) = (1 : Int)) = true → x_14.toNat < (x_16.getD x_15.toNat []).length ∧
  x_14.toNat < (x_16.getD x_15.toNat []).length ∧ ((x_3 = x_3 ∧ x_4 = x_4 ∧ (-1 : Int) = (-1 : Int) ∧ wrap (x_15 + (1 : Int)) = wrap (x_15 + (1 : Int))) ∧ (x.n = x.n ∧ x.n = x.n ∧ x.n = x.n) ∧ x.times = x.times ∧ x.times = x.times ∧ x.plan =
  x.plan ∧ x.orders = x.orders ∧ x.drivers = x.drivers ∧ x.times = x.times ∧ x_16.set x_15.toNat ((x_16.getD x_15.toNat []).set x_14.toNat (Visit.mk ((x_16.getD x_15.toNat []).getD x_14.toNat FK.visit.zero).order ((x_16.getD x_15.toNat
  []).getD x_14.toNat FK.visit.zero).drop ((x_16.getD x_15.toNat []).getD x_14.toNat FK.visit.zero).arrive (wrap (((x_16.getD x_15.toNat []).getD x_14.toNat FK.visit.zero).start + x_4)) ((x_16.getD x_15.toNat []).getD x_14.toNat
  FK.visit.zero).leave ((x_16.getD x_15.toNat []).getD x_14.toNat FK.visit.zero).load)) = x_16.set x_15.toNat ((x_16.getD x_15.toNat []).set x_14.toNat (Visit.mk ((x_16.getD x_15.toNat []).getD x_14.toNat FK.visit.zero).order ((x_16.getD
  x_15.toNat []).getD x_14.toNat FK.visit.zero).drop ((x_16.getD x_15.toNat []).getD x_14.toNat FK.visit.zero).arrive (wrap (((x_16.getD x_15.toNat []).getD x_14.toNat FK.visit.zero).start + x_4)) ((x_16.getD x_15.toNat []).getD x_14.toNat
  FK.visit.zero).leave ((x_16.getD x_15.toNat []).getD x_14.toNat FK.visit.zero).load))) ∧ inv (-1 : Int) (wrap (x_15 + (1 : Int))) (x_16.set x_15.toNat ((x_16.getD x_15.toNat []).set x_14.toNat (Visit.mk ((x_16.getD x_15.toNat []).getD
  x_14.toNat FK.visit.zero).order ((x_16.getD x_15.toNat []).getD x_14.toNat FK.visit.zero).drop ((x_16.getD x_15.toNat []).getD x_14.toNat FK.visit.zero).arrive (wrap (((x_16.getD x_15.toNat []).getD x_14.toNat FK.visit.zero).start + x_4))
  ((x_16.getD x_15.toNat []).getD x_14.toNat FK.visit.zero).leave ((x_16.getD x_15.toNat []).getD x_14.toNat FK.visit.zero).load))) ∧ μ (-1 : Int) (wrap (x_15 + (1 : Int))) (x_16.set x_15.toNat ((x_16.getD x_15.toNat []).set x_14.toNat
  (Visit.mk ((x_16.getD x_15.toNat []).getD x_14.toNat FK.visit.zero).order ((x_16.getD x_15.toNat []).getD x_14.toNat FK.visit.zero).drop ((x_16.getD x_15.toNat []).getD x_14.toNat FK.visit.zero).arrive (wrap (((x_16.getD x_15.toNat []).getD
  x_14.toNat FK.visit.zero).start + x_4)) ((x_16.getD x_15.toNat []).getD x_14.toNat FK.visit.zero).leave ((x_16.getD x_15.toNat []).getD x_14.toNat FK.visit.zero).load))) < μ x_14 x_15 x_16) ∧ (decide (bwithin x_3 (0 : Int) (5 : Int) = (1 :
  Int)) = false → (decide (bwithin x_3 (0 : Int) (5 : Int) = (2 : Int)) = true → x_14.toNat < (x_16.getD x_15.toNat []).length ∧ x_14.toNat < (x_16.getD x_15.toNat []).length ∧ ((x_3 = x_3 ∧ x_4 = x_4 ∧ (-1 : Int) = (-1 : Int) ∧ wrap (x_15 +
  (1 : Int)) = wrap (x_15 + (1 : Int))) ∧ (x.n = x.n ∧ x.n = x.n ∧ x.n = x.n) ∧ x.times = x.times ∧ x.times = x.times ∧ x.plan = x.plan ∧ x.orders = x.orders ∧ x.drivers = x.drivers ∧ x.times = x.times ∧ x_16.set x_15.toNat ((x_16.getD
  x_15.toNat []).set x_14.toNat (Visit.mk ((x_16.getD x_15.toNat []).getD x_14.toNat FK.visit.zero).order ((x_16.getD x_15.toNat []).getD x_14.toNat FK.visit.zero).drop ((x_16.getD x_15.toNat []).getD x_14.toNat FK.visit.zero).arrive
  ((x_16.getD x_15.toNat []).getD x_14.toNat FK.visit.zero).start (wrap (((x_16.getD x_15.toNat []).getD x_14.toNat FK.visit.zero).leave + x_4)) ((x_16.getD x_15.toNat []).getD x_14.toNat FK.visit.zero).load)) = x_16.set x_15.toNat
  ((x_16.getD x_15.toNat []).set x_14.toNat (Visit.mk ((x_16.getD x_15.toNat []).getD x_14.toNat FK.visit.zero).order ((x_16.getD x_15.toNat []).getD x_14.toNat FK.visit.zero).drop ((x_16.getD x_15.toNat []).getD x_14.toNat
  FK.visit.zero).arrive ((x_16.getD x_15.toNat []).getD x_14.toNat FK.visit.zero).start (wrap (((x_16.getD x_15.toNat []).getD x_14.toNat FK.visit.zero).leave + x_4)) ((x_16.getD x_15.toNat []).getD x_14.toNat FK.visit.zero).load))) ∧ inv (-1
  : Int) (wrap (x_15 + (1 : Int))) (x_16.set x_15.toNat ((x_16.getD x_15.toNat []).set x_14.toNat (Visit.mk ((x_16.getD x_15.toNat []).getD x_14.toNat FK.visit.zero).order ((x_16.getD x_15.toNat []).getD x_14.toNat FK.visit.zero).drop
  ((x_16.getD x_15.toNat []).getD x_14.toNat FK.visit.zero).arrive ((x_16.getD x_15.toNat []).getD x_14.toNat FK.visit.zero).start (wrap (((x_16.getD x_15.toNat []).getD x_14.toNat FK.visit.zero).leave + x_4)) ((x_16.getD x_15.toNat []).getD
  x_14.toNat FK.visit.zero).load))) ∧ μ (-1 : Int) (wrap (x_15 + (1 : Int))) (x_16.set x_15.toNat ((x_16.getD x_15.toNat []).set x_14.toNat (Visit.mk ((x_16.getD x_15.toNat []).getD x_14.toNat FK.visit.zero).order ((x_16.getD x_15.toNat
  []).getD x_14.toNat FK.visit.zero).drop ((x_16.getD x_15.toNat []).getD x_14.toNat FK.visit.zero).arrive ((x_16.getD x_15.toNat []).getD x_14.toNat FK.visit.zero).start (wrap (((x_16.getD x_15.toNat []).getD x_14.toNat FK.visit.zero).leave
  + x_4)) ((x_16.getD x_15.toNat []).getD x_14.toNat FK.visit.zero).load))) < μ x_14 x_15 x_16) ∧ (decide (bwithin x_3 (0 : Int) (5 : Int) = (2 : Int)) = false → (decide (bwithin x_3 (0 : Int) (5 : Int) = (3 : Int)) = true → x_14.toNat <
  (x_16.getD x_15.toNat []).length ∧ x_14.toNat < (x_16.getD x_15.toNat []).length ∧ ((x_3 = x_3 ∧ x_4 = x_4 ∧ (-1 : Int) = (-1 : Int) ∧ wrap (x_15 + (1 : Int)) = wrap (x_15 + (1 : Int))) ∧ (x.n = x.n ∧ x.n = x.n ∧ x.n = x.n) ∧ x.times =
  x.times ∧ x.times = x.times ∧ x.plan = x.plan ∧ x.orders = x.orders ∧ x.drivers = x.drivers ∧ x.times = x.times ∧ x_16.set x_15.toNat ((x_16.getD x_15.toNat []).set x_14.toNat (Visit.mk ((x_16.getD x_15.toNat []).getD x_14.toNat
  FK.visit.zero).order ((x_16.getD x_15.toNat []).getD x_14.toNat FK.visit.zero).drop ((x_16.getD x_15.toNat []).getD x_14.toNat FK.visit.zero).arrive ((x_16.getD x_15.toNat []).getD x_14.toNat FK.visit.zero).start ((x_16.getD x_15.toNat
  []).getD x_14.toNat FK.visit.zero).leave (wrap (((x_16.getD x_15.toNat []).getD x_14.toNat FK.visit.zero).load + x_4)))) = x_16.set x_15.toNat ((x_16.getD x_15.toNat []).set x_14.toNat (Visit.mk ((x_16.getD x_15.toNat []).getD x_14.toNat
  FK.visit.zero).order ((x_16.getD x_15.toNat []).getD x_14.toNat FK.visit.zero).drop ((x_16.getD x_15.toNat []).getD x_14.toNat FK.visit.zero).arrive ((x_16.getD x_15.toNat []).getD x_14.toNat FK.visit.zero).start ((x_16.getD x_15.toNat
  []).getD x_14.toNat FK.visit.zero).leave (wrap (((x_16.getD x_15.toNat []).getD x_14.toNat FK.visit.zero).load + x_4))))) ∧ inv (-1 : Int) (wrap (x_15 + (1 : Int))) (x_16.set x_15.toNat ((x_16.getD x_15.toNat []).set x_14.toNat (Visit.mk
  ((x_16.getD x_15.toNat []).getD x_14.toNat FK.visit.zero).order ((x_16.getD x_15.toNat []).getD x_14.toNat FK.visit.zero).drop ((x_16.getD x_15.toNat []).getD x_14.toNat FK.visit.zero).arrive ((x_16.getD x_15.toNat []).getD x_14.toNat
  FK.visit.zero).start ((x_16.getD x_15.toNat []).getD x_14.toNat FK.visit.zero).leave (wrap (((x_16.getD x_15.toNat []).getD x_14.toNat FK.visit.zero).load + x_4))))) ∧ μ (-1 : Int) (wrap (x_15 + (1 : Int))) (x_16.set x_15.toNat ((x_16.getD
  x_15.toNat []).set x_14.toNat (Visit.mk ((x_16.getD x_15.toNat []).getD x_14.toNat FK.visit.zero).order ((x_16.getD x_15.toNat []).getD x_14.toNat FK.visit.zero).drop ((x_16.getD x_15.toNat []).getD x_14.toNat FK.visit.zero).arrive
  ((x_16.getD x_15.toNat []).getD x_14.toNat FK.visit.zero).start ((x_16.getD x_15.toNat []).getD x_14.toNat FK.visit.zero).leave (wrap (((x_16.getD x_15.toNat []).getD x_14.toNat FK.visit.zero).load + x_4))))) < μ x_14 x_15 x_16) ∧ (decide
  (bwithin x_3 (0 : Int) (5 : Int) = (3 : Int)) = false → (decide (bwithin x_3 (0 : Int) (5 : Int) = (4 : Int)) = true → x_14.toNat < (x_16.getD x_15.toNat []).length ∧ x_14.toNat < (x_16.getD x_15.toNat []).length ∧ ((x_3 = x_3 ∧ x_4 = x_4 ∧
  (-1 : Int) = (-1 : Int) ∧ wrap (x_15 + (1 : Int)) = wrap (x_15 + (1 : Int))) ∧ (x.n = x.n ∧ x.n = x.n ∧ x.n = x.n) ∧ x.times = x.times ∧ x.times = x.times ∧ x.plan = x.plan ∧ x.orders = x.orders ∧ x.drivers = x.drivers ∧ x.times = x.times ∧
  x_16.set x_15.toNat ((x_16.getD x_15.toNat []).set x_14.toNat (Visit.mk (wrap (((x_16.getD x_15.toNat []).getD x_14.toNat FK.visit.zero).order + x_4)) ((x_16.getD x_15.toNat []).getD x_14.toNat FK.visit.zero).drop ((x_16.getD x_15.toNat
  []).getD x_14.toNat FK.visit.zero).arrive ((x_16.getD x_15.toNat []).getD x_14.toNat FK.visit.zero).start ((x_16.getD x_15.toNat []).getD x_14.toNat FK.visit.zero).leave ((x_16.getD x_15.toNat []).getD x_14.toNat FK.visit.zero).load)) =
  x_16.set x_15.toNat ((x_16.getD x_15.toNat []).set x_14.toNat (Visit.mk (wrap (((x_16.getD x_15.toNat []).getD x_14.toNat FK.visit.zero).order + x_4)) ((x_16.getD x_15.toNat []).getD x_14.toNat FK.visit.zero).drop ((x_16.getD x_15.toNat
  []).getD x_14.toNat FK.visit.zero).arrive ((x_16.getD x_15.toNat []).getD x_14.toNat FK.visit.zero).start ((x_16.getD x_15.toNat []).getD x_14.toNat FK.visit.zero).leave ((x_16.getD x_15.toNat []).getD x_14.toNat FK.visit.zero).load))) ∧
  inv (-1 : Int) (wrap (x_15 + (1 : Int))) (x_16.set x_15.toNat ((x_16.getD x_15.toNat []).set x_14.toNat (Visit.mk (wrap (((x_16.getD x_15.toNat []).getD x_14.toNat FK.visit.zero).order + x_4)) ((x_16.getD x_15.toNat []).getD x_14.toNat
  FK.visit.zero).drop ((x_16.getD x_15.toNat []).getD x_14.toNat FK.visit.zero).arrive ((x_16.getD x_15.toNat []).getD x_14.toNat FK.visit.zero).start ((x_16.getD x_15.toNat []).getD x_14.toNat FK.visit.zero).leave ((x_16.getD x_15.toNat
  []).getD x_14.toNat FK.visit.zero).load))) ∧ μ (-1 : Int) (wrap (x_15 + (1 : Int))) (x_16.set x_15.toNat ((x_16.getD x_15.toNat []).set x_14.toNat (Visit.mk (wrap (((x_16.getD x_15.toNat []).getD x_14.toNat FK.visit.zero).order + x_4))
  ((x_16.getD x_15.toNat []).getD x_14.toNat FK.visit.zero).drop ((x_16.getD x_15.toNat []).getD x_14.toNat FK.visit.zero).arrive ((x_16.getD x_15.toNat []).getD x_14.toNat FK.visit.zero).start ((x_16.getD x_15.toNat []).getD x_14.toNat
  FK.visit.zero).leave ((x_16.getD x_15.toNat []).getD x_14.toNat FK.visit.zero).load))) < μ x_14 x_15 x_16) ∧ (decide (bwithin x_3 (0 : Int) (5 : Int) = (4 : Int)) = false → (decide (bwithin x_3 (0 : Int) (5 : Int) = (5 : Int)) = true →
  x_14.toNat < (x_16.getD x_15.toNat []).length ∧ (2 : Int) ≠ (0 : Int) ∧ x_14.toNat < (x_16.getD x_15.toNat []).length ∧ ((x_3 = x_3 ∧ x_4 = x_4 ∧ (-1 : Int) = (-1 : Int) ∧ wrap (x_15 + (1 : Int)) = wrap (x_15 + (1 : Int))) ∧ (x.n = x.n ∧
  x.n = x.n ∧ x.n = x.n) ∧ x.times = x.times ∧ x.times = x.times ∧ x.plan = x.plan ∧ x.orders = x.orders ∧ x.drivers = x.drivers ∧ x.times = x.times ∧ x_16.set x_15.toNat ((x_16.getD x_15.toNat []).set x_14.toNat (Visit.mk ((x_16.getD
  x_15.toNat []).getD x_14.toNat FK.visit.zero).order (!((x_16.getD x_15.toNat []).getD x_14.toNat FK.visit.zero).drop == !decide (x_4.tmod (2 : Int) = (0 : Int))) ((x_16.getD x_15.toNat []).getD x_14.toNat FK.visit.zero).arrive ((x_16.getD
  x_15.toNat []).getD x_14.toNat FK.visit.zero).start ((x_16.getD x_15.toNat []).getD x_14.toNat FK.visit.zero).leave ((x_16.getD x_15.toNat []).getD x_14.toNat FK.visit.zero).load)) = x_16.set x_15.toNat ((x_16.getD x_15.toNat []).set
  x_14.toNat (Visit.mk ((x_16.getD x_15.toNat []).getD x_14.toNat FK.visit.zero).order (!((x_16.getD x_15.toNat []).getD x_14.toNat FK.visit.zero).drop == !decide (x_4.tmod (2 : Int) = (0 : Int))) ((x_16.getD x_15.toNat []).getD x_14.toNat
  FK.visit.zero).arrive ((x_16.getD x_15.toNat []).getD x_14.toNat FK.visit.zero).start ((x_16.getD x_15.toNat []).getD x_14.toNat FK.visit.zero).leave ((x_16.getD x_15.toNat []).getD x_14.toNat FK.visit.zero).load))) ∧ inv (-1 : Int) (wrap
  (x_15 + (1 : Int))) (x_16.set x_15.toNat ((x_16.getD x_15.toNat []).set x_14.toNat (Visit.mk ((x_16.getD x_15.toNat []).getD x_14.toNat FK.visit.zero).order (!((x_16.getD x_15.toNat []).getD x_14.toNat FK.visit.zero).drop == !decide
  (x_4.tmod (2 : Int) = (0 : Int))) ((x_16.getD x_15.toNat []).getD x_14.toNat FK.visit.zero).arrive ((x_16.getD x_15.toNat []).getD x_14.toNat FK.visit.zero).start ((x_16.getD x_15.toNat []).getD x_14.toNat FK.visit.zero).leave ((x_16.getD
  x_15.toNat []).getD x_14.toNat FK.visit.zero).load))) ∧ μ (-1 : Int) (wrap (x_15 + (1 : Int))) (x_16.set x_15.toNat ((x_16.getD x_15.toNat []).set x_14.toNat (Visit.mk ((x_16.getD x_15.toNat []).getD x_14.toNat FK.visit.zero).order
  (!((x_16.getD x_15.toNat []).getD x_14.toNat FK.visit.zero).drop == !decide (x_4.tmod (2 : Int) = (0 : Int))) ((x_16.getD x_15.toNat []).getD x_14.toNat FK.visit.zero).arrive ((x_16.getD x_15.toNat []).getD x_14.toNat FK.visit.zero).start
  ((x_16.getD x_15.toNat []).getD x_14.toNat FK.visit.zero).leave ((x_16.getD x_15.toNat []).getD x_14.toNat FK.visit.zero).load))) < μ x_14 x_15 x_16) ∧ (decide (bwithin x_3 (0 : Int) (5 : Int) = (5 : Int)) = false → ((x_3 = x_3 ∧ x_4 = x_4
  ∧ (-1 : Int) = (-1 : Int) ∧ wrap (x_15 + (1 : Int)) = wrap (x_15 + (1 : Int))) ∧ (x.n = x.n ∧ x.n = x.n ∧ x.n = x.n) ∧ x.times = x.times ∧ x.times = x.times ∧ x.plan = x.plan ∧ x.orders = x.orders ∧ x.drivers = x.drivers ∧ x.times = x.times
  ∧ x_16.set x_15.toNat (x_16.getD x_15.toNat []) = x_16.set x_15.toNat (x_16.getD x_15.toNat [])) ∧ inv (-1 : Int) (wrap (x_15 + (1 : Int))) (x_16.set x_15.toNat (x_16.getD x_15.toNat [])) ∧ μ (-1 : Int) (wrap (x_15 + (1 : Int))) (x_16.set
  x_15.toNat (x_16.getD x_15.toNat [])) < μ x_14 x_15 x_16)))))))) ∧ (decide (x_14 < (0 : Int)) = !false → ((0 : Int) ≤ x_15 ∧ x_15 < (↑x_16.length : Int)) ∧ x_15.toNat = x_15.toNat ∧ ((x_3 = x_3 ∧ x_4 = x_4 ∧ wrap (x_14 - (↑(x_16.getD
  x_15.toNat []).length : Int)) = wrap (x_14 - (↑(x_16.getD x_15.toNat []).length : Int)) ∧ wrap (x_15 + (1 : Int)) = wrap (x_15 + (1 : Int))) ∧ (x.n = x.n ∧ x.n = x.n ∧ x.n = x.n) ∧ x.times = x.times ∧ x.times = x.times ∧ x.plan = x.plan ∧
  x.orders = x.orders ∧ x.drivers = x.drivers ∧ x.times = x.times ∧ x_16.set x_15.toNat (x_16.getD x_15.toNat []) = x_16.set x_15.toNat (x_16.getD x_15.toNat [])) ∧ inv (wrap (x_14 - (↑(x_16.getD x_15.toNat []).length : Int))) (wrap (x_15 +
  (1 : Int))) (x_16.set x_15.toNat (x_16.getD x_15.toNat [])) ∧ μ (wrap (x_14 - (↑(x_16.getD x_15.toNat []).length : Int))) (wrap (x_15 + (1 : Int))) (x_16.set x_15.toNat (x_16.getD x_15.toNat [])) < μ x_14 x_15 x_16)) ∧ (decide (x_15 <
  (↑x_16.length : Int)) = false → (∀ (x_19 : MapD), some (MapD.mk x.n x.times) = some x_19 → MapOk x_19) ∧ (∀ (x_19 : MapD), some (MapD.mk x.n x.times) = some x_19 → MapOk x_19) ∧ ((decide ((checkP (some (MapD.mk x.n x.times)) x.drivers
  x.orders x.plan x_16).spot = (checkP (some (MapD.mk x.n x.times)) x.drivers x.orders x.plan x_16).spot) && (decide ((checkP (some (MapD.mk x.n x.times)) x.drivers x.orders x.plan x_16).why = (checkP (some (MapD.mk x.n x.times)) x.drivers
  x.orders x.plan x_16).why) && true)) = true → true = true) ∧ ((decide ((checkP (some (MapD.mk x.n x.times)) x.drivers x.orders x.plan x_16).spot = (checkP (some (MapD.mk x.n x.times)) x.drivers x.orders x.plan x_16).spot) && (decide
  ((checkP (some (MapD.mk x.n x.times)) x.drivers x.orders x.plan x_16).why = (checkP (some (MapD.mk x.n x.times)) x.drivers x.orders x.plan x_16).why) && true)) = !true → false = true)))) ∧ ((!decide ((cfauR (makeP (some (MapD.mk x.n
  x.times)) x.drivers x.orders x.plan)).why = (0 : Int))) = !false → (∀ (x_13 : MapD), some (MapD.mk x.n x.times) = some x_13 → MapOk x_13) ∧ (∀ (x_13 : MapD), some (MapD.mk x.n x.times) = some x_13 → MapOk x_13) ∧ ((decide ((checkP (some
  (MapD.mk x.n x.times)) x.drivers x.orders x.plan (certR (makeP (some (MapD.mk x.n x.times)) x.drivers x.orders x.plan))).spot = (checkP (some (MapD.mk x.n x.times)) x.drivers x.orders x.plan (certR (makeP (some (MapD.mk x.n x.times))
  x.drivers x.orders x.plan))).spot) && (decide ((checkP (some (MapD.mk x.n x.times)) x.drivers x.orders x.plan (certR (makeP (some (MapD.mk x.n x.times)) x.drivers x.orders x.plan))).why = (checkP (some (MapD.mk x.n x.times)) x.drivers
  x.orders x.plan (certR (makeP (some (MapD.mk x.n x.times)) x.drivers x.orders x.plan))).why) && true)) = true → true = true) ∧ ((decide ((checkP (some (MapD.mk x.n x.times)) x.drivers x.orders x.plan (certR (makeP (some (MapD.mk x.n
  x.times)) x.drivers x.orders x.plan))).spot = (checkP (some (MapD.mk x.n x.times)) x.drivers x.orders x.plan (certR (makeP (some (MapD.mk x.n x.times)) x.drivers x.orders x.plan))).spot) && (decide ((checkP (some (MapD.mk x.n x.times))
  x.drivers x.orders x.plan (certR (makeP (some (MapD.mk x.n x.times)) x.drivers x.orders x.plan))).why = (checkP (some (MapD.mk x.n x.times)) x.drivers x.orders x.plan (certR (makeP (some (MapD.mk x.n x.times)) x.drivers x.orders
  x.plan))).why) && true)) = !true → false = true)))))
theorem certTurned_told (hc : CsOk Try.prog certTurned_cs) (h : certTurned_vc) : Told Try.prog 12 certTurned_con := told (A := certTurned_la) tabOk mixed hc Try.func12 (by kernel_rfl) (by kernel_rfl) h
end Go.Eng

/- The conditions of functions, as print.. of the engine told them. -/
set_option linter.unusedVariables false
namespace Go.Eng
open Go Go.Proofs
def certRuns_vc : Prop :=
  ((!decide ((0 : Int) = (0 : Int))) = false → (∀ (x : MapD), some (MapD.mk (2 : Int) [(0 : Int), (5 : Int), (7 : Int), (0 : Int)]) = some x → MapOk x) ∧ ([[Visit.mk (1 : Int) false (8 : Int) (8 : Int) (9 : Int) (3 : Int), Visit.mk (1 : Int)
  true (14 : Int) (14 : Int) (16 : Int) (0 : Int)]].length * (24 : Nat) ≤ (140737488351232 : Nat) ∧ ∀ (l : List Visit), List.Mem l [[Visit.mk (1 : Int) false (8 : Int) (8 : Int) (9 : Int) (3 : Int), Visit.mk (1 : Int) true (14 : Int) (14 :
  Int) (16 : Int) (0 : Int)]] → l.length * (48 : Nat) ≤ (140737488351232 : Nat)) ∧ ([[Visit.mk (1 : Int) false (8 : Int) (8 : Int) (9 : Int) (3 : Int), Visit.mk (1 : Int) true (14 : Int) (14 : Int) (16 : Int) (0 : Int)]].length * (24 : Nat) ≤
  (140737488351232 : Nat) ∧ ∀ (l : List Visit), List.Mem l [[Visit.mk (1 : Int) false (8 : Int) (8 : Int) (9 : Int) (3 : Int), Visit.mk (1 : Int) true (14 : Int) (14 : Int) (16 : Int) (0 : Int)]] → l.length * (48 : Nat) ≤ (140737488351232 :
  Nat)) ∧ ((0 : Int) ≤ (0 : Int) ∧ (0 : Int) < (↑[[Visit.mk (1 : Int) false (8 : Int) (8 : Int) (9 : Int) (3 : Int), Visit.mk (1 : Int) true (14 : Int) (14 : Int) (16 : Int) (0 : Int)]].length : Int)) ∧ ∀ (e' : Nat), ((0 : Int) ≤ (0 : Int) ∧
  (0 : Int) < (↑[[Visit.mk (1 : Int) false (8 : Int) (8 : Int) (9 : Int) (3 : Int), Visit.mk (1 : Int) true (14 : Int) (14 : Int) (16 : Int) (0 : Int)]].length : Int)) ∧ Int.toNat (0 : Int) = Int.toNat (0 : Int) ∧ ((0 : Int) ≤ (1 : Int) ∧ (1
  : Int) < (↑([[Visit.mk (1 : Int) false (8 : Int) (8 : Int) (9 : Int) (3 : Int), Visit.mk (1 : Int) true (14 : Int) (14 : Int) (16 : Int) (0 : Int)]].getD (Int.toNat (0 : Int)) []).length : Int)) ∧ Int.toNat (1 : Int) < ([[Visit.mk (1 : Int)
  false (8 : Int) (8 : Int) (9 : Int) (3 : Int), Visit.mk (1 : Int) true (14 : Int) (14 : Int) (16 : Int) (0 : Int)]].getD (Int.toNat (0 : Int)) []).length ∧ ((0 : Int) ≤ (0 : Int) ∧ (0 : Int) < (↑[[Visit.mk (1 : Int) false (8 : Int) (8 :
  Int) (9 : Int) (3 : Int), Visit.mk (1 : Int) true (14 : Int) (14 : Int) (16 : Int) (0 : Int)]].length : Int)) ∧ ∀ (e' : Nat), ((0 : Int) ≤ (0 : Int) ∧ (0 : Int) < (↑[[Visit.mk (1 : Int) false (8 : Int) (8 : Int) (9 : Int) (3 : Int),
  Visit.mk (1 : Int) true (14 : Int) (14 : Int) (16 : Int) (0 : Int)]].length : Int)) ∧ Int.toNat (0 : Int) = Int.toNat (0 : Int) ∧ ((0 : Int) ≤ (0 : Int) ∧ (0 : Int) < (↑([[Visit.mk (1 : Int) false (8 : Int) (8 : Int) (9 : Int) (3 : Int),
  Visit.mk (1 : Int) true (14 : Int) (14 : Int) (16 : Int) (0 : Int)]].getD (Int.toNat (0 : Int)) []).length : Int)) ∧ Int.toNat (0 : Int) < ([[Visit.mk (1 : Int) false (8 : Int) (8 : Int) (9 : Int) (3 : Int), Visit.mk (1 : Int) true (14 :
  Int) (14 : Int) (16 : Int) (0 : Int)]].getD (Int.toNat (0 : Int)) []).length ∧ (∀ (x : MapD), some (MapD.mk (2 : Int) [(0 : Int), (5 : Int), (7 : Int), (0 : Int)]) = some x → MapOk x) ∧ (∀ (x : MapD), some (MapD.mk (2 : Int) [(0 : Int), (5
  : Int), (7 : Int), (0 : Int)]) = some x → MapOk x) ∧ ((!(decide ((cfauR (makeP (some (MapD.mk (2 : Int) [(0 : Int), (5 : Int), (7 : Int), (0 : Int)])) [Driver.mk (4 : Int) (3 : Int) (1 : Int) (1 : Int) (30 : Int) false] [Order.mk (1 : Int)
  (3 : Int) (0 : Int) (2 : Int) (9 : Int) (1 : Int) (1 : Int) (0 : Int) (20 : Int) (2 : Int)] [Route.mk (4 : Int) (0 : Int) [Stop.mk (1 : Int) false, Stop.mk (1 : Int) true]])).spot = (0 : Int)) && (decide ((cfauR (makeP (some (MapD.mk (2 :
  Int) [(0 : Int), (5 : Int), (7 : Int), (0 : Int)])) [Driver.mk (4 : Int) (3 : Int) (1 : Int) (1 : Int) (30 : Int) false] [Order.mk (1 : Int) (3 : Int) (0 : Int) (2 : Int) (9 : Int) (1 : Int) (1 : Int) (0 : Int) (20 : Int) (2 : Int)]
  [Route.mk (4 : Int) (0 : Int) [Stop.mk (1 : Int) false, Stop.mk (1 : Int) true]])).why = (0 : Int)) && true))) = false → ((!same (certR (makeP (some (MapD.mk (2 : Int) [(0 : Int), (5 : Int), (7 : Int), (0 : Int)])) [Driver.mk (4 : Int) (3 :
  Int) (1 : Int) (1 : Int) (30 : Int) false] [Order.mk (1 : Int) (3 : Int) (0 : Int) (2 : Int) (9 : Int) (1 : Int) (1 : Int) (0 : Int) (20 : Int) (2 : Int)] [Route.mk (4 : Int) (0 : Int) [Stop.mk (1 : Int) false, Stop.mk (1 : Int) true]]))
  [[Visit.mk (1 : Int) false (8 : Int) (8 : Int) (9 : Int) (3 : Int), Visit.mk (1 : Int) true (14 : Int) (14 : Int) (16 : Int) (0 : Int)]]) = false → (∀ (x : MapD), some (MapD.mk (2 : Int) [(0 : Int), (5 : Int), (7 : Int), (0 : Int)]) = some
  x → MapOk x) ∧ ((!(decide ((checkP (some (MapD.mk (2 : Int) [(0 : Int), (5 : Int), (7 : Int), (0 : Int)])) [Driver.mk (4 : Int) (3 : Int) (1 : Int) (1 : Int) (30 : Int) false] [Order.mk (1 : Int) (3 : Int) (0 : Int) (2 : Int) (9 : Int) (1 :
  Int) (1 : Int) (0 : Int) (20 : Int) (2 : Int)] [Route.mk (4 : Int) (0 : Int) [Stop.mk (1 : Int) false, Stop.mk (1 : Int) true]] [[Visit.mk (1 : Int) false (8 : Int) (8 : Int) (9 : Int) (3 : Int), Visit.mk (1 : Int) true (14 : Int) (14 :
  Int) (16 : Int) (0 : Int)]]).spot = (0 : Int)) && (decide ((checkP (some (MapD.mk (2 : Int) [(0 : Int), (5 : Int), (7 : Int), (0 : Int)])) [Driver.mk (4 : Int) (3 : Int) (1 : Int) (1 : Int) (30 : Int) false] [Order.mk (1 : Int) (3 : Int) (0
  : Int) (2 : Int) (9 : Int) (1 : Int) (1 : Int) (0 : Int) (20 : Int) (2 : Int)] [Route.mk (4 : Int) (0 : Int) [Stop.mk (1 : Int) false, Stop.mk (1 : Int) true]] [[Visit.mk (1 : Int) false (8 : Int) (8 : Int) (9 : Int) (3 : Int), Visit.mk (1
  : Int) true (14 : Int) (14 : Int) (16 : Int) (0 : Int)]]).why = (0 : Int)) && true))) = false → ((!decide ((cfauR (makeP (some (MapD.mk (2 : Int) [(0 : Int), (5 : Int), (7 : Int), (0 : Int)])) [] [Order.mk (1 : Int) (3 : Int) (0 : Int) (2 :
  Int) (9 : Int) (1 : Int) (1 : Int) (0 : Int) (20 : Int) (2 : Int)] [Route.mk (4 : Int) (0 : Int) [Stop.mk (1 : Int) false, Stop.mk (1 : Int) true]])).why = (8 : Int))) = false → ((!decide ((cfauR (makeP (some (MapD.mk (2 : Int) [(0 : Int),
  (5 : Int), (7 : Int), (0 : Int)])) [Driver.mk (4 : Int) (3 : Int) (1 : Int) (1 : Int) (30 : Int) false] [] [Route.mk (4 : Int) (0 : Int) [Stop.mk (1 : Int) false, Stop.mk (1 : Int) true]])).why = (8 : Int))) = true → false = true) ∧
  ((!decide ((cfauR (makeP (some (MapD.mk (2 : Int) [(0 : Int), (5 : Int), (7 : Int), (0 : Int)])) [Driver.mk (4 : Int) (3 : Int) (1 : Int) (1 : Int) (30 : Int) false] [] [Route.mk (4 : Int) (0 : Int) [Stop.mk (1 : Int) false, Stop.mk (1 :
  Int) true]])).why = (8 : Int))) = false → (∀ (x : MapD), some (MapD.mk (2 : Int) [(0 : Int), (5 : Int), (7 : Int), (0 : Int)]) = some x → MapOk x) ∧ (decide ((checkP (some (MapD.mk (2 : Int) [(0 : Int), (5 : Int), (7 : Int), (0 : Int)]))
  [Driver.mk (4 : Int) (3 : Int) (1 : Int) (1 : Int) (30 : Int) false] [Order.mk (1 : Int) (3 : Int) (0 : Int) (2 : Int) (9 : Int) (1 : Int) (1 : Int) (0 : Int) (20 : Int) (2 : Int)] [Route.mk (4 : Int) (0 : Int) [Stop.mk (1 : Int) false,
  Stop.mk (1 : Int) true]] ([[Visit.mk (1 : Int) false (8 : Int) (8 : Int) (9 : Int) (3 : Int), Visit.mk (1 : Int) true (14 : Int) (14 : Int) (16 : Int) (0 : Int)]].set (Int.toNat (0 : Int)) (([[Visit.mk (1 : Int) false (8 : Int) (8 : Int) (9
  : Int) (3 : Int), Visit.mk (1 : Int) true (14 : Int) (14 : Int) (16 : Int) (0 : Int)]].getD (Int.toNat (0 : Int)) []).set (Int.toNat (1 : Int)) (Visit.mk (([[Visit.mk (1 : Int) false (8 : Int) (8 : Int) (9 : Int) (3 : Int), Visit.mk (1 :
  Int) true (14 : Int) (14 : Int) (16 : Int) (0 : Int)]].getD (Int.toNat (0 : Int)) []).getD (Int.toNat (1 : Int)) FK.visit.zero).order (([[Visit.mk (1 : Int) false (8 : Int) (8 : Int) (9 : Int) (3 : Int), Visit.mk (1 : Int) true (14 : Int)
  (14 : Int) (16 : Int) (0 : Int)]].getD (Int.toNat (0 : Int)) []).getD (Int.toNat (1 : Int)) FK.visit.zero).drop (([[Visit.mk (1 : Int) false (8 : Int) (8 : Int) (9 : Int) (3 : Int), Visit.mk (1 : Int) true (14 : Int) (14 : Int) (16 : Int)
  (0 : Int)]].getD (Int.toNat (0 : Int)) []).getD (Int.toNat (1 : Int)) FK.visit.zero).arrive (([[Visit.mk (1 : Int) false (8 : Int) (8 : Int) (9 : Int) (3 : Int), Visit.mk (1 : Int) true (14 : Int) (14 : Int) (16 : Int) (0 : Int)]].getD
  (Int.toNat (0 : Int)) []).getD (Int.toNat (1 : Int)) FK.visit.zero).start (17 : Int) (([[Visit.mk (1 : Int) false (8 : Int) (8 : Int) (9 : Int) (3 : Int), Visit.mk (1 : Int) true (14 : Int) (14 : Int) (16 : Int) (0 : Int)]].getD (Int.toNat
  (0 : Int)) []).getD (Int.toNat (1 : Int)) FK.visit.zero).load)))).why = (15 : Int)) = true → (∀ (x : MapD), some (MapD.mk (2 : Int) [(0 : Int), (5 : Int), (7 : Int), (0 : Int)]) = some x → MapOk x) ∧ (decide ((checkP (some (MapD.mk (2 :
  Int) [(0 : Int), (5 : Int), (7 : Int), (0 : Int)])) [Driver.mk (4 : Int) (3 : Int) (1 : Int) (1 : Int) (30 : Int) false] [Order.mk (1 : Int) (3 : Int) (0 : Int) (2 : Int) (9 : Int) (1 : Int) (1 : Int) (0 : Int) (20 : Int) (2 : Int)]
  [Route.mk (4 : Int) (0 : Int) [Stop.mk (1 : Int) false, Stop.mk (1 : Int) true]] ([[Visit.mk (1 : Int) false (8 : Int) (8 : Int) (9 : Int) (3 : Int), Visit.mk (1 : Int) true (14 : Int) (14 : Int) (16 : Int) (0 : Int)]].set (Int.toNat (0 :
  Int)) (([[Visit.mk (1 : Int) false (8 : Int) (8 : Int) (9 : Int) (3 : Int), Visit.mk (1 : Int) true (14 : Int) (14 : Int) (16 : Int) (0 : Int)]].getD (Int.toNat (0 : Int)) []).set (Int.toNat (0 : Int)) (Visit.mk (([[Visit.mk (1 : Int) false
  (8 : Int) (8 : Int) (9 : Int) (3 : Int), Visit.mk (1 : Int) true (14 : Int) (14 : Int) (16 : Int) (0 : Int)]].getD (Int.toNat (0 : Int)) []).getD (Int.toNat (0 : Int)) FK.visit.zero).order (([[Visit.mk (1 : Int) false (8 : Int) (8 : Int) (9
  : Int) (3 : Int), Visit.mk (1 : Int) true (14 : Int) (14 : Int) (16 : Int) (0 : Int)]].getD (Int.toNat (0 : Int)) []).getD (Int.toNat (0 : Int)) FK.visit.zero).drop (([[Visit.mk (1 : Int) false (8 : Int) (8 : Int) (9 : Int) (3 : Int),
  Visit.mk (1 : Int) true (14 : Int) (14 : Int) (16 : Int) (0 : Int)]].getD (Int.toNat (0 : Int)) []).getD (Int.toNat (0 : Int)) FK.visit.zero).arrive (([[Visit.mk (1 : Int) false (8 : Int) (8 : Int) (9 : Int) (3 : Int), Visit.mk (1 : Int)
  true (14 : Int) (14 : Int) (16 : Int) (0 : Int)]].getD (Int.toNat (0 : Int)) []).getD (Int.toNat (0 : Int)) FK.visit.zero).start (([[Visit.mk (1 : Int) false (8 : Int) (8 : Int) (9 : Int) (3 : Int), Visit.mk (1 : Int) true (14 : Int) (14 :
  Int) (16 : Int) (0 : Int)]].getD (Int.toNat (0 : Int)) []).getD (Int.toNat (0 : Int)) FK.visit.zero).leave (2 : Int))))).why = (14 : Int)) = true → ((0 : Int) ≤ (0 : Int) ∧ (0 : Int) < (↑[[Visit.mk (1 : Int) false (8 : Int) (8 : Int) (9 :
  Int) (3 : Int), Visit.mk (1 : Int) true (14 : Int) (14 : Int) (16 : Int) (0 : Int)]].length : Int)) ∧ Int.toNat (0 : Int) < [[Visit.mk (1 : Int) false (8 : Int) (8 : Int) (9 : Int) (3 : Int), Visit.mk (1 : Int) true (14 : Int) (14 : Int)
  (16 : Int) (0 : Int)]].length ∧ ((0 : Int) ≤ (0 : Int) ∧ (0 : Int) ≤ (1 : Int) ∧ (1 : Int) ≤ (↑([[Visit.mk (1 : Int) false (8 : Int) (8 : Int) (9 : Int) (3 : Int), Visit.mk (1 : Int) true (14 : Int) (14 : Int) (16 : Int) (0 : Int)]].getD
  (Int.toNat (0 : Int)) []).length : Int)) ∧ Int.toNat (0 : Int) + (Int.toNat (1 : Int) - Int.toNat (0 : Int)) ≤ ([[Visit.mk (1 : Int) false (8 : Int) (8 : Int) (9 : Int) (3 : Int), Visit.mk (1 : Int) true (14 : Int) (14 : Int) (16 : Int) (0
  : Int)]].getD (Int.toNat (0 : Int)) []).length ∧ (∀ (x : MapD), some (MapD.mk (2 : Int) [(0 : Int), (5 : Int), (7 : Int), (0 : Int)]) = some x → MapOk x) ∧ (decide ((checkP (some (MapD.mk (2 : Int) [(0 : Int), (5 : Int), (7 : Int), (0 :
  Int)])) [Driver.mk (4 : Int) (3 : Int) (1 : Int) (1 : Int) (30 : Int) false] [Order.mk (1 : Int) (3 : Int) (0 : Int) (2 : Int) (9 : Int) (1 : Int) (1 : Int) (0 : Int) (20 : Int) (2 : Int)] [Route.mk (4 : Int) (0 : Int) [Stop.mk (1 : Int)
  false, Stop.mk (1 : Int) true]] [part ([[Visit.mk (1 : Int) false (8 : Int) (8 : Int) (9 : Int) (3 : Int), Visit.mk (1 : Int) true (14 : Int) (14 : Int) (16 : Int) (0 : Int)]].getD (Int.toNat (0 : Int)) []) (Int.toNat (0 : Int)) (Int.toNat
  (1 : Int) - Int.toNat (0 : Int))]).why = (4 : Int)) = true → (∀ (x : MapD), some (MapD.mk (2 : Int) [(0 : Int), (5 : Int), (7 : Int), (0 : Int)]) = some x → MapOk x) ∧ decide ((checkP (some (MapD.mk (2 : Int) [(0 : Int), (5 : Int), (7 :
  Int), (0 : Int)])) [Driver.mk (4 : Int) (3 : Int) (1 : Int) (1 : Int) (30 : Int) false] [Order.mk (1 : Int) (3 : Int) (0 : Int) (2 : Int) (9 : Int) (1 : Int) (1 : Int) (0 : Int) (20 : Int) (2 : Int)] [Route.mk (4 : Int) (0 : Int) [Stop.mk
  (1 : Int) false, Stop.mk (1 : Int) true]] []).why = (4 : Int)) = true) ∧ (decide ((checkP (some (MapD.mk (2 : Int) [(0 : Int), (5 : Int), (7 : Int), (0 : Int)])) [Driver.mk (4 : Int) (3 : Int) (1 : Int) (1 : Int) (30 : Int) false] [Order.mk
  (1 : Int) (3 : Int) (0 : Int) (2 : Int) (9 : Int) (1 : Int) (1 : Int) (0 : Int) (20 : Int) (2 : Int)] [Route.mk (4 : Int) (0 : Int) [Stop.mk (1 : Int) false, Stop.mk (1 : Int) true]] [part ([[Visit.mk (1 : Int) false (8 : Int) (8 : Int) (9
  : Int) (3 : Int), Visit.mk (1 : Int) true (14 : Int) (14 : Int) (16 : Int) (0 : Int)]].getD (Int.toNat (0 : Int)) []) (Int.toNat (0 : Int)) (Int.toNat (1 : Int) - Int.toNat (0 : Int))]).why = (4 : Int)) = !true → false = true)) ∧ (decide
  ((checkP (some (MapD.mk (2 : Int) [(0 : Int), (5 : Int), (7 : Int), (0 : Int)])) [Driver.mk (4 : Int) (3 : Int) (1 : Int) (1 : Int) (30 : Int) false] [Order.mk (1 : Int) (3 : Int) (0 : Int) (2 : Int) (9 : Int) (1 : Int) (1 : Int) (0 : Int)
  (20 : Int) (2 : Int)] [Route.mk (4 : Int) (0 : Int) [Stop.mk (1 : Int) false, Stop.mk (1 : Int) true]] ([[Visit.mk (1 : Int) false (8 : Int) (8 : Int) (9 : Int) (3 : Int), Visit.mk (1 : Int) true (14 : Int) (14 : Int) (16 : Int) (0 :
  Int)]].set (Int.toNat (0 : Int)) (([[Visit.mk (1 : Int) false (8 : Int) (8 : Int) (9 : Int) (3 : Int), Visit.mk (1 : Int) true (14 : Int) (14 : Int) (16 : Int) (0 : Int)]].getD (Int.toNat (0 : Int)) []).set (Int.toNat (0 : Int)) (Visit.mk
  (([[Visit.mk (1 : Int) false (8 : Int) (8 : Int) (9 : Int) (3 : Int), Visit.mk (1 : Int) true (14 : Int) (14 : Int) (16 : Int) (0 : Int)]].getD (Int.toNat (0 : Int)) []).getD (Int.toNat (0 : Int)) FK.visit.zero).order (([[Visit.mk (1 : Int)
  false (8 : Int) (8 : Int) (9 : Int) (3 : Int), Visit.mk (1 : Int) true (14 : Int) (14 : Int) (16 : Int) (0 : Int)]].getD (Int.toNat (0 : Int)) []).getD (Int.toNat (0 : Int)) FK.visit.zero).drop (([[Visit.mk (1 : Int) false (8 : Int) (8 :
  Int) (9 : Int) (3 : Int), Visit.mk (1 : Int) true (14 : Int) (14 : Int) (16 : Int) (0 : Int)]].getD (Int.toNat (0 : Int)) []).getD (Int.toNat (0 : Int)) FK.visit.zero).arrive (([[Visit.mk (1 : Int) false (8 : Int) (8 : Int) (9 : Int) (3 :
  Int), Visit.mk (1 : Int) true (14 : Int) (14 : Int) (16 : Int) (0 : Int)]].getD (Int.toNat (0 : Int)) []).getD (Int.toNat (0 : Int)) FK.visit.zero).start (([[Visit.mk (1 : Int) false (8 : Int) (8 : Int) (9 : Int) (3 : Int), Visit.mk (1 :
  Int) true (14 : Int) (14 : Int) (16 : Int) (0 : Int)]].getD (Int.toNat (0 : Int)) []).getD (Int.toNat (0 : Int)) FK.visit.zero).leave (2 : Int))))).why = (14 : Int)) = !true → false = true)) ∧ (decide ((checkP (some (MapD.mk (2 : Int) [(0 :
  Int), (5 : Int), (7 : Int), (0 : Int)])) [Driver.mk (4 : Int) (3 : Int) (1 : Int) (1 : Int) (30 : Int) false] [Order.mk (1 : Int) (3 : Int) (0 : Int) (2 : Int) (9 : Int) (1 : Int) (1 : Int) (0 : Int) (20 : Int) (2 : Int)] [Route.mk (4 :
  Int) (0 : Int) [Stop.mk (1 : Int) false, Stop.mk (1 : Int) true]] ([[Visit.mk (1 : Int) false (8 : Int) (8 : Int) (9 : Int) (3 : Int), Visit.mk (1 : Int) true (14 : Int) (14 : Int) (16 : Int) (0 : Int)]].set (Int.toNat (0 : Int))
  (([[Visit.mk (1 : Int) false (8 : Int) (8 : Int) (9 : Int) (3 : Int), Visit.mk (1 : Int) true (14 : Int) (14 : Int) (16 : Int) (0 : Int)]].getD (Int.toNat (0 : Int)) []).set (Int.toNat (1 : Int)) (Visit.mk (([[Visit.mk (1 : Int) false (8 :
  Int) (8 : Int) (9 : Int) (3 : Int), Visit.mk (1 : Int) true (14 : Int) (14 : Int) (16 : Int) (0 : Int)]].getD (Int.toNat (0 : Int)) []).getD (Int.toNat (1 : Int)) FK.visit.zero).order (([[Visit.mk (1 : Int) false (8 : Int) (8 : Int) (9 :
  Int) (3 : Int), Visit.mk (1 : Int) true (14 : Int) (14 : Int) (16 : Int) (0 : Int)]].getD (Int.toNat (0 : Int)) []).getD (Int.toNat (1 : Int)) FK.visit.zero).drop (([[Visit.mk (1 : Int) false (8 : Int) (8 : Int) (9 : Int) (3 : Int),
  Visit.mk (1 : Int) true (14 : Int) (14 : Int) (16 : Int) (0 : Int)]].getD (Int.toNat (0 : Int)) []).getD (Int.toNat (1 : Int)) FK.visit.zero).arrive (([[Visit.mk (1 : Int) false (8 : Int) (8 : Int) (9 : Int) (3 : Int), Visit.mk (1 : Int)
  true (14 : Int) (14 : Int) (16 : Int) (0 : Int)]].getD (Int.toNat (0 : Int)) []).getD (Int.toNat (1 : Int)) FK.visit.zero).start (17 : Int) (([[Visit.mk (1 : Int) false (8 : Int) (8 : Int) (9 : Int) (3 : Int), Visit.mk (1 : Int) true (14 :
  Int) (14 : Int) (16 : Int) (0 : Int)]].getD (Int.toNat (0 : Int)) []).getD (Int.toNat (1 : Int)) FK.visit.zero).load)))).why = (15 : Int)) = !true → false = true))) ∧ ((!decide ((cfauR (makeP (some (MapD.mk (2 : Int) [(0 : Int), (5 : Int),
  (7 : Int), (0 : Int)])) [] [Order.mk (1 : Int) (3 : Int) (0 : Int) (2 : Int) (9 : Int) (1 : Int) (1 : Int) (0 : Int) (20 : Int) (2 : Int)] [Route.mk (4 : Int) (0 : Int) [Stop.mk (1 : Int) false, Stop.mk (1 : Int) true]])).why = (8 : Int)))
  = !false → false = true)) ∧ ((!(decide ((checkP (some (MapD.mk (2 : Int) [(0 : Int), (5 : Int), (7 : Int), (0 : Int)])) [Driver.mk (4 : Int) (3 : Int) (1 : Int) (1 : Int) (30 : Int) false] [Order.mk (1 : Int) (3 : Int) (0 : Int) (2 : Int)
  (9 : Int) (1 : Int) (1 : Int) (0 : Int) (20 : Int) (2 : Int)] [Route.mk (4 : Int) (0 : Int) [Stop.mk (1 : Int) false, Stop.mk (1 : Int) true]] [[Visit.mk (1 : Int) false (8 : Int) (8 : Int) (9 : Int) (3 : Int), Visit.mk (1 : Int) true (14 :
  Int) (14 : Int) (16 : Int) (0 : Int)]]).spot = (0 : Int)) && (decide ((checkP (some (MapD.mk (2 : Int) [(0 : Int), (5 : Int), (7 : Int), (0 : Int)])) [Driver.mk (4 : Int) (3 : Int) (1 : Int) (1 : Int) (30 : Int) false] [Order.mk (1 : Int)
  (3 : Int) (0 : Int) (2 : Int) (9 : Int) (1 : Int) (1 : Int) (0 : Int) (20 : Int) (2 : Int)] [Route.mk (4 : Int) (0 : Int) [Stop.mk (1 : Int) false, Stop.mk (1 : Int) true]] [[Visit.mk (1 : Int) false (8 : Int) (8 : Int) (9 : Int) (3 : Int),
  Visit.mk (1 : Int) true (14 : Int) (14 : Int) (16 : Int) (0 : Int)]]).why = (0 : Int)) && true))) = !false → false = true)) ∧ ((!same (certR (makeP (some (MapD.mk (2 : Int) [(0 : Int), (5 : Int), (7 : Int), (0 : Int)])) [Driver.mk (4 : Int)
  (3 : Int) (1 : Int) (1 : Int) (30 : Int) false] [Order.mk (1 : Int) (3 : Int) (0 : Int) (2 : Int) (9 : Int) (1 : Int) (1 : Int) (0 : Int) (20 : Int) (2 : Int)] [Route.mk (4 : Int) (0 : Int) [Stop.mk (1 : Int) false, Stop.mk (1 : Int)
  true]])) [[Visit.mk (1 : Int) false (8 : Int) (8 : Int) (9 : Int) (3 : Int), Visit.mk (1 : Int) true (14 : Int) (14 : Int) (16 : Int) (0 : Int)]]) = !false → false = true)) ∧ ((!(decide ((cfauR (makeP (some (MapD.mk (2 : Int) [(0 : Int), (5
  : Int), (7 : Int), (0 : Int)])) [Driver.mk (4 : Int) (3 : Int) (1 : Int) (1 : Int) (30 : Int) false] [Order.mk (1 : Int) (3 : Int) (0 : Int) (2 : Int) (9 : Int) (1 : Int) (1 : Int) (0 : Int) (20 : Int) (2 : Int)] [Route.mk (4 : Int) (0 :
  Int) [Stop.mk (1 : Int) false, Stop.mk (1 : Int) true]])).spot = (0 : Int)) && (decide ((cfauR (makeP (some (MapD.mk (2 : Int) [(0 : Int), (5 : Int), (7 : Int), (0 : Int)])) [Driver.mk (4 : Int) (3 : Int) (1 : Int) (1 : Int) (30 : Int)
  false] [Order.mk (1 : Int) (3 : Int) (0 : Int) (2 : Int) (9 : Int) (1 : Int) (1 : Int) (0 : Int) (20 : Int) (2 : Int)] [Route.mk (4 : Int) (0 : Int) [Stop.mk (1 : Int) false, Stop.mk (1 : Int) true]])).why = (0 : Int)) && true))) = !false →
  false = true)) ∧ ((!decide ((0 : Int) = (0 : Int))) = !false → false = true)
theorem certRuns_told (hc : CsOk Try.prog certRuns_cs) (h : certRuns_vc) : Told Try.prog 9 certRuns_con := told (A := certRuns_la) tabOk mixed hc Try.func9 (by kernel_rfl) (by kernel_rfl) h
end Go.Eng

/- A certificate that is right is what is made: plain laws. -/
set_option linter.unusedVariables false
set_option linter.unusedSimpArgs false
namespace Go.Eng
open Go Go.Proofs
theorem stop_visit {m : MapD} {d : Driver} {os : List Order} {ah : List Stop} {v : Visit} {p : Pos} (hk : knownO (some m) os = true) (hns : stands ah v.stop = false) :
    tryStop m d os ah v.stop p = .ok v ↔ (findO os v.order).isSome = true ∧ (v.drop = true → stands ah ⟨v.order, false⟩ = true) ∧ nextE m d (fo os v.order) p.now p.load v p.pos = 0 := by
  have hsite : stopSite os v.stop = siteOf (fo os v.order) v.drop := rfl
  have hload : loadOf os v.stop p.load = loadN (fo os v.order) v p.load := rfl
  have hserved : served m p.pos p.now (stopSite os v.stop) d.hi = if (begin_ (siteOf (fo os v.order) v.drop).win (p.now + tm m p.pos (siteOf (fo os v.order) v.drop).pl)).2 && decide ((begin_ (siteOf (fo os v.order) v.drop).win (p.now + tm m p.pos (siteOf (fo os v.order) v.drop).pl)).1 + (siteOf (fo os v.order) v.drop).sv ≤ d.hi) then some ((begin_ (siteOf (fo os v.order) v.drop).win (p.now + tm m p.pos (siteOf (fo os v.order) v.drop).pl)).1, (begin_ (siteOf (fo os v.order) v.drop).win (p.now + tm m p.pos (siteOf (fo os v.order) v.drop).pl)).1 + (siteOf (fo os v.order) v.drop).sv) else none := rfl
  constructor
  · intro h
    unfold tryStop at h
    split at h
    · cases h
    · rename_i hw
      have hw : wrongE os ah v.stop = 0 := by simpa using hw
      split at h
      · cases h
      · rename_i hr
        split at h
        · cases h
        · rename_i b hb
          have hfind : (findO os v.order).isSome = true := wrongE_some hw
          refine ⟨hfind, fun hd => ?_, ?_⟩
          · cases e : stands ah ⟨v.order, false⟩ with
            | true => rfl
            | false =>
              unfold wrongE at hw
              have hfn : ¬ (findO os v.stop.order).isNone = true := by show ¬ (findO os v.order).isNone = true; simpa [Option.isSome_iff_ne_none] using hfind
              rw [if_neg hfn, if_neg (by rw [hns]; simp)] at hw
              have : v.stop.drop = true := hd
              rw [if_pos (by rw [this, show v.stop.order = v.order from rfl, e]; rfl)] at hw
              cases hw
          · rw [hserved] at hb
            split at hb
            · rename_i hc
              simp only [Bool.and_eq_true, decide_eq_true_eq] at hc
              injection hb with hb
              injection h with h
              rw [hload] at h hr
              rw [hsite] at h
              have f1 : v.arrive = p.now + tm m p.pos (siteOf (fo os v.order) v.drop).pl := (congrArg Visit.arrive h).symm
              have f2 : v.start = b.1 := (congrArg Visit.start h).symm
              have f3 : v.leave = b.2 := (congrArg Visit.leave h).symm
              have f4 : v.load = loadN (fo os v.order) v p.load := (congrArg Visit.load h).symm
              rw [nextE_late f4 (by omega), if_neg]
              unfold lateN
              rw [← f1] at hb hc
              simp only [Bool.or_eq_true, Bool.not_eq_true', decide_eq_true_eq, not_or, ne_eq, Decidable.not_not, Bool.not_eq_false, Int.not_lt]
              subst hb
              exact ⟨⟨⟨⟨f1, hc.1⟩, f2⟩, f3⟩, by rw [f3]; exact hc.2⟩
            · cases hb
  · rintro ⟨h1, h2, h3⟩
    obtain ⟨z1, z2, z3, z4, z5, z6, z7⟩ := nextE_zero h3
    have hw : wrongE os ah v.stop = 0 := by
      unfold wrongE
      have hfn : ¬ (findO os v.stop.order).isNone = true := by show ¬ (findO os v.order).isNone = true; simpa [Option.isSome_iff_ne_none] using h1
      rw [if_neg hfn, if_neg (by rw [hns]; simp), if_neg]
      show ¬ (v.drop && !stands ah ⟨v.order, false⟩) = true
      cases hd : v.drop with
      | false => simp
      | true => simp [h2 hd]
    rw [z3] at z4 z5 z6
    have hc : ((begin_ (siteOf (fo os v.order) v.drop).win (p.now + tm m p.pos (siteOf (fo os v.order) v.drop).pl)).2 && decide ((begin_ (siteOf (fo os v.order) v.drop).win (p.now + tm m p.pos (siteOf (fo os v.order) v.drop).pl)).1 + (siteOf (fo os v.order) v.drop).sv ≤ d.hi)) = true := by
      rw [z4, ← z6]; simpa using z7
    rw [if_pos hc] at hserved
    unfold tryStop
    rw [hserved, hw, hload, hsite]
    rw [if_neg (by simp), if_neg (by omega)]
    dsimp only
    rw [← z6, ← z5, ← z3, ← z1]
    cases v; rfl
theorem check_drive {m : MapD} {d : Driver} {os : List Order} (hk : knownO (some m) os = true) : ∀ (l : List Visit) (ah : List Stop) (p : Pos), Paired ah → p.load = carried ah os → (ah ++ l.map Visit.stop).Nodup →
    (checkGo m d os ah l p = 0 ↔ driveGo m d os ah (l.map Visit.stop) p = .ok l)
  | [], ah, p, hP, hl, hn => by
    obtain ⟨_, hs, _⟩ := known_iff.1 hk
    have hp := carried_pos (ahead := ah) (os := os) fun o ho => by have := (orderE_ok (hs o ho)).size; omega
    simp only [checkGo, driveGo, List.map_nil]
    by_cases h : 0 < p.load
    · rw [if_neg (by omega), if_pos h]; simp
    · rw [if_pos (by omega), if_neg h]; simp
  | v :: l, ah, p, hP, hl, hn => by
    have hns : stands ah v.stop = false := by
      rw [← Bool.not_eq_true, stands_iff]
      intro q
      have := List.nodup_append.1 hn
      exact this.2.2 v.stop q v.stop (by simp) rfl
    have hsv := stop_visit (m := m) (d := d) (p := p) hk hns
    have hn' : ((ah ++ [v.stop]) ++ l.map Visit.stop).Nodup := by simpa using hn
    rw [List.map_cons, driveGo]
    constructor
    · intro h
      obtain ⟨s1, s2⟩ := checkGo_step (W := 0) h.symm
      cases hf : (findO os v.order).isSome with
      | false => exact absurd (s1 hf) (by decide)
      | true =>
        obtain ⟨t1, t2⟩ := s2 hf
        have hpk : v.drop = true → stands ah ⟨v.order, false⟩ = true := fun hd => by
          cases e : stands ah ⟨v.order, false⟩ with
          | true => rfl
          | false => exact absurd (t1 hd e) (by decide)
        obtain ⟨u1, u2⟩ := t2 hpk
        have hz : nextE m d (fo os v.order) p.now p.load v p.pos = 0 := by
          by_cases z : nextE m d (fo os v.order) p.now p.load v p.pos = 0
          · exact z
          · exact absurd (u1 z).symm z
        have ht := hsv.2 ⟨hf, hpk, hz⟩
        have hw : wrongE os ah v.stop = 0 := by
          unfold tryStop at ht
          split at ht
          · cases ht
          · rename_i hw; simpa using hw
        obtain ⟨p1, p2⟩ := load_step hk hw hP hl
        have hL : v.load = loadOf os v.stop p.load := (nextE_zero hz).1
        have ih := check_drive (d := d) hk l (ah ++ [v.stop]) ⟨v.leave, (siteOf (fo os v.order) v.drop).pl, v.load⟩ p1 (by show v.load = _; rw [hL]; exact p2) hn'
        have := ih.1 (u2 hz).symm
        rw [ht]
        dsimp only
        rw [show after os v.stop v = ⟨v.leave, (siteOf (fo os v.order) v.drop).pl, v.load⟩ from rfl, this]
    · intro h
      split at h
      · cases h
      · rename_i v' ht
        split at h
        · cases h
        · rename_i vs hd
          injection h with h
          injection h with h1 h2
          subst h1 h2
          obtain ⟨g1, g2, g3⟩ := hsv.1 ht
          have hw : wrongE os ah v'.stop = 0 := by
            unfold tryStop at ht
            split at ht
            · cases ht
            · rename_i hw; simpa using hw
          obtain ⟨p1, p2⟩ := load_step hk hw hP hl
          have hL : v'.load = loadOf os v'.stop p.load := (nextE_zero g3).1
          have ih := check_drive (d := d) hk vs (ah ++ [v'.stop]) ⟨v'.leave, (siteOf (fo os v'.order) v'.drop).pl, v'.load⟩ p1 (by show v'.load = _; rw [hL]; exact p2) hn'
          obtain ⟨s1, s2⟩ := checkGo_step (W := checkGo m d os ah (v' :: vs) p) rfl
          rw [((s2 g1).2 g2).2 g3]
          exact ih.2 hd
theorem drive_stops {m : MapD} {d : Driver} {os : List Order} : ∀ (ss ah : List Stop) (p : Pos) (l : List Visit), driveGo m d os ah ss p = .ok l → l.map Visit.stop = ss
  | [], ah, p, l, h => by
    rw [driveGo] at h
    split at h
    · cases h
    · injection h with h; subst h; rfl
  | s :: ss, ah, p, l, h => by
    rw [driveGo] at h
    split at h
    · cases h
    · rename_i v hv
      split at h
      · cases h
      · rename_i vs hd
        injection h with h
        subst h
        rw [List.map_cons, drive_stops ss _ _ _ hd]
        congr 1
        unfold tryStop at hv
        split at hv
        · cases hv
        · split at hv
          · cases hv
          · split at hv
            · cases hv
            · injection hv with hv; subst hv; rfl
theorem checked_drive {m : MapD} {d : Driver} {os : List Order} {ss : List Stop} {l : List Visit} (h : CheckPre m d os ss) : checkedE m d os ss l = 0 ↔ driveT m d os ss = .ok l := by
  have hcd := fun hsh : l.map Visit.stop = ss => check_drive (d := d) h.timed.known l [] ⟨d.lo, d.home, 0⟩ (fun id hh => (by cases hh)) (carried_nil os).symm (by rw [hsh]; simpa using h.nodup)
  unfold checkedE
  constructor
  · intro hh
    split at hh
    · rename_i hsh
      have := (hcd hsh).1 hh
      rw [hsh] at this; exact this
    · cases hh
  · intro hh
    have hsh := drive_stops _ _ _ _ hh
    rw [if_pos hsh]
    refine (hcd hsh).2 ?_
    rw [hsh]; exact hh
theorem only_go {m : MapD} {ds : List Driver} {os : List Order} (hm : MapOk m) : ∀ (p : List Route) (c : List (List Visit)) (i : Nat), (∀ r ∈ p, ∀ d ∈ ds, CheckPre m d os r.stops ∧ drive (some m) d os r.stops = driveT m d os r.stops) → c.length = p.length →
    (good (checkAll m ds os i p c) = true ↔ makeGo m ds os i p = .ok c)
  | [], [], i, _, _ => by simp [checkAll, makeGo, good]
  | [], _ :: _, i, _, h => by simp at h
  | _ :: _, [], i, _, h => by simp at h
  | r :: p, l :: c, i, h, hl => by
    obtain ⟨s1, s2⟩ := checkAll_step (W := checkAll m ds os i (r :: p) (l :: c)) rfl
    rw [makeGo]
    cases hd : findD r.driver ds with
    | none => rw [s1 hd]; simp [good]
    | some d =>
      obtain ⟨t1, t2⟩ := s2 d hd
      obtain ⟨hc, hdr⟩ := h r (by simp) d (findD_mem hd).1
      dsimp only
      rw [hdr]
      by_cases z : checkedE m d os r.stops l = 0
      · rw [t2 z, (checked_drive hc).1 z]
        dsimp only
        rw [only_go hm p c (i + 1) (fun q hq => h q (by simp [hq])) (by simpa using hl)]
        cases makeGo m ds os (i + 1) p <;> simp
      · rw [t1 z]
        have hne : good ⟨(i : Int), checkedE m d os r.stops l⟩ = false := by simp [good, z]
        rw [hne]
        simp only [Bool.false_eq_true, false_iff]
        intro hh
        cases hv : driveT m d os r.stops with
        | error f => rw [hv] at hh; cases hh
        | ok v =>
          rw [hv] at hh
          dsimp only at hh
          split at hh
          · cases hh
          · injection hh with hh
            injection hh with h1 h2
            subst h1
            exact z ((checked_drive hc).2 hv)
theorem makeGo_length {m : MapD} {ds : List Driver} {os : List Order} : ∀ (p : List Route) (i : Nat) (v : List (List Visit)), makeGo m ds os i p = .ok v → v.length = p.length
  | [], i, v, h => by rw [makeGo] at h; injection h with h; subst h; rfl
  | r :: p, i, v, h => by
    rw [makeGo] at h
    split at h
    · cases h
    · split at h
      · cases h
      · split at h
        · cases h
        · rename_i vs hv
          injection h with h
          subst h
          simp [makeGo_length p (i + 1) vs hv]
theorem makeGo_why {m : MapD} {ds : List Driver} {os : List Order} {P : List Route} (hall : ∀ r ∈ P, ∀ d ∈ ds, CheckPre m d os r.stops ∧ drive (some m) d os r.stops = driveT m d os r.stops) : ∀ (p : List Route) (i : Nat) (f : Fault), (∀ r, r ∈ p → r ∈ P) → makeGo m ds os i p = .error f → f.why ≠ 0
  | [], i, f, _, h => by rw [makeGo] at h; cases h
  | r :: p, i, f, hp, h => by
    rw [makeGo] at h
    split at h
    · injection h with h; subst h; simp
    · rename_i d hd
      split at h
      · rename_i f' hf
        injection h with h
        subst h
        rw [(hall r (hp r (by simp)) d (findD_mem hd).1).2] at hf
        show f'.why ≠ 0
        exact driveGo_why hf
      · split at h
        · rename_i f' hf
          injection h with h
          subst h
          exact makeGo_why hall p (i + 1) f' (fun q hq => hp q (by simp [hq])) hf
        · cases h
theorem only_law {m : MapD} {ds : List Driver} {os : List Order} {p : List Route} {c : List (List Visit)} (hm : MapOk m) : good (checkP (some m) ds os p c) = true ↔ good (cfauR (makeP (some m) ds os p)) = true ∧ c = certR (makeP (some m) ds os p) := by
  by_cases hw : wellP (some m) ds os p = true
  · have hM : makeP (some m) ds os p = makeGo m ds os 0 p := by simp [makeP, hw]
    rw [hM]
    have hall : ∀ r ∈ p, ∀ d ∈ ds, CheckPre m d os r.stops ∧ drive (some m) d os r.stops = driveT m d os r.stops := fun r hr d hd => ⟨well_check hm hw hr hd, well_drive hw hr hd⟩
    by_cases hl : c.length = p.length
    · have hP : checkP (some m) ds os p c = checkAll m ds os 0 p c := by simp [checkP, hw, hl]
      rw [hP, only_go hm p c 0 hall hl]
      cases hG : makeGo m ds os 0 p with
      | ok v => simp [cfauR, certR, good, eq_comm]
      | error f =>
        have hne := makeGo_why (m := m) (ds := ds) (os := os) hall p 0 f (fun _ h => h) hG
        simp [cfauR, good, hne]
    · have hP : checkP (some m) ds os p c = ⟨0, 4⟩ := by simp [checkP, hw, hl]
      rw [hP]
      simp only [good, Bool.decide_eq_true, Int.reduceEq, false_iff, decide_false, Bool.false_eq_true]
      rintro ⟨h1, h2⟩
      cases hG : makeGo m ds os 0 p with
      | ok v =>
        rw [hG] at h2
        exact hl (by rw [h2]; exact makeGo_length p 0 v hG)
      | error f =>
        have hne := makeGo_why (m := m) (ds := ds) (os := os) hall p 0 f (fun _ h => h) hG
        rw [hG] at h1
        simp [cfauR, hne] at h1
  · have hM : makeP (some m) ds os p = .error ⟨0, 1⟩ := by simp [makeP, hw]
    have hP : checkP (some m) ds os p c = ⟨0, 1⟩ := by simp [checkP, hw]
    rw [hM, hP]
    simp [cfauR, good]
end Go.Eng

/- Chapter 10's runs. -/
set_option linter.unusedVariables false
set_option linter.unusedSimpArgs false
namespace Go.Eng
open Go Go.Proofs
theorem certRuns_ok : certRuns_vc := by
  have hm : ∀ (x : MapD), some ⟨2, [0, 5, 7, 0]⟩ = some x → MapOk x := mapOkO_some (by decide)
  have rA : rightP [⟨4, 0, [⟨1, false⟩, ⟨1, true⟩]⟩] = true := rightP_iff.2 ⟨by simp, by simp [okR, okR1, okS]⟩
  have kO : knownO (some ⟨2, [0, 5, 7, 0]⟩) [⟨1, 3, 0, 2, 9, 1, 1, 0, 20, 2⟩] = true := by kernel_rfl
  have kN : knownO (some ⟨2, [0, 5, 7, 0]⟩) [] = true := by kernel_rfl
  have dO : okD (some ⟨2, [0, 5, 7, 0]⟩) [⟨4, 3, 1, 1, 30, false⟩] 0 = true := by kernel_rfl
  have dl : ∀ k, k < [(⟨4, 3, 1, 1, 30, false⟩ : Driver)].length → okD (some ⟨2, [0, 5, 7, 0]⟩) [⟨4, 3, 1, 1, 30, false⟩] k = true := fun k hk => by
    have : k = 0 := by simpa using hk
    rw [this]; exact dO
  have w1 : wellP (some ⟨2, [0, 5, 7, 0]⟩) [⟨4, 3, 1, 1, 30, false⟩] [⟨1, 3, 0, 2, 9, 1, 1, 0, 20, 2⟩] [⟨4, 0, [⟨1, false⟩, ⟨1, true⟩]⟩] = true := wellP_iff.2 ⟨rfl, by decide, kO, rA, dl⟩
  have w2 : wellP (some ⟨2, [0, 5, 7, 0]⟩) [] [⟨1, 3, 0, 2, 9, 1, 1, 0, 20, 2⟩] [⟨4, 0, [⟨1, false⟩, ⟨1, true⟩]⟩] = true := wellP_iff.2 ⟨rfl, by decide, kO, rA, fun k hk => by simp at hk⟩
  have w3 : wellP (some ⟨2, [0, 5, 7, 0]⟩) [⟨4, 3, 1, 1, 30, false⟩] [] [⟨4, 0, [⟨1, false⟩, ⟨1, true⟩]⟩] = true := wellP_iff.2 ⟨rfl, by decide, kN, rA, dl⟩
  have b1 : makeP (some ⟨2, [0, 5, 7, 0]⟩) [⟨4, 3, 1, 1, 30, false⟩] [⟨1, 3, 0, 2, 9, 1, 1, 0, 20, 2⟩] [⟨4, 0, [⟨1, false⟩, ⟨1, true⟩]⟩] = .ok [[⟨1, false, 8, 8, 9, 3⟩, ⟨1, true, 14, 14, 16, 0⟩]] := by
    simp only [makeP, w1, if_true]; kernel_rfl
  have b2 : makeP (some ⟨2, [0, 5, 7, 0]⟩) [] [⟨1, 3, 0, 2, 9, 1, 1, 0, 20, 2⟩] [⟨4, 0, [⟨1, false⟩, ⟨1, true⟩]⟩] = .error ⟨0, 8⟩ := by
    simp only [makeP, w2, if_true]; kernel_rfl
  have b3 : makeP (some ⟨2, [0, 5, 7, 0]⟩) [⟨4, 3, 1, 1, 30, false⟩] [] [⟨4, 0, [⟨1, false⟩, ⟨1, true⟩]⟩] = .error ⟨0, 8⟩ := by
    simp only [makeP, w3, if_true]; kernel_rfl
  have ck : ∀ c, checkP (some ⟨2, [0, 5, 7, 0]⟩) [⟨4, 3, 1, 1, 30, false⟩] [⟨1, 3, 0, 2, 9, 1, 1, 0, 20, 2⟩] [⟨4, 0, [⟨1, false⟩, ⟨1, true⟩]⟩] c = if c.length = 1 then checkAll ⟨2, [0, 5, 7, 0]⟩ [⟨4, 3, 1, 1, 30, false⟩] [⟨1, 3, 0, 2, 9, 1, 1, 0, 20, 2⟩] 0 [⟨4, 0, [⟨1, false⟩, ⟨1, true⟩]⟩] c else ⟨0, 4⟩ := fun c => by
    simp only [checkP, w1, if_true]; rfl
  have c1 : checkAll ⟨2, [0, 5, 7, 0]⟩ [⟨4, 3, 1, 1, 30, false⟩] [⟨1, 3, 0, 2, 9, 1, 1, 0, 20, 2⟩] 0 [⟨4, 0, [⟨1, false⟩, ⟨1, true⟩]⟩] [[⟨1, false, 8, 8, 9, 3⟩, ⟨1, true, 14, 14, 16, 0⟩]] = ⟨0, 0⟩ := by kernel_rfl
  have c2 : checkAll ⟨2, [0, 5, 7, 0]⟩ [⟨4, 3, 1, 1, 30, false⟩] [⟨1, 3, 0, 2, 9, 1, 1, 0, 20, 2⟩] 0 [⟨4, 0, [⟨1, false⟩, ⟨1, true⟩]⟩] [[⟨1, false, 8, 8, 9, 3⟩, ⟨1, true, 14, 14, 17, 0⟩]] = ⟨0, 15⟩ := by kernel_rfl
  have c3 : checkAll ⟨2, [0, 5, 7, 0]⟩ [⟨4, 3, 1, 1, 30, false⟩] [⟨1, 3, 0, 2, 9, 1, 1, 0, 20, 2⟩] 0 [⟨4, 0, [⟨1, false⟩, ⟨1, true⟩]⟩] [[⟨1, false, 8, 8, 9, 2⟩, ⟨1, true, 14, 14, 16, 0⟩]] = ⟨0, 14⟩ := by kernel_rfl
  have c4 : checkAll ⟨2, [0, 5, 7, 0]⟩ [⟨4, 3, 1, 1, 30, false⟩] [⟨1, 3, 0, 2, 9, 1, 1, 0, 20, 2⟩] 0 [⟨4, 0, [⟨1, false⟩, ⟨1, true⟩]⟩] [[⟨1, false, 8, 8, 9, 3⟩]] = ⟨0, 4⟩ := by kernel_rfl
  have mem1 : ∀ {p : List Visit → Prop} {x : List Visit}, (∀ l, List.Mem l [x] → p l) ↔ p x := fun {p x} => ⟨fun h => h x (.head _), fun h l hl => by cases hl with | head => exact h | tail _ h => cases h⟩
  unfold certRuns_vc
  simp only [bad_false, int0, nilOf, decide_eq_true_eq, decide_eq_false_iff_not, Bool.not_eq_true', Bool.not_eq_false', Bool.not_true, Bool.not_false, Bool.false_eq_true, Bool.true_eq_false, eq_self, true_and, and_true, false_or, or_false, false_implies, true_implies, implies_true, Int.not_lt, Int.not_le, gt_iff_lt, ge_iff_le, ne_eq, eq_true hm]
  simp [b1, b2, b3, ck, mem1, certR, cfauR, same_self]
  simp [c1, c2, c3, c4, part]
theorem certRuns_t : Told Try.prog 9 yes_con := certRuns_told (csOk_cons newC_t (csOk_cons cmake_t (csOk_cons ccopied_t (csOk_cons clists_t (csOk_cons ccheck_t csOk_nil))))) certRuns_ok
end Go.Eng

/- The conditions of functions, as print.. of the engine told them. -/
set_option linter.unusedVariables false
namespace Go.Eng
open Go Go.Proofs
def certChecks_vc : Prop :=
  ∀ (x : WorldD), (LenOk x.times.length ∧ LenOk x.drivers.length ∧ LenOk x.orders.length ∧ LenOk x.plan.length ∧ ∀ (r : Route), List.Mem r x.plan → LenOk r.stops.length) → ∀ (x_2 : List (List Visit)), (LenOk x_2.length ∧ ∀ (r : List Visit),
  List.Mem r x_2 → LenOk r.length) → Given (pA (AV.r (SK.world.enc x)) ∧ pA (AV.c (AC.a (K.rows FK.visit) x_2))) → (newE x.n x.times ≠ (0 : Int) → (x_2.length * (24 : Nat) ≤ (140737488351232 : Nat) ∧ ∀ (l : List Visit), List.Mem l x_2 →
  l.length * (48 : Nat) ≤ (140737488351232 : Nat)) ∧ (true = true → (∀ (x : MapD), none = some x → MapOk x) ∧ (∀ (x : MapD), none = some x → MapOk x) ∧ ((decide ((checkP none x.drivers x.orders x.plan x_2).spot = (checkP none x.drivers
  x.orders x.plan x_2).spot) && (decide ((checkP none x.drivers x.orders x.plan x_2).why = (checkP none x.drivers x.orders x.plan x_2).why) && true)) = true → (same x_2 x_2 = true → true = true) ∧ (same x_2 x_2 = !true → false = true)) ∧
  ((decide ((checkP none x.drivers x.orders x.plan x_2).spot = (checkP none x.drivers x.orders x.plan x_2).spot) && (decide ((checkP none x.drivers x.orders x.plan x_2).why = (checkP none x.drivers x.orders x.plan x_2).why) && true)) = !true
  → false = true)) ∧ (true = !true → false = true)) ∧ (newE x.n x.times = (0 : Int) → (x_2.length * (24 : Nat) ≤ (140737488351232 : Nat) ∧ ∀ (l : List Visit), List.Mem l x_2 → l.length * (48 : Nat) ≤ (140737488351232 : Nat)) ∧ (true = true →
  (∀ (x_7 : MapD), some (MapD.mk x.n x.times) = some x_7 → MapOk x_7) ∧ (∀ (x_7 : MapD), some (MapD.mk x.n x.times) = some x_7 → MapOk x_7) ∧ ((decide ((checkP (some (MapD.mk x.n x.times)) x.drivers x.orders x.plan x_2).spot = (checkP (some
  (MapD.mk x.n x.times)) x.drivers x.orders x.plan x_2).spot) && (decide ((checkP (some (MapD.mk x.n x.times)) x.drivers x.orders x.plan x_2).why = (checkP (some (MapD.mk x.n x.times)) x.drivers x.orders x.plan x_2).why) && true)) = true →
  (same x_2 x_2 = true → true = true) ∧ (same x_2 x_2 = !true → false = true)) ∧ ((decide ((checkP (some (MapD.mk x.n x.times)) x.drivers x.orders x.plan x_2).spot = (checkP (some (MapD.mk x.n x.times)) x.drivers x.orders x.plan x_2).spot) &&
  (decide ((checkP (some (MapD.mk x.n x.times)) x.drivers x.orders x.plan x_2).why = (checkP (some (MapD.mk x.n x.times)) x.drivers x.orders x.plan x_2).why) && true)) = !true → false = true)) ∧ (true = !true → false = true))
theorem certChecks_told (hc : CsOk Try.prog certChecks_cs) (h : certChecks_vc) : Told Try.prog 11 certChecks_con := told (A := certChecks_la) tabOk mixed hc Try.func11 (by kernel_rfl) (by kernel_rfl) h
end Go.Eng

/- The conditions of functions, as print.. of the engine told them. -/
set_option linter.unusedVariables false
namespace Go.Eng
open Go Go.Proofs
def certOnly_vc : Prop :=
  ∀ (x : WorldD), (LenOk x.times.length ∧ LenOk x.drivers.length ∧ LenOk x.orders.length ∧ LenOk x.plan.length ∧ ∀ (r : Route), List.Mem r x.plan → LenOk r.stops.length) → ∀ (x_2 : List (List Visit)), (LenOk x_2.length ∧ ∀ (r : List Visit),
  List.Mem r x_2 → LenOk r.length) → ∀ (x_4 : Bool), Given (pA (AV.r (SK.world.enc x)) ∧ pA (AV.c (AC.a (K.rows FK.visit) x_2)) ∧ pA (AV.c (AC.b x_4))) → (newE x.n x.times ≠ (0 : Int) → ((!true) = true → false = true) ∧ ((!true) = false → (∀
  (x : MapD), none = some x → MapOk x) ∧ (x_4 = true → ((certR (makeP none x.drivers x.orders x.plan)).length * (24 : Nat) ≤ (140737488351232 : Nat) ∧ ∀ (l : List Visit), List.Mem l (certR (makeP none x.drivers x.orders x.plan)) → l.length *
  (48 : Nat) ≤ (140737488351232 : Nat)) ∧ (∀ (x : MapD), none = some x → MapOk x) ∧ (good (cfauR (makeP none x.drivers x.orders x.plan)) = true → ((good (checkP none x.drivers x.orders x.plan (certR (makeP none x.drivers x.orders x.plan))) ==
  same (certR (makeP none x.drivers x.orders x.plan)) (certR (makeP none x.drivers x.orders x.plan))) = true → (good (cfauR (makeP none x.drivers x.orders x.plan)) = false → (decide ((↑(certR (makeP none x.drivers x.orders x.plan)).length :
  Int) = (0 : Int)) = true → true = true) ∧ (decide ((↑(certR (makeP none x.drivers x.orders x.plan)).length : Int) = (0 : Int)) = !true → false = true)) ∧ (good (cfauR (makeP none x.drivers x.orders x.plan)) = !false → true = true)) ∧ ((good
  (checkP none x.drivers x.orders x.plan (certR (makeP none x.drivers x.orders x.plan))) == same (certR (makeP none x.drivers x.orders x.plan)) (certR (makeP none x.drivers x.orders x.plan))) = !true → false = true)) ∧ (good (cfauR (makeP
  none x.drivers x.orders x.plan)) = !true → ((good (checkP none x.drivers x.orders x.plan (certR (makeP none x.drivers x.orders x.plan))) == false) = true → (good (cfauR (makeP none x.drivers x.orders x.plan)) = false → (decide ((↑(certR
  (makeP none x.drivers x.orders x.plan)).length : Int) = (0 : Int)) = true → true = true) ∧ (decide ((↑(certR (makeP none x.drivers x.orders x.plan)).length : Int) = (0 : Int)) = !true → false = true)) ∧ (good (cfauR (makeP none x.drivers
  x.orders x.plan)) = !false → true = true)) ∧ ((good (checkP none x.drivers x.orders x.plan (certR (makeP none x.drivers x.orders x.plan))) == false) = !true → false = true))) ∧ (x_4 = false → (∀ (x : MapD), none = some x → MapOk x) ∧ (good
  (cfauR (makeP none x.drivers x.orders x.plan)) = true → ((good (checkP none x.drivers x.orders x.plan x_2) == same x_2 (certR (makeP none x.drivers x.orders x.plan))) = true → (good (cfauR (makeP none x.drivers x.orders x.plan)) = false →
  (decide ((↑(certR (makeP none x.drivers x.orders x.plan)).length : Int) = (0 : Int)) = true → true = true) ∧ (decide ((↑(certR (makeP none x.drivers x.orders x.plan)).length : Int) = (0 : Int)) = !true → false = true)) ∧ (good (cfauR (makeP
  none x.drivers x.orders x.plan)) = !false → true = true)) ∧ ((good (checkP none x.drivers x.orders x.plan x_2) == same x_2 (certR (makeP none x.drivers x.orders x.plan))) = !true → false = true)) ∧ (good (cfauR (makeP none x.drivers
  x.orders x.plan)) = !true → ((good (checkP none x.drivers x.orders x.plan x_2) == false) = true → (good (cfauR (makeP none x.drivers x.orders x.plan)) = false → (decide ((↑(certR (makeP none x.drivers x.orders x.plan)).length : Int) = (0 :
  Int)) = true → true = true) ∧ (decide ((↑(certR (makeP none x.drivers x.orders x.plan)).length : Int) = (0 : Int)) = !true → false = true)) ∧ (good (cfauR (makeP none x.drivers x.orders x.plan)) = !false → true = true)) ∧ ((good (checkP
  none x.drivers x.orders x.plan x_2) == false) = !true → false = true))))) ∧ (newE x.n x.times = (0 : Int) → ((!true) = true → false = true) ∧ ((!true) = false → (∀ (x_8 : MapD), some (MapD.mk x.n x.times) = some x_8 → MapOk x_8) ∧ (x_4 =
  true → ((certR (makeP (some (MapD.mk x.n x.times)) x.drivers x.orders x.plan)).length * (24 : Nat) ≤ (140737488351232 : Nat) ∧ ∀ (l : List Visit), List.Mem l (certR (makeP (some (MapD.mk x.n x.times)) x.drivers x.orders x.plan)) → l.length
  * (48 : Nat) ≤ (140737488351232 : Nat)) ∧ (∀ (x_9 : MapD), some (MapD.mk x.n x.times) = some x_9 → MapOk x_9) ∧ (good (cfauR (makeP (some (MapD.mk x.n x.times)) x.drivers x.orders x.plan)) = true → ((good (checkP (some (MapD.mk x.n
  x.times)) x.drivers x.orders x.plan (certR (makeP (some (MapD.mk x.n x.times)) x.drivers x.orders x.plan))) == same (certR (makeP (some (MapD.mk x.n x.times)) x.drivers x.orders x.plan)) (certR (makeP (some (MapD.mk x.n x.times)) x.drivers
  x.orders x.plan))) = true → (good (cfauR (makeP (some (MapD.mk x.n x.times)) x.drivers x.orders x.plan)) = false → (decide ((↑(certR (makeP (some (MapD.mk x.n x.times)) x.drivers x.orders x.plan)).length : Int) = (0 : Int)) = true → true =
  true) ∧ (decide ((↑(certR (makeP (some (MapD.mk x.n x.times)) x.drivers x.orders x.plan)).length : Int) = (0 : Int)) = !true → false = true)) ∧ (good (cfauR (makeP (some (MapD.mk x.n x.times)) x.drivers x.orders x.plan)) = !false → true =
  true)) ∧ ((good (checkP (some (MapD.mk x.n x.times)) x.drivers x.orders x.plan (certR (makeP (some (MapD.mk x.n x.times)) x.drivers x.orders x.plan))) == same (certR (makeP (some (MapD.mk x.n x.times)) x.drivers x.orders x.plan)) (certR
  (makeP (some (MapD.mk x.n x.times)) x.drivers x.orders x.plan))) = !true → false = true)) ∧ (good (cfauR (makeP (some (MapD.mk x.n x.times)) x.drivers x.orders x.plan)) = !true → ((good (checkP (some (MapD.mk x.n x.times)) x.drivers
  x.orders x.plan (certR (makeP (some (MapD.mk x.n x.times)) x.drivers x.orders x.plan))) == false) = true → (good (cfauR (makeP (some (MapD.mk x.n x.times)) x.drivers x.orders x.plan)) = false → (decide ((↑(certR (makeP (some (MapD.mk x.n
  x.times)) x.drivers x.orders x.plan)).length : Int) = (0 : Int)) = true → true = true) ∧ (decide ((↑(certR (makeP (some (MapD.mk x.n x.times)) x.drivers x.orders x.plan)).length : Int) = (0 : Int)) = !true → false = true)) ∧ (good (cfauR
  (makeP (some (MapD.mk x.n x.times)) x.drivers x.orders x.plan)) = !false → true = true)) ∧ ((good (checkP (some (MapD.mk x.n x.times)) x.drivers x.orders x.plan (certR (makeP (some (MapD.mk x.n x.times)) x.drivers x.orders x.plan))) ==
  false) = !true → false = true))) ∧ (x_4 = false → (∀ (x_9 : MapD), some (MapD.mk x.n x.times) = some x_9 → MapOk x_9) ∧ (good (cfauR (makeP (some (MapD.mk x.n x.times)) x.drivers x.orders x.plan)) = true → ((good (checkP (some (MapD.mk x.n
  x.times)) x.drivers x.orders x.plan x_2) == same x_2 (certR (makeP (some (MapD.mk x.n x.times)) x.drivers x.orders x.plan))) = true → (good (cfauR (makeP (some (MapD.mk x.n x.times)) x.drivers x.orders x.plan)) = false → (decide ((↑(certR
  (makeP (some (MapD.mk x.n x.times)) x.drivers x.orders x.plan)).length : Int) = (0 : Int)) = true → true = true) ∧ (decide ((↑(certR (makeP (some (MapD.mk x.n x.times)) x.drivers x.orders x.plan)).length : Int) = (0 : Int)) = !true → false
  = true)) ∧ (good (cfauR (makeP (some (MapD.mk x.n x.times)) x.drivers x.orders x.plan)) = !false → true = true)) ∧ ((good (checkP (some (MapD.mk x.n x.times)) x.drivers x.orders x.plan x_2) == same x_2 (certR (makeP (some (MapD.mk x.n
  x.times)) x.drivers x.orders x.plan))) = !true → false = true)) ∧ (good (cfauR (makeP (some (MapD.mk x.n x.times)) x.drivers x.orders x.plan)) = !true → ((good (checkP (some (MapD.mk x.n x.times)) x.drivers x.orders x.plan x_2) == false) =
  true → (good (cfauR (makeP (some (MapD.mk x.n x.times)) x.drivers x.orders x.plan)) = false → (decide ((↑(certR (makeP (some (MapD.mk x.n x.times)) x.drivers x.orders x.plan)).length : Int) = (0 : Int)) = true → true = true) ∧ (decide
  ((↑(certR (makeP (some (MapD.mk x.n x.times)) x.drivers x.orders x.plan)).length : Int) = (0 : Int)) = !true → false = true)) ∧ (good (cfauR (makeP (some (MapD.mk x.n x.times)) x.drivers x.orders x.plan)) = !false → true = true)) ∧ ((good
  (checkP (some (MapD.mk x.n x.times)) x.drivers x.orders x.plan x_2) == false) = !true → false = true)))))
theorem certOnly_told (hc : CsOk Try.prog certOnly_cs) (h : certOnly_vc) : Told Try.prog 13 certOnly_con := told (A := certOnly_la) tabOk mixed hc Try.func13 (by kernel_rfl) (by kernel_rfl) h
end Go.Eng

/- The conditions of functions, as print.. of the engine told them. -/
set_option linter.unusedVariables false
namespace Go.Eng
open Go Go.Proofs
def certRoutes_vc : Prop :=
  ∀ (x : WorldD), (LenOk x.times.length ∧ LenOk x.drivers.length ∧ LenOk x.orders.length ∧ LenOk x.plan.length ∧ ∀ (r : Route), List.Mem r x.plan → LenOk r.stops.length) → Given (pA (AV.r (SK.world.enc x))) → (newE x.n x.times ≠ (0 : Int) →
  ((!true) = true → false = true) ∧ ((!true) = false → (∀ (x : MapD), none = some x → MapOk x) ∧ ((!good (cfauR (makeP none x.drivers x.orders x.plan))) = true → (decide ((↑(certR (makeP none x.drivers x.orders x.plan)).length : Int) = (0 :
  Int)) = true → (decide ((cfauR (makeP none x.drivers x.orders x.plan)).spot ≥ (0 : Int)) = true → (decide ((cfauR (makeP none x.drivers x.orders x.plan)).spot ≤ (↑x.plan.length : Int)) = true → true = true) ∧ (decide ((cfauR (makeP none
  x.drivers x.orders x.plan)).spot ≤ (↑x.plan.length : Int)) = !true → false = true)) ∧ (decide ((cfauR (makeP none x.drivers x.orders x.plan)).spot ≥ (0 : Int)) = !true → false = true)) ∧ (decide ((↑(certR (makeP none x.drivers x.orders
  x.plan)).length : Int) = (0 : Int)) = !true → false = true)) ∧ ((!good (cfauR (makeP none x.drivers x.orders x.plan))) = false → ((!decide ((↑(certR (makeP none x.drivers x.orders x.plan)).length : Int) = (↑x.plan.length : Int))) = true →
  false = true) ∧ ((!decide ((↑(certR (makeP none x.drivers x.orders x.plan)).length : Int) = (↑x.plan.length : Int))) = false → ∃ (inv : Int → PUnit → Prop), ∃ (μ : Int → PUnit → Nat), (((0 : Int) = (0 : Int) ∧ x.n = x.n ∧ x.plan = x.plan ∧
  x.orders = x.orders ∧ x.drivers = x.drivers ∧ x.times = x.times ∧ certR (makeP none x.drivers x.orders x.plan) = certR (makeP none x.drivers x.orders x.plan)) ∧ inv (0 : Int) ()) ∧ ∀ (x_7 : Int) (x_8 : PUnit), inv x_7 x_8 → (decide (x_7 <
  (↑(certR (makeP none x.drivers x.orders x.plan)).length : Int)) = true → ∃ (inv_1 : Bool → Int → Prop), ∃ (μ_1 : Bool → Int → Nat), (((x_7 = x_7 ∧ false = false ∧ (0 : Int) = (0 : Int)) ∧ x.n = x.n ∧ x.plan = x.plan ∧ x.orders = x.orders ∧
  x.drivers = x.drivers ∧ x.times = x.times ∧ certR (makeP none x.drivers x.orders x.plan) = certR (makeP none x.drivers x.orders x.plan)) ∧ inv_1 false (0 : Int)) ∧ ∀ (x_11 : Bool) (x_12 : Int), inv_1 x_11 x_12 → (decide (x_12 <
  (↑x.drivers.length : Int)) = true → ((0 : Int) ≤ x_12 ∧ x_12 < (↑x.drivers.length : Int)) ∧ x_12.toNat < x.drivers.length ∧ ((0 : Int) ≤ x_7 ∧ x_7 < (↑x.plan.length : Int)) ∧ x_7.toNat < x.plan.length ∧ ((!decide ((x.drivers.getD x_12.toNat
  FK.driver.zero).id = (x.plan.getD x_7.toNat (Route.mk (0 : Int) (0 : Int) [])).driver)) = true → ((x_7 = x_7 ∧ x_11 = x_11 ∧ wrap (x_12 + (1 : Int)) = wrap (x_12 + (1 : Int))) ∧ x.n = x.n ∧ x.plan = x.plan ∧ x.orders = x.orders ∧ x.drivers
  = x.drivers ∧ x.times = x.times ∧ certR (makeP none x.drivers x.orders x.plan) = certR (makeP none x.drivers x.orders x.plan)) ∧ inv_1 x_11 (wrap (x_12 + (1 : Int))) ∧ μ_1 x_11 (wrap (x_12 + (1 : Int))) < μ_1 x_11 x_12) ∧ ((!decide
  ((x.drivers.getD x_12.toNat FK.driver.zero).id = (x.plan.getD x_7.toNat (Route.mk (0 : Int) (0 : Int) [])).driver)) = false → ((0 : Int) ≤ x_12 ∧ x_12 < (↑x.drivers.length : Int)) ∧ x_12.toNat < x.drivers.length ∧ ((0 : Int) ≤ x_7 ∧ x_7 <
  (↑x.plan.length : Int)) ∧ x_7.toNat < x.plan.length ∧ (∀ (x : MapD), none = some x → MapOk x) ∧ ((!good (fauR (drive none (x.drivers.getD x_12.toNat FK.driver.zero) x.orders (x.plan.getD x_7.toNat (Route.mk (0 : Int) (0 : Int) [])).stops)))
  = false → ((0 : Int) ≤ x_7 ∧ x_7 < (↑(certR (makeP none x.drivers x.orders x.plan)).length : Int)) ∧ x_7.toNat < (certR (makeP none x.drivers x.orders x.plan)).length ∧ ((!same (visR (drive none (x.drivers.getD x_12.toNat FK.driver.zero)
  x.orders (x.plan.getD x_7.toNat (Route.mk (0 : Int) (0 : Int) [])).stops)) ((certR (makeP none x.drivers x.orders x.plan)).getD x_7.toNat [])) = true → false = true) ∧ ((!same (visR (drive none (x.drivers.getD x_12.toNat FK.driver.zero)
  x.orders (x.plan.getD x_7.toNat (Route.mk (0 : Int) (0 : Int) [])).stops)) ((certR (makeP none x.drivers x.orders x.plan)).getD x_7.toNat [])) = false → ((x_7 = x_7 ∧ true = true ∧ wrap (x_12 + (1 : Int)) = wrap (x_12 + (1 : Int))) ∧ x.n =
  x.n ∧ x.plan = x.plan ∧ x.orders = x.orders ∧ x.drivers = x.drivers ∧ x.times = x.times ∧ certR (makeP none x.drivers x.orders x.plan) = certR (makeP none x.drivers x.orders x.plan)) ∧ inv_1 true (wrap (x_12 + (1 : Int))) ∧ μ_1 true (wrap
  (x_12 + (1 : Int))) < μ_1 x_11 x_12)) ∧ ((!good (fauR (drive none (x.drivers.getD x_12.toNat FK.driver.zero) x.orders (x.plan.getD x_7.toNat (Route.mk (0 : Int) (0 : Int) [])).stops))) = !false → false = true))) ∧ (decide (x_12 <
  (↑x.drivers.length : Int)) = false → ((!x_11) = true → false = true) ∧ ((!x_11) = false → (wrap (x_7 + (1 : Int)) = wrap (x_7 + (1 : Int)) ∧ x.n = x.n ∧ x.plan = x.plan ∧ x.orders = x.orders ∧ x.drivers = x.drivers ∧ x.times = x.times ∧
  certR (makeP none x.drivers x.orders x.plan) = certR (makeP none x.drivers x.orders x.plan)) ∧ inv (wrap (x_7 + (1 : Int))) () ∧ μ (wrap (x_7 + (1 : Int))) () < μ x_7 x_8))) ∧ (decide (x_7 < (↑(certR (makeP none x.drivers x.orders
  x.plan)).length : Int)) = false → true = true))))) ∧ (newE x.n x.times = (0 : Int) → ((!true) = true → false = true) ∧ ((!true) = false → (∀ (x_5 : MapD), some (MapD.mk x.n x.times) = some x_5 → MapOk x_5) ∧ ((!good (cfauR (makeP (some
  (MapD.mk x.n x.times)) x.drivers x.orders x.plan))) = true → (decide ((↑(certR (makeP (some (MapD.mk x.n x.times)) x.drivers x.orders x.plan)).length : Int) = (0 : Int)) = true → (decide ((cfauR (makeP (some (MapD.mk x.n x.times)) x.drivers
  x.orders x.plan)).spot ≥ (0 : Int)) = true → (decide ((cfauR (makeP (some (MapD.mk x.n x.times)) x.drivers x.orders x.plan)).spot ≤ (↑x.plan.length : Int)) = true → true = true) ∧ (decide ((cfauR (makeP (some (MapD.mk x.n x.times))
  x.drivers x.orders x.plan)).spot ≤ (↑x.plan.length : Int)) = !true → false = true)) ∧ (decide ((cfauR (makeP (some (MapD.mk x.n x.times)) x.drivers x.orders x.plan)).spot ≥ (0 : Int)) = !true → false = true)) ∧ (decide ((↑(certR (makeP
  (some (MapD.mk x.n x.times)) x.drivers x.orders x.plan)).length : Int) = (0 : Int)) = !true → false = true)) ∧ ((!good (cfauR (makeP (some (MapD.mk x.n x.times)) x.drivers x.orders x.plan))) = false → ((!decide ((↑(certR (makeP (some
  (MapD.mk x.n x.times)) x.drivers x.orders x.plan)).length : Int) = (↑x.plan.length : Int))) = true → false = true) ∧ ((!decide ((↑(certR (makeP (some (MapD.mk x.n x.times)) x.drivers x.orders x.plan)).length : Int) = (↑x.plan.length :
  Int))) = false → ∃ (inv : Int → PUnit → Prop), ∃ (μ : Int → PUnit → Nat), (((0 : Int) = (0 : Int) ∧ (x.n = x.n ∧ x.n = x.n) ∧ x.times = x.times ∧ x.plan = x.plan ∧ x.orders = x.orders ∧ x.drivers = x.drivers ∧ x.times = x.times ∧ certR
  (makeP (some (MapD.mk x.n x.times)) x.drivers x.orders x.plan) = certR (makeP (some (MapD.mk x.n x.times)) x.drivers x.orders x.plan)) ∧ inv (0 : Int) ()) ∧ ∀ (x_7 : Int) (x_8 : PUnit), inv x_7 x_8 → (decide (x_7 < (↑(certR (makeP (some
  (MapD.mk x.n x.times)) x.drivers x.orders x.plan)).length : Int)) = true → ∃ (inv_1 : Bool → Int → Prop), ∃ (μ_1 : Bool → Int → Nat), (((x_7 = x_7 ∧ false = false ∧ (0 : Int) = (0 : Int)) ∧ (x.n = x.n ∧ x.n = x.n) ∧ x.times = x.times ∧
  x.plan = x.plan ∧ x.orders = x.orders ∧ x.drivers = x.drivers ∧ x.times = x.times ∧ certR (makeP (some (MapD.mk x.n x.times)) x.drivers x.orders x.plan) = certR (makeP (some (MapD.mk x.n x.times)) x.drivers x.orders x.plan)) ∧ inv_1 false
  (0 : Int)) ∧ ∀ (x_11 : Bool) (x_12 : Int), inv_1 x_11 x_12 → (decide (x_12 < (↑x.drivers.length : Int)) = true → ((0 : Int) ≤ x_12 ∧ x_12 < (↑x.drivers.length : Int)) ∧ x_12.toNat < x.drivers.length ∧ ((0 : Int) ≤ x_7 ∧ x_7 <
  (↑x.plan.length : Int)) ∧ x_7.toNat < x.plan.length ∧ ((!decide ((x.drivers.getD x_12.toNat FK.driver.zero).id = (x.plan.getD x_7.toNat (Route.mk (0 : Int) (0 : Int) [])).driver)) = true → ((x_7 = x_7 ∧ x_11 = x_11 ∧ wrap (x_12 + (1 : Int))
  = wrap (x_12 + (1 : Int))) ∧ (x.n = x.n ∧ x.n = x.n) ∧ x.times = x.times ∧ x.plan = x.plan ∧ x.orders = x.orders ∧ x.drivers = x.drivers ∧ x.times = x.times ∧ certR (makeP (some (MapD.mk x.n x.times)) x.drivers x.orders x.plan) = certR
  (makeP (some (MapD.mk x.n x.times)) x.drivers x.orders x.plan)) ∧ inv_1 x_11 (wrap (x_12 + (1 : Int))) ∧ μ_1 x_11 (wrap (x_12 + (1 : Int))) < μ_1 x_11 x_12) ∧ ((!decide ((x.drivers.getD x_12.toNat FK.driver.zero).id = (x.plan.getD x_7.toNat
  (Route.mk (0 : Int) (0 : Int) [])).driver)) = false → ((0 : Int) ≤ x_12 ∧ x_12 < (↑x.drivers.length : Int)) ∧ x_12.toNat < x.drivers.length ∧ ((0 : Int) ≤ x_7 ∧ x_7 < (↑x.plan.length : Int)) ∧ x_7.toNat < x.plan.length ∧ (∀ (x_16 : MapD),
  some (MapD.mk x.n x.times) = some x_16 → MapOk x_16) ∧ ((!good (fauR (drive (some (MapD.mk x.n x.times)) (x.drivers.getD x_12.toNat FK.driver.zero) x.orders (x.plan.getD x_7.toNat (Route.mk (0 : Int) (0 : Int) [])).stops))) = false → ((0 :
  Int) ≤ x_7 ∧ x_7 < (↑(certR (makeP (some (MapD.mk x.n x.times)) x.drivers x.orders x.plan)).length : Int)) ∧ x_7.toNat < (certR (makeP (some (MapD.mk x.n x.times)) x.drivers x.orders x.plan)).length ∧ ((!same (visR (drive (some (MapD.mk x.n
  x.times)) (x.drivers.getD x_12.toNat FK.driver.zero) x.orders (x.plan.getD x_7.toNat (Route.mk (0 : Int) (0 : Int) [])).stops)) ((certR (makeP (some (MapD.mk x.n x.times)) x.drivers x.orders x.plan)).getD x_7.toNat [])) = true → false =
  true) ∧ ((!same (visR (drive (some (MapD.mk x.n x.times)) (x.drivers.getD x_12.toNat FK.driver.zero) x.orders (x.plan.getD x_7.toNat (Route.mk (0 : Int) (0 : Int) [])).stops)) ((certR (makeP (some (MapD.mk x.n x.times)) x.drivers x.orders
  x.plan)).getD x_7.toNat [])) = false → ((x_7 = x_7 ∧ true = true ∧ wrap (x_12 + (1 : Int)) = wrap (x_12 + (1 : Int))) ∧ (x.n = x.n ∧ x.n = x.n) ∧ x.times = x.times ∧ x.plan = x.plan ∧ x.orders = x.orders ∧ x.drivers = x.drivers ∧ x.times =
  x.times ∧ certR (makeP (some (MapD.mk x.n x.times)) x.drivers x.orders x.plan) = certR (makeP (some (MapD.mk x.n x.times)) x.drivers x.orders x.plan)) ∧ inv_1 true (wrap (x_12 + (1 : Int))) ∧ μ_1 true (wrap (x_12 + (1 : Int))) < μ_1 x_11
  x_12)) ∧ ((!good (fauR (drive (some (MapD.mk x.n x.times)) (x.drivers.getD x_12.toNat FK.driver.zero) x.orders (x.plan.getD x_7.toNat (Route.mk (0 : Int) (0 : Int) [])).stops))) = !false → false = true))) ∧ (decide (x_12 <
  (↑x.drivers.length : Int)) = false → ((!x_11) = true → false = true) ∧ ((!x_11) = false → (wrap (x_7 + (1 : Int)) = wrap (x_7 + (1 : Int)) ∧ (x.n = x.n ∧ x.n = x.n) ∧ x.times = x.times ∧ x.plan = x.plan ∧ x.orders = x.orders ∧ x.drivers =
  x.drivers ∧ x.times = x.times ∧ certR (makeP (some (MapD.mk x.n x.times)) x.drivers x.orders x.plan) = certR (makeP (some (MapD.mk x.n x.times)) x.drivers x.orders x.plan)) ∧ inv (wrap (x_7 + (1 : Int))) () ∧ μ (wrap (x_7 + (1 : Int))) () <
  μ x_7 x_8))) ∧ (decide (x_7 < (↑(certR (makeP (some (MapD.mk x.n x.times)) x.drivers x.orders x.plan)).length : Int)) = false → true = true)))))
theorem certRoutes_told (hc : CsOk Try.prog certRoutes_cs) (h : certRoutes_vc) : Told Try.prog 14 certRoutes_con := told (A := certRoutes_la) tabOk mixed hc Try.func14 (by kernel_rfl) (by kernel_rfl) h
end Go.Eng

/- Certificates: what the statements ask, but for chapter 10's runs. -/
set_option linter.unusedVariables false
set_option linter.unusedSimpArgs false
namespace Go.Eng
open Go Go.Proofs
theorem certChecks_ok : certChecks_vc := by
  unfold certChecks_vc
  simp only [bad_false, int0, nilOf, decide_eq_true_eq, decide_eq_false_iff_not, Bool.not_eq_true', Bool.not_eq_false', Bool.not_true, Bool.not_false, Bool.false_eq_true, Bool.true_eq_false, eq_self, true_and, and_true, false_or, or_false, false_implies, true_implies, implies_true, Int.not_lt, Int.not_le, gt_iff_lt, ge_iff_le, ne_eq]
  intro w hw c hc hg
  have hz : c.length * 24 ≤ 140737488351232 ∧ ∀ (l : List Visit), List.Mem l c → l.length * 48 ≤ 140737488351232 := hg.is.2.2
  refine ⟨fun h => ?_, fun h => ?_⟩
  · exact ⟨hz, mapOkO_none, mapOkO_none, fun _ q => (by rw [same_self] at q; cases q), fun q => (by simp at q)⟩
  · exact ⟨hz, mapOkO_some h, mapOkO_some h, fun _ q => (by rw [same_self] at q; cases q), fun q => (by simp at q)⟩
theorem makeGo_row {m : MapD} {ds : List Driver} {os : List Order} : ∀ (p : List Route) (i : Nat) (c : List (List Visit)), makeGo m ds os i p = .ok c → ∀ k, k < p.length → ∃ d, findD (p.getD k rz).driver ds = some d ∧ drive (some m) d os (p.getD k rz).stops = .ok (c.getD k [])
  | [], i, c, h, k, hk => by simp at hk
  | r :: p, i, c, h, k, hk => by
    rw [makeGo] at h
    split at h
    · cases h
    · rename_i d hd
      split at h
      · cases h
      · rename_i v hv
        split at h
        · cases h
        · rename_i vs hvs
          injection h with h
          subst h
          cases k with
          | zero => exact ⟨d, hd, hv⟩
          | succ k =>
            rw [List.getD_cons_succ, List.getD_cons_succ]
            exact makeGo_row p (i + 1) vs hvs k (by simpa using hk)
theorem makeGo_spot {m : MapD} {ds : List Driver} {os : List Order} : ∀ (p : List Route) (i : Nat) (f : Fault), makeGo m ds os i p = .error f → (i : Int) ≤ f.spot ∧ f.spot ≤ (i : Int) + p.length
  | [], i, f, h => by rw [makeGo] at h; cases h
  | r :: p, i, f, h => by
    rw [makeGo] at h
    split at h
    · injection h with h; subst h; simp only [List.length_cons]; omega
    · split at h
      · injection h with h; subst h; simp only [List.length_cons]; omega
      · split at h
        · rename_i f' hf
          injection h with h; subst h
          have := makeGo_spot p (i + 1) f' hf
          simp only [List.length_cons]; omega
        · cases h
theorem certR_bad {r : Except Fault (List (List Visit))} (h : good (cfauR r) = false) : certR r = [] := by
  cases r with
  | ok v => simp [cfauR, good] at h
  | error f => rfl
theorem cert_fits {m : Option MapD} {ds : List Driver} {os : List Order} {p : List Route} : CertFits (certR (makeP m ds os p)) := by
  cases m with
  | none => exact ⟨by simp [makeP, certR], fun l h => by cases h⟩
  | some m =>
    by_cases hw : wellP (some m) ds os p = true
    · have hM : makeP (some m) ds os p = makeGo m ds os 0 p := by simp [makeP, hw]
      rw [hM]
      have hR := rightP_iff.1 (wellP_iff.1 hw).2.2.2.1
      cases hG : makeGo m ds os 0 p with
      | error f => exact ⟨by simp [certR], fun l h => by cases h⟩
      | ok c =>
        have hl := makeGo_length p 0 c hG
        have h8 := hR.1
        refine ⟨by show c.length * 24 ≤ _; omega, fun l hlm => ?_⟩
        obtain ⟨k, hk, rfl⟩ := List.getElem_of_mem hlm
        have hk' : k < c.length := hk
        obtain ⟨d, hd, hv⟩ := makeGo_row p 0 c hG k (by omega)
        have hrm := getD_mem rz (show k < p.length by omega)
        rw [well_drive hw hrm (findD_mem hd).1] at hv
        have := congrArg List.length (drive_stops _ _ _ _ hv)
        rw [List.length_map] at this
        have h80 := (okR_mem hR.2 _ hrm).2.2.1
        rw [getD_get _ hk'] at this
        show c[k].length * 48 ≤ _
        omega
    · have hM : makeP (some m) ds os p = .error ⟨0, 1⟩ := by simp [makeP, hw]
      rw [hM]; exact ⟨by simp [certR], fun l h => by cases h⟩
theorem only_law0 {ds : List Driver} {os : List Order} {p : List Route} {c : List (List Visit)} : good (checkP none ds os p c) = true ↔ good (cfauR (makeP none ds os p)) = true ∧ c = certR (makeP none ds os p) := by
  simp [checkP, makeP, cfauR, good]
theorem only_ends {m : Option MapD} {ds : List Driver} {os : List Order} {p : List Route} (c : List (List Visit)) (h : good (checkP m ds os p c) = true ↔ good (cfauR (makeP m ds os p)) = true ∧ c = certR (makeP m ds os p)) :
    (good (cfauR (makeP m ds os p)) = true → ((good (checkP m ds os p c) == same c (certR (makeP m ds os p))) = true → good (cfauR (makeP m ds os p)) = false → ¬((certR (makeP m ds os p)).length : Int) = 0 → False) ∧ ((good (checkP m ds os p c) == same c (certR (makeP m ds os p))) = false → False)) ∧
    (good (cfauR (makeP m ds os p)) = false → ((good (checkP m ds os p c) == false) = true → good (cfauR (makeP m ds os p)) = false → ¬((certR (makeP m ds os p)).length : Int) = 0 → False) ∧ ((good (checkP m ds os p c) == false) = false → False)) := by
  refine ⟨fun g => ⟨fun _ g' => absurd (g.symm.trans g') (by decide), fun q => ?_⟩, fun g => ⟨fun _ _ n => ?_, fun q => ?_⟩⟩
  · rw [g] at h
    have : good (checkP m ds os p c) = same c (certR (makeP m ds os p)) := by
      rw [Bool.eq_iff_iff, h, same_iff]; simp
    rw [this] at q; simp at q
  · rw [certR_bad g] at n; exact n rfl
  · rw [g] at h
    have : good (checkP m ds os p c) = false := by
      rw [← Bool.not_eq_true, h]; simp
    rw [this] at q; cases q
theorem certOnly_ok : certOnly_vc := by
  unfold certOnly_vc
  simp only [bad_false, int0, nilOf, decide_eq_true_eq, decide_eq_false_iff_not, Bool.not_eq_true', Bool.not_eq_false', Bool.not_true, Bool.not_false, Bool.false_eq_true, Bool.true_eq_false, eq_self, true_and, and_true, false_or, or_false, false_implies, true_implies, implies_true, Int.not_lt, Int.not_le, gt_iff_lt, ge_iff_le, ne_eq]
  intro w hw c hc b hg
  refine ⟨fun h => ?_, fun h => ?_⟩
  · exact ⟨mapOkO_none, fun _ => ⟨cert_fits, mapOkO_none, only_ends _ only_law0⟩, fun _ => ⟨mapOkO_none, only_ends _ only_law0⟩⟩
  · have hm := mapOkO_some h
    exact ⟨hm, fun _ => ⟨cert_fits, hm, only_ends _ (only_law (hm _ rfl))⟩, fun _ => ⟨hm, only_ends _ (only_law (hm _ rfl))⟩⟩
theorem well_unique {m : MapD} {ds : List Driver} {os : List Order} {p : List Route} (h : wellP (some m) ds os p = true) {a b : Driver} (ha : a ∈ ds) (hb : b ∈ ds) (e : a.id = b.id) : a = b := by
  obtain ⟨i, hi, rfl⟩ := List.getElem_of_mem ha
  obtain ⟨j, hj, rfl⟩ := List.getElem_of_mem hb
  have key : ∀ i j (hi : i < ds.length) (hj : j < ds.length), i < j → ds[i].id = ds[j].id → False := fun i j hi hj hij e => by
    have := (okD_iff.1 ((wellP_iff.1 h).2.2.2.2 j hj)).2
    rw [getD_get _ hj] at this
    exact findD_none.1 this ds[i] (List.mem_take_iff_getElem.2 ⟨i, by omega, rfl⟩) e
  rcases Nat.lt_trichotomy i j with h1 | h1 | h1
  · exact (key i j hi hj h1 e).elim
  · subst h1; rfl
  · exact (key j i hj hi h1 e.symm).elim
theorem certRoutes_ok : certRoutes_vc := by
  unfold certRoutes_vc
  simp only [bad_false, int0, nilOf, decide_eq_true_eq, decide_eq_false_iff_not, Bool.not_eq_true', Bool.not_eq_false', Bool.not_true, Bool.not_false, Bool.false_eq_true, Bool.true_eq_false, eq_self, true_and, and_true, false_or, or_false, false_implies, true_implies, implies_true, Int.not_lt, Int.not_le, gt_iff_lt, ge_iff_le, ne_eq]
  intro w hwl hg
  have hd := hwl.2.1.le
  have hp := hwl.2.2.2.1.le
  refine ⟨fun h => ?_, fun h => ?_⟩
  · refine ⟨mapOkO_none, fun _ => ⟨fun _ => ⟨fun _ q => ?_, fun q => ?_⟩, fun q => q rfl⟩, fun q => (by simp [makeP, cfauR, good] at q)⟩
    · have : (cfauR (makeP none w.drivers w.orders w.plan)).spot = 0 := rfl
      omega
    · have : (cfauR (makeP none w.drivers w.orders w.plan)).spot = 0 := rfl
      omega
  · have hm := mapOkO_some h
    have hmo := hm _ rfl
    generalize (⟨w.n, w.times⟩ : MapD) = m at *
    by_cases hw : wellP (some m) w.drivers w.orders w.plan = true
    · have hM : makeP (some m) w.drivers w.orders w.plan = makeGo m w.drivers w.orders 0 w.plan := by simp [makeP, hw]
      rw [hM]
      refine ⟨hm, fun g => ?_, fun g => ?_⟩
      · cases hG : makeGo m w.drivers w.orders 0 w.plan with
        | ok c => rw [hG] at g; simp [cfauR, good] at g
        | error f =>
          have := makeGo_spot _ _ _ hG
          refine ⟨fun _ => ⟨fun _ q => ?_, fun q => ?_⟩, fun q => q rfl⟩
          · have e : (cfauR (.error f)).spot = f.spot := rfl
            omega
          · have e : (cfauR (.error f)).spot = f.spot := rfl
            omega
      · cases hG : makeGo m w.drivers w.orders 0 w.plan with
        | error f =>
          have hall : ∀ r ∈ w.plan, ∀ d ∈ w.drivers, CheckPre m d w.orders r.stops ∧ drive (some m) d w.orders r.stops = driveT m d w.orders r.stops := fun r hr d hd => ⟨well_check hmo hw hr hd, well_drive hw hr hd⟩
          have hne := makeGo_why hall w.plan 0 f (fun _ h => h) hG
          rw [hG] at g
          simp [cfauR, good, hne] at g
        | ok c =>
          have hl := makeGo_length _ _ _ hG
          have hcr : certR (.ok c) = c := rfl
          rw [hcr]
          refine ⟨fun q => q (by rw [hl]), fun _ => ⟨fun k _ => 0 ≤ k, fun k _ => c.length - k.toNat, by omega, fun k u hk hkl => ?_⟩⟩
          have hkp : k.toNat < w.plan.length := by omega
          have hkc : k.toNat < c.length := by omega
          obtain ⟨d, hfd, hv⟩ := makeGo_row _ _ _ hG k.toNat hkp
          have hrm := getD_mem rz hkp
          have bP : (0 ≤ k ∧ k < (w.plan.length : Int)) ∧ k.toNat < w.plan.length := ⟨⟨hk, by omega⟩, hkp⟩
          have bC : (0 ≤ k ∧ k < (c.length : Int)) ∧ k.toNat < c.length := ⟨⟨hk, hkl⟩, hkc⟩
          have w1 : wrap (k + 1) = k + 1 := wrap_id (by omega) (by omega)
          rw [w1]
          generalize w.plan.getD k.toNat { driver := 0, served := 0, stops := [] } = r at *
          refine ⟨fun b j => 0 ≤ j ∧ j ≤ w.drivers.length ∧ (b = false → ∀ t, t < j.toNat → (w.drivers.getD t (FK.zero .driver)).id ≠ r.driver), fun _ j => w.drivers.length - j.toNat, ⟨by omega, by omega, fun _ t ht => by simp at ht⟩, fun b j hj => ⟨fun g => ?_, fun g => ?_⟩⟩
          · obtain ⟨j0, j1, jI⟩ := hj
            obtain ⟨d1, d2, d3, d4⟩ := ix (FK.zero .driver) hd j0 g
            rw [d1]; dsimp only; rw [d2]
            have hdm := getD_mem (FK.zero .driver) d3
            refine ⟨⟨j0, g⟩, d3, bP.1, bP.2, fun q => ⟨⟨by omega, by omega, fun hb t ht => ?_⟩, by omega⟩, fun q => ?_⟩
            · by_cases e : t < j.toNat
              · exact jI hb t e
              · rw [show t = j.toNat by omega]; exact q
            · have hdd : w.drivers.getD j.toNat (FK.zero .driver) = d := well_unique hw hdm (findD_mem hfd).1 (q.trans (findD_mem hfd).2.symm)
              rw [hdd, hv]
              refine ⟨⟨j0, g⟩, d3, bP.1, bP.2, hm, fun _ => ⟨bC.1, bC.2, fun z => ?_, fun _ => ⟨⟨by omega, by omega, fun hb => by cases hb⟩, by omega⟩⟩, fun z => by simp [fauR, good] at z⟩
              rw [show visR (.ok (c.getD k.toNat [])) = c.getD k.toNat [] from rfl, same_self] at z
              cases z
          · obtain ⟨j0, j1, jI⟩ := hj
            refine ⟨fun hb => ?_, fun _ => ⟨by omega, by dsimp only; omega⟩⟩
            obtain ⟨hdm, hid⟩ := findD_mem hfd
            obtain ⟨t, ht, rfl⟩ := List.getElem_of_mem hdm
            refine jI hb t (by omega) ?_
            rw [getD_get _ ht]; exact hid
    · have hM : makeP (some m) w.drivers w.orders w.plan = .error ⟨0, 1⟩ := by simp [makeP, hw]
      rw [hM]
      refine ⟨hm, fun _ => ⟨fun _ => ⟨fun _ q => ?_, fun q => ?_⟩, fun q => q rfl⟩, fun q => absurd q (by decide)⟩
      · have : (cfauR (.error ⟨0, 1⟩)).spot = 0 := rfl
        omega
      · have : (cfauR (.error ⟨0, 1⟩)).spot = 0 := rfl
        omega
end Go.Eng

/- A plan's own certificate, turned in one place: what is told of the statement. -/
set_option linter.unusedVariables false
set_option linter.unusedSimpArgs false
namespace Go.Eng
open Go Go.Proofs
theorem cert_small {m : Option MapD} {ds : List Driver} {os : List Order} {p : List Route} : (certR (makeP m ds os p)).length ≤ 1000 ∧ ∀ l ∈ certR (makeP m ds os p), l.length ≤ 80 := by
  cases m with
  | none => exact ⟨by simp [makeP, certR], fun l h => by cases h⟩
  | some m =>
    by_cases hw : wellP (some m) ds os p = true
    · have hM : makeP (some m) ds os p = makeGo m ds os 0 p := by simp [makeP, hw]
      rw [hM]
      have hR := rightP_iff.1 (wellP_iff.1 hw).2.2.2.1
      cases hG : makeGo m ds os 0 p with
      | error f => exact ⟨by simp [certR], fun l h => by cases h⟩
      | ok c =>
        have hl := makeGo_length p 0 c hG
        have h8 := hR.1
        refine ⟨by show c.length ≤ _; omega, fun l hlm => ?_⟩
        obtain ⟨k, hk, rfl⟩ := List.getElem_of_mem hlm
        have hk' : k < c.length := hk
        obtain ⟨d, hd, hv⟩ := makeGo_row p 0 c hG k (by omega)
        have hrm := getD_mem rz (show k < p.length by omega)
        rw [well_drive hw hrm (findD_mem hd).1] at hv
        have := congrArg List.length (drive_stops _ _ _ _ hv)
        rw [List.length_map] at this
        have h80 := (okR_mem hR.2 _ hrm).2.2.1
        rw [getD_get _ hk'] at this
        show c[k].length ≤ _
        omega
    · have hM : makeP (some m) ds os p = .error ⟨0, 1⟩ := by simp [makeP, hw]
      rw [hM]; exact ⟨by simp [certR], fun l h => by cases h⟩
theorem set_same {α : Type} {l : List α} {k : Nat} (d : α) : l.set k (l.getD k d) = l := by
  apply List.ext_getElem?
  intro i
  rw [List.getElem?_set]
  by_cases h : k = i
  · subst h
    by_cases hk : k < l.length
    · simp [List.getD, hk]
    · simp [hk]
  · simp [h]
theorem certTurned_ok : certTurned_vc := by
  unfold certTurned_vc
  simp only [bad_false, int0, nilOf, decide_eq_true_eq, decide_eq_false_iff_not, Bool.not_eq_true', Bool.not_eq_false', Bool.not_true, Bool.not_false, Bool.false_eq_true, Bool.true_eq_false, eq_self, true_and, and_true, false_or, or_false, false_implies, true_implies, implies_true, Int.not_lt, Int.not_le, gt_iff_lt, ge_iff_le, ne_eq]
  intro w hwl at' field by' hg
  have two : (decide True && (decide True && true)) = false → False := by simp
  have main : ∀ (C : List (List Visit)), C.length ≤ 1000 → (∀ l ∈ C, l.length ≤ 80) → ∀ i : Int, 0 ≤ i → i < C.length → (C.getD i.toNat []).length ≤ 80 ∧ wrap (i + 1) = i + 1 ∧ (i + 1).toNat = i.toNat + 1 := fun C h1 h2 i h0 hi =>
    ⟨h2 _ (getD_mem [] (by omega)), wrap_id (by omega) (by omega), by omega⟩
  refine ⟨fun h => ?_, fun h => ?_⟩
  all_goals
    first
      | have hm := mapOkO_some h
        have hs := @cert_small (some ⟨w.n, w.times⟩) w.drivers w.orders w.plan
        generalize certR (makeP (some ⟨w.n, w.times⟩) w.drivers w.orders w.plan) = C at *
      | have hm := mapOkO_none
        have hs := @cert_small none w.drivers w.orders w.plan
        generalize certR (makeP none w.drivers w.orders w.plan) = C at *
    obtain ⟨hs1, hs2⟩ := hs
    refine ⟨hm, fun n i => 0 ≤ i ∧ i ≤ C.length ∧ 0 ≤ n ∧ n ≤ 80 * i, fun _ i => C.length - i.toNat, ⟨by omega, by omega, by omega, by omega⟩, fun n i hI => ⟨fun hi => ?_, fun hi => ⟨fun g => ⟨fun z => ⟨hm, hm, two⟩, fun z => ⟨?_, ?_⟩⟩, fun g => ⟨hm, hm, two⟩⟩⟩⟩
    · obtain ⟨i0, i1, n0, n1⟩ := hI
      obtain ⟨r1, r2, r3⟩ := main C hs1 hs2 i i0 hi
      have wn : wrap (n + ((C.getD i.toNat []).length : Int)) = n + ((C.getD i.toNat []).length : Int) := wrap_id (by omega) (by omega)
      rw [r2, wn]
      refine ⟨⟨i0, hi⟩, fun e' => ⟨⟨i0, hi⟩, set_same [], ⟨by omega, by omega, by omega, by omega⟩, ?_⟩⟩
      dsimp only
      omega
    · obtain ⟨i0, i1, n0, n1⟩ := hI
      rw [wrap_id (by omega) (by omega)]
      exact ⟨by omega, by omega, by omega⟩
    · have stp : ∀ (i : Int) (c : List (List Visit)) (row : List Visit), (0 ≤ i ∧ i ≤ c.length ∧ c.length = C.length) → i < c.length →
          (0 ≤ wrap (i + 1) ∧ wrap (i + 1) ≤ (c.set i.toNat row).length ∧ (c.set i.toNat row).length = C.length) ∧ (c.set i.toNat row).length - (wrap (i + 1)).toNat < c.length - i.toNat := by
        intro i c row hI hi
        obtain ⟨h0, h1, h2⟩ := hI
        have r2 : wrap (i + 1) = i + 1 := wrap_id (by omega) (by omega)
        rw [r2, List.length_set]
        refine ⟨⟨by omega, by omega, h2⟩, by omega⟩
      refine ⟨fun _ i c => 0 ≤ i ∧ i ≤ c.length ∧ c.length = C.length, fun _ i c => c.length - i.toNat, ⟨by omega, by omega, rfl⟩, fun k i c hJ => ⟨fun hj => ?_, fun hj => ⟨hm, hm, two⟩⟩⟩
      have b := stp
      refine ⟨⟨hJ.1, hj⟩, fun e' => ⟨fun hk => ⟨⟨hJ.1, hj⟩, fun hl => ⟨⟨hJ.1, hj⟩, b i c _ hJ hj⟩, fun hl => ⟨⟨hJ.1, hj⟩, ⟨hk, hl⟩, by decide, ?_⟩⟩, fun hk => ⟨⟨hJ.1, hj⟩, b i c _ hJ hj⟩⟩⟩
      have hkl : k.toNat < (c.getD i.toNat []).length := by omega
      exact ⟨fun _ => ⟨hkl, hkl, b i c _ hJ hj⟩, fun _ => ⟨fun _ => ⟨hkl, hkl, b i c _ hJ hj⟩, fun _ => ⟨fun _ => ⟨hkl, hkl, b i c _ hJ hj⟩, fun _ => ⟨fun _ => ⟨hkl, hkl, b i c _ hJ hj⟩,
        fun _ => ⟨fun _ => ⟨hkl, hkl, b i c _ hJ hj⟩, fun _ => ⟨fun _ => ⟨hkl, by decide, hkl, b i c _ hJ hj⟩, fun _ => b i c _ hJ hj⟩⟩⟩⟩⟩⟩
theorem certTurned_t : Told Try.prog 12 certTurned_con := certTurned_told (csOk_cons maps_t (csOk_cons rCmake_t (csOk_cons ccheck_t (csOk_cons rCcheck_t (csOk_cons certRuns_t (csOk_cons bWithin_t csOk_nil)))))) certTurned_ok
end Go.Eng

/- Any plan's certificate: what is told of the statement. -/
set_option linter.unusedVariables false
set_option linter.unusedSimpArgs false
namespace Go.Eng
open Go Go.Proofs
theorem certMakes_ok : certMakes_vc := by
  unfold certMakes_vc
  simp only [bad_false, int0, nilOf, decide_eq_true_eq, decide_eq_false_iff_not, Bool.not_eq_true', Bool.not_eq_false', Bool.not_true, Bool.not_false, Bool.false_eq_true, Bool.true_eq_false, eq_self, true_and, and_true, false_or, or_false, false_implies, true_implies, implies_true, Int.not_lt, Int.not_le, gt_iff_lt, ge_iff_le, ne_eq]
  intro w hwl hg
  have hz : w.plan.length * 40 ≤ 140737488351232 ∧ ∀ (r : Route), List.Mem r w.plan → r.stops.length * 16 ≤ 140737488351232 := by
    have := hg.is.2
    simp only [AV.szd, SK.enc, List.forall_mem_cons] at this
    exact this.2.2.2.2.1
  have two : (decide True && (decide True && true)) = false → False := by simp
  have sp : sameP w.plan w.plan = false → False := fun h => by rw [sameP_iff.2 rfl] at h; cases h
  refine ⟨fun h => ?_, fun h => ?_⟩
  all_goals
    first
      | have hm := mapOkO_some h
        have hs := @cert_small (some ⟨w.n, w.times⟩) w.drivers w.orders w.plan
        generalize certR (makeP (some ⟨w.n, w.times⟩) w.drivers w.orders w.plan) = C at *
      | have hm := mapOkO_none
        have hs := @cert_small none w.drivers w.orders w.plan
        generalize certR (makeP none w.drivers w.orders w.plan) = C at *
    obtain ⟨hs1, hs2⟩ := hs
    have sC : same C C = false → False := fun h => by rw [same_self] at h; cases h
    refine ⟨hz, hm, hm, hm, fun _ => ⟨fun _ => ⟨fun _ => ⟨sC, fun _ => ?_⟩, sC⟩, two⟩, two⟩
    refine ⟨fun i a => 0 ≤ i ∧ i ≤ a.length ∧ a.length = C.length, fun i a => a.length - i.toNat, ⟨by omega, by omega, rfl⟩, fun i a hI => ⟨fun hi => ⟨⟨hI.1, hi⟩, fun c hc hL => ⟨⟨hI.1, hi⟩, ⟨hI.1, hi⟩, ?_⟩⟩, fun hi => ⟨fun _ => sp, sC⟩⟩⟩
    obtain ⟨i0, i1, i2⟩ := hI
    have hLe := hL.le
    have r2 : wrap (i + 1) = i + 1 := wrap_id (by omega) (by omega)
    refine ⟨fun k ys => 0 ≤ k ∧ k ≤ c ∧ k ≤ ys.length ∧ (a.getD i.toNat []).length ≤ ys.length, fun k _ => c - k.toNat, ⟨by omega, by omega, by omega, by omega⟩, fun k ys hJ => ⟨fun hk => ?_, fun hk => ?_⟩⟩
    · obtain ⟨k0, k1, k2, k3⟩ := hJ
      have q2 : wrap (k + 1) = k + 1 := wrap_id (by omega) (by omega)
      rw [q2]
      refine ⟨⟨k0, hk⟩, ⟨by omega, by omega⟩, ⟨by omega, by omega, ?_, ?_⟩, ?_⟩
      · simp only [List.length_append, List.length_take, List.length_cons, List.length_drop]; omega
      · simp only [List.length_append, List.length_take, List.length_cons, List.length_drop]; omega
      · dsimp only; omega
    · obtain ⟨k0, k1, k2, k3⟩ := hJ
      rw [r2]
      dsimp only
      rw [List.length_set]
      exact ⟨k3, ⟨by omega, by omega, i2⟩, by omega⟩
theorem certMakes_t : Told Try.prog 10 certMakes_con := certMakes_told (csOk_cons maps_t (csOk_cons kcopy_t (csOk_cons cmake_t (csOk_cons rCmake_t (csOk_cons clists_t (csOk_cons kroutes_t (csOk_cons certRuns_t csOk_nil))))))) certMakes_ok
end Go.Eng
