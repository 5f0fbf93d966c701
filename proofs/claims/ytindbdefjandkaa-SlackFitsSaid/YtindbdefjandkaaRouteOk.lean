/- What the functions that drive tell is so: the program's. -/
import Derived.Test.YtindbdefjandkaaRouteVc
set_option linter.unusedVariables false
set_option linter.unusedSimpArgs false
namespace Go.Eng
open Go Go.Proofs

theorem next_ix {α : Type} {d : α} {l : List α} {i : Int} (hl : l.length ≤ 9223372036854775807) (h0 : 0 ≤ i) (h : i < l.length) : wrap (i + 1) = i + 1 ∧ (i + 1).toNat = i.toNat + 1 ∧ l.drop i.toNat = l.getD i.toNat d :: l.drop (i.toNat + 1) :=
  ⟨wrap_id (by omega) (by omega), by omega, getD_drop (by omega)⟩
theorem end_ix {α : Type} {l : List α} {i : Int} (h : l.length ≤ i) : l.drop i.toNat = [] := List.drop_eq_nil_of_le (by omega)
theorem find_ok : find_vc := by
  unfold find_vc
  simp only [bad_false, int0, nilOf, decide_eq_true_eq, decide_eq_false_iff_not, Bool.not_eq_true', Bool.not_eq_false', Bool.not_true, Bool.not_false, Bool.false_eq_true, Bool.true_eq_false, eq_self, true_and, and_true, false_or, or_false, false_implies, true_implies, implies_true, Int.not_lt, Int.not_le, gt_iff_lt, ge_iff_le, ne_eq]
  intro os hl id
  have hl := hl.le
  refine ⟨fun i => 0 ≤ i ∧ i ≤ os.length ∧ findO os id = findO (os.drop i.toNat) id, fun i => os.length - i.toNat, ⟨by omega, by omega, rfl⟩, fun i hi => ⟨fun h => ?_, fun h => ?_⟩⟩
  · obtain ⟨i0, i1, i2⟩ := hi
    obtain ⟨e1, e2, e3⟩ := next_ix (d := FK.zero .order) hl i0 h
    rw [e3, findO] at i2
    rw [e1]
    refine ⟨⟨i0, h⟩, by omega, fun he => ?_, fun he => ⟨⟨by omega, by omega, ?_⟩, by dsimp only; omega⟩⟩
    · rw [if_pos he] at i2
      have : fo os id = os.getD i.toNat (FK.zero .order) := by unfold fo; rw [i2]; rfl
      rw [this, i2]
      exact ⟨⟨rfl, rfl, rfl, rfl, rfl, rfl, rfl, rfl, rfl, rfl⟩, rfl⟩
    · rw [if_neg he] at i2
      rw [e2]; exact i2
  · have i2 := hi.2.2
    rw [end_ix h, findO] at i2
    have : fo os id = FK.zero .order := by unfold fo; rw [i2]; rfl
    rw [this, i2]
    exact ⟨⟨rfl, rfl, rfl, rfl, rfl, rfl, rfl, rfl, rfl, rfl⟩, rfl⟩
theorem find_t : Told Try.prog 25 find_con := find_told csOk_nil find_ok
theorem site_ok : site_vc := by
  intro o b
  cases b <;> simp [siteOf, Order.pick, Order.drop]
theorem site_t : Told Try.prog 26 site_con := site_told csOk_nil site_ok
theorem good_ok : good_vc := fun f => rfl
theorem goodF_t : Told Try.prog 22 good_con := good_told csOk_nil good_ok
theorem fit_ok : fit_vc := by
  unfold fit_vc
  simp only [bad_false, int0, nilOf, decide_eq_true_eq, decide_eq_false_iff_not, Bool.not_eq_true', Bool.not_eq_false', Bool.not_true, Bool.not_false, Bool.false_eq_true, Bool.true_eq_false, eq_self, true_and, and_true, false_or, or_false, false_implies, true_implies, implies_true, Int.not_lt, Int.not_le, gt_iff_lt, ge_iff_le, ne_eq]
  refine ⟨fun d os _ ss _ hm => ⟨hm, ?_⟩, fun m _ d os _ ss _ hm => ⟨hm, ?_⟩⟩ <;> simp only [fitB]
  · grind
  · grind
theorem fit_t : Told Try.prog 35 fit_con := fit_told (csOk_cons driver_t (csOk_cons known_t csOk_nil)) fit_ok
theorem stands_step {l : List Stop} {s : Stop} {i : Nat} (h : i < l.length) : (l.take (i + 1)).any (fun x => sEq x s) = ((l.take i).any (fun x => sEq x s) || sEq (l.getD i (FK.zero .stop)) s) := by
  rw [List.take_add_one, List.getElem?_eq_getElem h, List.any_append]
  simp [h]
theorem stands_ok : stands_vc := by
  unfold stands_vc
  simp only [bad_false, int0, nilOf, decide_eq_true_eq, decide_eq_false_iff_not, Bool.not_eq_true', Bool.not_eq_false', Bool.not_true, Bool.not_false, Bool.false_eq_true, Bool.true_eq_false, eq_self, true_and, and_true, false_or, or_false, false_implies, true_implies, implies_true, Int.not_lt, Int.not_le, gt_iff_lt, ge_iff_le, ne_eq]
  intro l hl s
  have hl := hl.le
  refine ⟨fun i => 0 ≤ i ∧ i ≤ l.length ∧ (l.take i.toNat).any (fun x => sEq x s) = false, fun i => l.length - i.toNat, ⟨by omega, by omega, rfl⟩, fun i hi => ⟨fun h => ?_, fun h => ?_⟩⟩
  · obtain ⟨i0, i1, i2⟩ := hi
    obtain ⟨e1, e2, e3⟩ := next_ix (d := FK.zero .stop) hl i0 h
    have hs := stands_step (l := l) (s := s) (i := i.toNat) (by omega)
    rw [i2, Bool.false_or] at hs
    rw [e1]
    refine ⟨⟨i0, h⟩, by omega, fun he => ?_, fun he => ⟨⟨by omega, by omega, ?_⟩, by dsimp only; omega⟩⟩
    · unfold stands
      symm
      rw [List.any_eq_true]
      refine ⟨l.getD i.toNat (FK.zero .stop), ?_, ?_⟩
      · rw [getD_of (by omega)]; exact List.getElem_mem _
      · unfold sEq; simpa using he
    · rw [e2, hs]; unfold sEq; simpa using he
  · have i2 := hi.2.2
    rw [List.take_of_length_le (by omega)] at i2
    unfold stands; exact i2.symm
theorem stands_t : Told Try.prog 53 stands_con := stands_told csOk_nil stands_ok
theorem wrong_ok : wrong_vc := by
  unfold wrong_vc
  simp only [bad_false, int0, nilOf, decide_eq_true_eq, decide_eq_false_iff_not, Bool.not_eq_true', Bool.not_eq_false', Bool.not_true, Bool.not_false, Bool.false_eq_true, Bool.true_eq_false, eq_self, true_and, and_true, false_or, or_false, false_implies, true_implies, implies_true, Int.not_lt, Int.not_le, gt_iff_lt, ge_iff_le, ne_eq]
  intro os _ l _ s
  simp only [wrongE]
  cases hf : findO os s.order with
  | none => simp
  | some o => simp; grind
theorem wrong_t : Told Try.prog 45 wrong_con := wrong_told (csOk_cons find_t (csOk_cons stands_t csOk_nil)) wrong_ok

/-! ### Orders that are known -/
theorem findO_mem : ∀ {os : List Order} {id : Int} {o : Order}, findO os id = some o → o ∈ os ∧ o.id = id
  | [], _, _, h => by cases h
  | x :: l, id, o, h => by
    unfold findO at h
    split at h
    · rename_i e
      injection h with h
      subst h
      exact ⟨by simp, e⟩
    · obtain ⟨h1, h2⟩ := findO_mem h
      exact ⟨List.mem_cons_of_mem _ h1, h2⟩
theorem known_ok_of {m : MapD} {os : List Order} (h : knownO (some m) os = true) : ∀ o ∈ os, OrderOk m o := fun o ho => by
  obtain ⟨i, hi, rfl⟩ := List.getElem_of_mem ho
  have := (known_at h).2 i hi
  rw [getD_of hi] at this
  exact orderE_ok this.1
theorem fo_ok {m : MapD} {os : List Order} {id : Int} (h : knownO (some m) os = true) (hf : (findO os id).isSome = true) : OrderOk m (fo os id) ∧ (fo os id).id = id ∧ fo os id ∈ os := by
  obtain ⟨o, ho⟩ := Option.isSome_iff_exists.1 hf
  obtain ⟨h1, h2⟩ := findO_mem ho
  have : fo os id = o := by unfold fo; rw [ho]; rfl
  rw [this]
  exact ⟨known_ok_of h o h1, h2, h1⟩
theorem siteOf_ok {m : MapD} {o : Order} (h : OrderOk m o) (b : Bool) : SiteOk m (siteOf o b) := by
  cases b
  · exact h.pick
  · exact h.drop
theorem wrongE_some {os : List Order} {l : List Stop} {s : Stop} (h : wrongE os l s = 0) : (findO os s.order).isSome = true := by
  unfold wrongE at h
  split at h
  · cases h
  · rename_i hn
    cases hf : findO os s.order with
    | none => rw [hf] at hn; simp at hn
    | some o => rfl
theorem part_zero {α : Type} (l : List α) (i : Int) : part l (Int.toNat 0) (i.toNat - Int.toNat 0) = l.take i.toNat := by
  simp [part]

/-! ### The drive -/
/-- What a drive comes to, when some visits are made. -/
def rest (m : MapD) (d : Driver) (os : List Order) (out : List Visit) (ahead l : List Stop) (p : Pos) : Except Fault (List Visit) := match driveGo m d os ahead l p with
  | .error f => .error f
  | .ok vs => .ok (out ++ vs)
theorem rest_end {m : MapD} {d : Driver} {os : List Order} {out : List Visit} {ahead : List Stop} {p : Pos} : rest m d os out ahead [] p = if 0 < p.load then .error ⟨ahead.length, 18⟩ else .ok out := by
  unfold rest driveGo
  by_cases h : 0 < p.load
  · rw [if_pos h, if_pos h]
  · rw [if_neg h, if_neg h]; simp
theorem rest_wrong {m : MapD} {d : Driver} {os : List Order} {out : List Visit} {ahead l : List Stop} {s : Stop} {p : Pos} (h : ¬ wrongE os ahead s = 0) : rest m d os out ahead (s :: l) p = .error ⟨ahead.length, wrongE os ahead s⟩ := by
  unfold rest driveGo tryStop
  rw [if_pos h]
theorem rest_load {m : MapD} {d : Driver} {os : List Order} {out : List Visit} {ahead l : List Stop} {s : Stop} {p : Pos} (h : wrongE os ahead s = 0) (h2 : d.room < loadOf os s p.load) : rest m d os out ahead (s :: l) p = .error ⟨ahead.length, 14⟩ := by
  unfold rest driveGo tryStop
  rw [if_neg (by simp [h]), if_pos h2]
theorem rest_late {m : MapD} {d : Driver} {os : List Order} {out : List Visit} {ahead l : List Stop} {s : Stop} {p : Pos} (h : wrongE os ahead s = 0) (h2 : loadOf os s p.load ≤ d.room) (h3 : served m p.pos p.now (stopSite os s) d.hi = none) : rest m d os out ahead (s :: l) p = .error ⟨ahead.length, 15⟩ := by
  unfold rest driveGo tryStop
  rw [if_neg (by simp [h]), if_neg (by omega), h3]
theorem rest_next {m : MapD} {d : Driver} {os : List Order} {out : List Visit} {ahead l : List Stop} {s : Stop} {p : Pos} {b : Int × Int} (h : wrongE os ahead s = 0) (h2 : loadOf os s p.load ≤ d.room) (h3 : served m p.pos p.now (stopSite os s) d.hi = some b) :
    rest m d os out ahead (s :: l) p = rest m d os (out ++ [⟨s.order, s.drop, p.now + tm m p.pos (stopSite os s).pl, b.1, b.2, loadOf os s p.load⟩]) (ahead ++ [s]) l ⟨b.2, (stopSite os s).pl, loadOf os s p.load⟩ := by
  unfold rest
  rw [driveGo]
  unfold tryStop
  rw [if_neg (by simp [h]), if_neg (by omega), h3]
  simp only [after]
  cases driveGo m d os (ahead ++ [s]) l ⟨b.2, (stopSite os s).pl, loadOf os s p.load⟩ with
  | error f => rfl
  | ok vs => simp
theorem fauR_error {f : Fault} : fauR (.error f) = f := rfl
theorem take_snoc {α : Type} {d : α} {l : List α} {i : Nat} (h : i < l.length) : l.take i ++ [l.getD i d] = l.take (i + 1) := by
  rw [List.take_add_one, List.getElem?_eq_getElem h]; simp [h]
theorem timed_ok : timed_vc := by
  unfold timed_vc
  simp only [bad_false, int0, nilOf, decide_eq_true_eq, decide_eq_false_iff_not, Bool.not_eq_true', Bool.not_eq_false', Bool.not_true, Bool.not_false, Bool.false_eq_true, Bool.true_eq_false, eq_self, true_and, and_true, false_or, or_false, false_implies, true_implies, implies_true, Int.not_lt, Int.not_le, gt_iff_lt, ge_iff_le, ne_eq]
  intro m hml d os hos ss hss hp
  obtain ⟨hm, hd, hk, hfew⟩ := hp
  have hw := hd.win
  have hmO : ∀ (x : MapD), some m = some x → MapOk x := fun x hx => by injection hx with hx; subst hx; exact hm
  refine ⟨fun out now at' load i => 0 ≤ i ∧ i ≤ ss.length ∧ (out.length : Int) = i ∧ AtOk m at' now ∧ -(i * 1000) ≤ load ∧ load ≤ i * 1000 ∧ driveT m d os ss = rest m d os out (ss.take i.toNat) (ss.drop i.toNat) ⟨now, at', load⟩,
    fun _ _ _ _ i => ss.length - i.toNat, ⟨by omega, by omega, rfl, hd.start, by omega, by omega, ?_⟩, fun out now at' load i hi => ⟨fun h => ?_, fun h => ?_⟩⟩
  · unfold driveT rest
    show driveGo m d os [] ss ⟨d.lo, d.home, 0⟩ = match driveGo m d os [] ss ⟨d.lo, d.home, 0⟩ with | .error f => .error f | .ok vs => .ok ([] ++ vs)
    cases driveGo m d os [] ss ⟨d.lo, d.home, 0⟩ <;> rfl
  · obtain ⟨i0, i1, i2, hat, l0, l1, hR⟩ := hi
    obtain ⟨e1, e2, e3⟩ := next_ix (d := FK.zero .stop) hss.le i0 h
    have hil : i.toNat < ss.length := by omega
    have hlen : ((ss.take i.toNat).length : Int) = i := by rw [List.length_take]; omega
    have hsn := take_snoc (d := FK.zero .stop) hil
    rw [e3] at hR
    rw [part_zero, e1]
    generalize ss.getD i.toNat (FK.zero .stop) = s at *
    refine ⟨⟨i0, h⟩, hil, ⟨by omega, by omega, by omega⟩, by rw [show Int.toNat 0 = 0 from rfl]; omega, fun hw1 => ?_, fun hw1 => ?_⟩
    · rw [rest_wrong hw1] at hR
      rw [hR, fauR_error]
      exact ⟨⟨hlen.symm, rfl⟩, rfl⟩
    · obtain ⟨ho, _, _⟩ := fo_ok hk (wrongE_some hw1)
      have hsz := ho.size
      have hst : SiteOk m (stopSite os s) := siteOf_ok ho s.drop
      obtain ⟨r1, r2, r3⟩ := reach hm hat hst
      have hS : siteOf (fo os s.order) s.drop = stopSite os s := rfl
      have hsv1 := @served_none m at' now d.hi (stopSite os s)
      have hsv2 := @served_some m at' now d.hi (stopSite os s)
      rw [hS, r1, r2, show (Win.mk (stopSite os s).lo (stopSite os s).hi) = (stopSite os s).win from rfl]
      generalize begin_ (stopSite os s).win (now + tm m at' (stopSite os s).pl) = B at *
      generalize hA : now + tm m at' (stopSite os s).pl = arr at *
      have f14 : ∀ ld, loadOf os s load = ld → d.room < ld → (i = (fauR (driveT m d os ss)).spot ∧ 14 = (fauR (driveT m d os ss)).why) ∧ visR (driveT m d os ss) = [] := by
        rintro ld rfl hr
        have := rest_load (m := m) (out := out) (ahead := ss.take i.toNat) (l := ss.drop (i.toNat + 1)) (p := ⟨now, at', load⟩) hw1 hr
        rw [hR, this, fauR_error]
        exact ⟨⟨hlen.symm, rfl⟩, rfl⟩
      have f15 : ∀ ld, loadOf os s load = ld → ld ≤ d.room → served m at' now (stopSite os s) d.hi = none → (i = (fauR (driveT m d os ss)).spot ∧ 15 = (fauR (driveT m d os ss)).why) ∧ visR (driveT m d os ss) = [] := by
        rintro ld rfl hr hn
        have := rest_late (m := m) (out := out) (ahead := ss.take i.toNat) (l := ss.drop (i.toNat + 1)) (p := ⟨now, at', load⟩) hw1 hr hn
        rw [hR, this, fauR_error]
        exact ⟨⟨hlen.symm, rfl⟩, rfl⟩
      have fok : ∀ ld, loadOf os s load = ld → ld ≤ d.room → B.2 = true → B.1 + (stopSite os s).sv ≤ d.hi → AtOk m (stopSite os s).pl (B.1 + (stopSite os s).sv) ∧
          driveT m d os ss = rest m d os (out ++ [⟨s.order, s.drop, arr, B.1, B.1 + (stopSite os s).sv, ld⟩]) (ss.take (i + 1).toNat) (ss.drop (i + 1).toNat) ⟨B.1 + (stopSite os s).sv, (stopSite os s).pl, ld⟩ := by
        rintro ld rfl hr hb hl
        have hsv := hsv2 hb hl
        refine ⟨served_at (u := d.hi) hat.left.1 hm hst (by omega) hsv, ?_⟩
        have := rest_next (m := m) (out := out) (ahead := ss.take i.toNat) (l := ss.drop (i.toNat + 1)) (p := ⟨now, at', load⟩) hw1 hr hsv
        rw [hR, this, hsn, e2]
        dsimp only
        rw [hA]
      have hgot : (out.length + 1) * (8 * 6) ≤ 140737488355328 := by omega
      have all : ∀ ld, loadOf os s load = ld → -((i + 1) * 1000) ≤ ld → ld ≤ (i + 1) * 1000 → (d.room < ld → (i = (fauR (driveT m d os ss)).spot ∧ 14 = (fauR (driveT m d os ss)).why) ∧ visR (driveT m d os ss) = []) ∧
          (ld ≤ d.room → (∀ (x : MapD), some m = some x → MapOk x) ∧ (B.2 = true → (d.hi < wrap (B.1 + (stopSite os s).sv) → (i = (fauR (driveT m d os ss)).spot ∧ 15 = (fauR (driveT m d os ss)).why) ∧ visR (driveT m d os ss) = []) ∧
            (wrap (B.1 + (stopSite os s).sv) ≤ d.hi → (out.length + 1) * (8 * 6) ≤ 140737488355328 ∧
              (0 ≤ i + 1 ∧ i + 1 ≤ ss.length ∧ ((out ++ [Visit.mk s.order s.drop arr B.1 (wrap (B.1 + (stopSite os s).sv)) ld]).length : Int) = i + 1 ∧ AtOk m (stopSite os s).pl (wrap (B.1 + (stopSite os s).sv)) ∧ -((i + 1) * 1000) ≤ ld ∧ ld ≤ (i + 1) * 1000 ∧
                driveT m d os ss = rest m d os (out ++ [Visit.mk s.order s.drop arr B.1 (wrap (B.1 + (stopSite os s).sv)) ld]) (ss.take (i + 1).toNat) (ss.drop (i + 1).toNat) ⟨wrap (B.1 + (stopSite os s).sv), (stopSite os s).pl, ld⟩) ∧
              ss.length - (i + 1).toNat < ss.length - i.toNat)) ∧
            (B.2 = false → (i = (fauR (driveT m d os ss)).spot ∧ 15 = (fauR (driveT m d os ss)).why) ∧ visR (driveT m d os ss) = [])) := by
        intro ld hld b0 b1
        refine ⟨f14 ld hld, fun hr => ⟨hmO, fun hb => ?_, fun hb => f15 ld hld hr (hsv1 (.inl hb))⟩⟩
        rw [(r3 hb).2.2]
        refine ⟨fun hl => f15 ld hld hr (hsv1 (.inr hl)), fun hl => ⟨hgot, ?_, by omega⟩⟩
        obtain ⟨k1, k2⟩ := fok ld hld hr hb hl
        exact ⟨by omega, by omega, (by simp; omega), k1, b0, b1, k2⟩
      refine ⟨fun hdr => ?_, fun hdr => ?_⟩
      · have hld : loadOf os s load = load - (fo os s.order).size := by unfold loadOf; rw [if_pos hdr]
        rw [wrap_id (n := load - (fo os s.order).size) (by omega) (by omega)]
        exact all _ hld (by omega) (by omega)
      · have hld : loadOf os s load = load + (fo os s.order).size := by unfold loadOf; rw [if_neg (by rw [hdr]; decide)]
        rw [wrap_id (n := load + (fo os s.order).size) (by omega) (by omega)]
        exact all _ hld (by omega) (by omega)
  · obtain ⟨i0, i1, i2, hat, l0, l1, hR⟩ := hi
    rw [end_ix h, rest_end, List.take_of_length_le (by omega)] at hR
    refine ⟨fun hl => ?_, fun hl => ?_⟩
    · rw [if_pos hl] at hR
      rw [hR]; exact ⟨⟨rfl, rfl⟩, rfl⟩
    · rw [if_neg (by dsimp only; omega)] at hR
      rw [hR]; exact ⟨⟨rfl, rfl⟩, rfl⟩
theorem timed_t : Told Try.prog 36 timed_con := timed_told (csOk_cons wrong_t (csOk_cons site_t (csOk_cons time_t (csOk_cons begin_t csOk_nil)))) timed_ok
end Go.Eng
