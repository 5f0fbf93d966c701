/- The statements of orders and drivers: it is so. -/
import Derived.Test.YtnhcbklgkhpkgaaDealLawVc
set_option linter.unusedVariables false
set_option linter.unusedSimpArgs false
namespace Go.Eng
open Go Go.Proofs

theorem newC_t : Told Try.prog 8 newC_con := by
  refine told_alt (ps := [.c .i, .c (.a (.f .int))]) new_t fun x _ => ⟨trivial, fun a ha h => ?_⟩
  obtain ⟨n, ts, _⟩ := x
  have ha : a = ⟨some (newE n ts ≠ 0), [.c .np, .c (.i (newE n ts))]⟩ ∨ a = ⟨some (newE n ts = 0), [.p true 63 [.i n, .o .int 3 ts], .c (.i 0)]⟩ := by
    have : a ∈ ([⟨some (newE n ts ≠ 0), [.c .np, .c (.i (newE n ts))]⟩, ⟨some (newE n ts = 0), [.p true 63 [.i n, .o .int 3 ts], .c (.i 0)]⟩] : List Alt) := ha
    simpa using this
  rcases ha with rfl | rfl
  · refine ⟨_, List.mem_singleton.2 rfl, ?_⟩
    have h : newE n ts ≠ 0 := h
    rw [decide_eq_false h]
    exact ⟨trivial, rfl⟩
  · refine ⟨_, List.mem_singleton.2 rfl, ?_⟩
    have h : newE n ts = 0 := h
    rw [decide_eq_true h]
    exact ⟨trivial, rfl⟩
theorem tmod_emod {n k : Int} (hk : 0 < k) : (n.tmod k < 0 → n % k = n.tmod k + k) ∧ (0 ≤ n.tmod k → n % k = n.tmod k) ∧ -k < n.tmod k ∧ n.tmod k < k := by
  have h1 : n.tmod k < k := Int.tmod_lt_of_pos n hk
  have h2 : -k < n.tmod k := by
    have := Int.lt_tmod_of_pos n hk
    exact this
  have h3 : n = n.tmod k + k * n.tdiv k := (Int.tmod_add_mul_tdiv n k).symm
  have h4 : n % k = n.tmod k % k := by
    have : (n.tmod k + k * n.tdiv k) % k = n.tmod k % k := Int.add_mul_emod_self_left _ _ _
    rw [← h3] at this; exact this
  refine ⟨fun h => ?_, fun h => ?_, h2, h1⟩
  · rw [h4, ← Int.add_emod_right, Int.emod_eq_of_lt (by omega) (by omega)]
  · rw [h4, Int.emod_eq_of_lt h h1]
theorem bwithin_bound {n lo hi : Int} (h : lo ≤ hi) : lo ≤ bwithin n lo hi ∧ bwithin n lo hi ≤ hi := by
  unfold bwithin
  have h1 := Int.emod_nonneg n (show hi - lo + 1 ≠ 0 by omega)
  have h2 := Int.emod_lt_of_pos n (show 0 < hi - lo + 1 by omega)
  omega
theorem bWithin_ok : bWithin_vc := by
  unfold bWithin_vc
  simp only [bad_false, int0, decide_eq_true_eq, decide_eq_false_iff_not, Bool.not_eq_true', Bool.not_eq_false', Bool.not_true, Bool.not_false, Bool.false_eq_true, Bool.true_eq_false, eq_self, true_and, and_true, false_or, or_false, false_implies, true_implies, implies_true, Int.not_lt, Int.not_le, gt_iff_lt, ge_iff_le, ne_eq]
  rintro n lo hi ⟨h1, h2, h3⟩
  have e1 : wrap (hi - lo) = hi - lo := wrap_id (by omega) (by omega)
  have e2 : wrap (hi - lo + 1) = hi - lo + 1 := wrap_id (by omega) (by omega)
  obtain ⟨t1, t2, t3, t4⟩ := tmod_emod (n := n) (k := hi - lo + 1) (by omega)
  rw [e1, e2]
  refine ⟨by omega, fun h => ?_, fun h => ?_⟩
  · have f1 : wrap (n.tmod (hi - lo + 1) + hi) = n.tmod (hi - lo + 1) + hi := wrap_id (by omega) (by omega)
    have f2 : wrap (n.tmod (hi - lo + 1) + hi - lo) = n.tmod (hi - lo + 1) + hi - lo := wrap_id (by omega) (by omega)
    have f3 : wrap (n.tmod (hi - lo + 1) + hi - lo + 1) = n.tmod (hi - lo + 1) + hi - lo + 1 := wrap_id (by omega) (by omega)
    rw [f1, f2, f3, wrap_id (by omega) (by omega)]
    unfold bwithin
    rw [t1 h]; omega
  · rw [wrap_id (by omega) (by omega)]
    unfold bwithin
    rw [t2 h]
theorem bWithin_t : Told Try.prog 31 bWithin_con := bWithin_told csOk_nil bWithin_ok
theorem wDriver_ok : wDriver_vc := by
  unfold wDriver_vc
  simp only [bad_false, int0, decide_eq_true_eq, decide_eq_false_iff_not, Bool.not_eq_true', Bool.not_eq_false', Bool.not_true, Bool.not_false, Bool.false_eq_true, Bool.true_eq_false, eq_self, true_and, and_true, false_or, or_false, false_implies, true_implies, implies_true, Int.not_lt, Int.not_le, gt_iff_lt, ge_iff_le, ne_eq]
  intro w ho a
  have hl := ho.2.1.le
  refine ⟨fun h => ?_, fun h => ?_⟩
  · have : wdriver w a = FK.zero .driver := by unfold wdriver; rw [if_pos (by omega)]
    rw [this]
    exact ⟨rfl, rfl, rfl, rfl, rfl, rfl⟩
  · have e : wrap ((w.drivers.length : Int) - 1) = (w.drivers.length : Int) - 1 := wrap_id (by omega) (by omega)
    have hd : wdriver w a = w.drivers.getD (bwithin a 0 ((w.drivers.length : Int) - 1)).toNat (FK.zero .driver) := by unfold wdriver; rw [if_neg (by omega)]
    have hb := bwithin_bound (n := a) (lo := 0) (hi := (w.drivers.length : Int) - 1) (by omega)
    rw [e, hd]
    refine ⟨by omega, by omega, by omega, rfl, rfl, rfl, rfl, rfl, rfl⟩
theorem wDriver_t : Told Try.prog 17 wDriver_con := wDriver_told (csOk_cons bWithin_t csOk_nil) wDriver_ok
theorem mapOkO_none : ∀ (x : MapD), none = some x → MapOk x := fun x h => by cases h
theorem mapOkO_some {n : Int} {ts : List Int} (h : newE n ts = 0) : ∀ (x : MapD), some ⟨n, ts⟩ = some x → MapOk x := fun x hx => by
  injection hx with hx
  subst hx
  exact newE_ok.1 h
theorem orderE_of {m : MapD} {o : Order} (h : OrderOk m o) : orderE (some m) o = 0 := by
  obtain ⟨h1, h2, h3, h4, h5, h6, h7, h8⟩ := h
  unfold orderE
  rw [if_neg, if_neg, if_neg, if_neg, if_neg] <;>
    simp only [Option.isNone_some, Bool.false_or, Bool.not_eq_true', Bool.not_eq_false, Bool.and_eq_true, within_iff, right_iff, place, inMap_iff] <;> omega
theorem driverE_of {m : MapD} {d : Driver} (h : DriverOk m d) : driverE (some m) d = 0 := by
  obtain ⟨h1, h2, h3, h4⟩ := h
  unfold driverE
  rw [if_neg, if_neg, if_neg, if_neg] <;>
    simp only [Option.isNone_some, Bool.false_or, Bool.not_eq_true', Bool.not_eq_false, Bool.and_eq_true, within_iff, right_iff, place, inMap_iff] <;> omega
/-- A site that is reached earlier is left no later. -/
theorem served_mono {m : MapD} {a l l' u u' : Int} {s s' : Site} {b' : Int × Int} (hl : l ≤ l') (hu : u' ≤ u) (hp : s.pl = s'.pl) (hlo : s.lo ≤ s'.lo) (h0 : 0 ≤ s.lo) (hhi : s.hi = s'.hi) (hsv : s.sv = s'.sv) (h : served m a l' s' u' = some b') :
    ∃ b, served m a l s u = some b ∧ b.1 ≤ b'.1 ∧ b.2 ≤ b'.2 := by
  obtain ⟨h1, h2, h3, h4, h5⟩ := served_spec h
  rw [← hp] at h2 h3
  have hb : begin_ s.win (l + tm m a s.pl) = (max (l + tm m a s.pl) s.lo, true) := by
    unfold begin_
    rw [if_pos]
    · rfl
    · rw [Bool.and_eq_true, right_iff, decide_eq_true_eq]
      refine ⟨?_, ?_⟩
      · show 0 ≤ s.lo ∧ s.lo ≤ s.hi ∧ s.hi ≤ 1000000
        omega
      · show _ ≤ s.hi
        omega
  refine ⟨_, served_some (by rw [hb]) (by rw [hb]; dsimp only; omega), ?_, ?_⟩ <;> rw [hb] <;> dsimp only <;> omega
/-- .. nothing changes where more time is let. -/
theorem served_more {m : MapD} {a l u u' : Int} {s : Site} {b : Int × Int} (hu : u ≤ u') (h : served m a l s u = some b) : served m a l s u' = some b := by
  unfold served at *
  split at h
  · rename_i hc
    rw [if_pos]
    · exact h
    · rw [Bool.and_eq_true, decide_eq_true_eq] at *
      exact ⟨hc.1, by omega⟩
  · cases h
theorem alone_zero {m : Option MapD} {d : Driver} {o : Order} (h : (alone m d o).2 = false) : (alone m d o).1 = 0 := by
  unfold alone at *
  split at h
  · rfl
  · split at h
    · rename_i hc; rw [if_pos hc]
    · rename_i hc
      rw [if_neg hc]
      split at h
      · rfl
      · split at h
        · rfl
        · cases h
theorem alone_true {m : MapD} {d : Driver} {o : Order} (h : (alone (some m) d o).2 = true) : orderE (some m) o = 0 ∧ driverE (some m) d = 0 ∧ o.size ≤ d.room ∧ ∃ a b, served m d.home d.lo o.pick d.hi = some a ∧ served m o.pp a.2 o.drop d.hi = some b ∧ alone (some m) d o = (b.2, true) := by
  by_cases h1 : orderE (some m) o = 0
  case neg => rw [alone_1 (.inl h1)] at h; cases h
  by_cases h2 : driverE (some m) d = 0
  case neg => rw [alone_1 (.inr (.inl h2))] at h; cases h
  by_cases h3 : o.size ≤ d.room
  case neg => rw [alone_1 (.inr (.inr (by omega)))] at h; cases h
  have he := alone_2 h1 h2 h3
  rw [he] at h
  refine ⟨h1, h2, h3, ?_⟩
  cases ha : served m d.home d.lo o.pick d.hi with
  | none => rw [ha] at h; cases h
  | some a =>
    rw [ha] at h he
    dsimp only at h he
    cases hb : served m o.pp a.2 o.drop d.hi with
    | none => rw [hb] at h; cases h
    | some b =>
      rw [hb] at he
      exact ⟨a, b, rfl, hb, he⟩
theorem alone_of {m : MapD} {d : Driver} {o : Order} {a b : Int × Int} (h1 : orderE (some m) o = 0) (h2 : driverE (some m) d = 0) (h3 : o.size ≤ d.room) (ha : served m d.home d.lo o.pick d.hi = some a) (hb : served m o.pp a.2 o.drop d.hi = some b) : alone (some m) d o = (b.2, true) := by
  rw [alone_2 h1 h2 h3, ha]
  dsimp only
  rw [hb]
theorem alone_more {m : MapD} {d : Driver} {o : Order} {r h : Int} (hr : d.room ≤ r) (hr' : r ≤ 1000 ∨ r = d.room) (hh : d.hi ≤ h) (hh' : h ≤ 1000000 ∨ h = d.hi) (hc : (alone (some m) d o).2 = true) :
    alone (some m) ⟨d.id, r, d.home, d.lo, h, d.retired⟩ o = alone (some m) d o := by
  obtain ⟨h1, h2, h3, a, b, ha, hb, he⟩ := alone_true hc
  have hd := driverE_ok h2
  rw [he]
  refine alone_of (a := a) (b := b) h1 (driverE_of ⟨hd.id, ?_, hd.home, ?_⟩) ?_ (served_more hh ha) (served_more hh hb)
  · have := hd.room; dsimp only; omega
  · have := hd.win; dsimp only; omega
  · dsimp only; omega
theorem alone_early {m : MapD} {d : Driver} {o : Order} {lo : Int} (hlo : d.lo ≤ lo) (h2 : driverE (some m) d = 0) (hc : (alone (some m) ⟨d.id, d.room, d.home, lo, d.hi, d.retired⟩ o).2 = true) :
    (alone (some m) d o).2 = true ∧ (alone (some m) d o).1 ≤ (alone (some m) ⟨d.id, d.room, d.home, lo, d.hi, d.retired⟩ o).1 := by
  obtain ⟨h1, _, h3, a, b, ha, hb, he⟩ := alone_true hc
  have ho := orderE_ok h1
  obtain ⟨a', ha', _, ha2⟩ := served_mono (u := d.hi) hlo (Int.le_refl _) rfl (Int.le_refl _) ho.pw.1 rfl rfl ha
  obtain ⟨b', hb', _, hb2⟩ := served_mono (u := d.hi) ha2 (Int.le_refl _) rfl (Int.le_refl _) ho.dw.1 rfl rfl hb
  rw [he, alone_of h1 h2 h3 ha' hb']
  exact ⟨rfl, hb2⟩
theorem alone_next {m : MapD} {d : Driver} {o : Order} {pf : Int} (hpf : o.pf ≤ pf) (h1 : orderE (some m) o = 0) (hc : (alone (some m) d ⟨o.id, o.size, o.pp, pf, o.pt, o.ps, o.dp, o.df, o.dt, o.ds⟩).2 = true) :
    (alone (some m) d o).2 = true ∧ (alone (some m) d o).1 ≤ (alone (some m) d ⟨o.id, o.size, o.pp, pf, o.pt, o.ps, o.dp, o.df, o.dt, o.ds⟩).1 := by
  obtain ⟨_, h2, h3, a, b, ha, hb, he⟩ := alone_true hc
  have ho := orderE_ok h1
  obtain ⟨a', ha', _, ha2⟩ := served_mono (s := o.pick) (s' := ⟨o.pp, pf, o.pt, o.ps⟩) (l := d.lo) (u := d.hi) (Int.le_refl _) (Int.le_refl _) rfl hpf ho.pw.1 rfl rfl ha
  obtain ⟨b', hb', _, hb2⟩ := served_mono (s := o.drop) (u := d.hi) ha2 (Int.le_refl _) rfl (Int.le_refl _) ho.dw.1 rfl rfl hb
  rw [he, alone_of h1 h2 h3 ha' hb']
  exact ⟨rfl, hb2⟩
theorem alone_range {m : MapD} (hm : MapOk m) {d : Driver} {o : Order} (hc : (alone (some m) d o).2 = true) : d.lo + o.ps + o.ds ≤ (alone (some m) d o).1 ∧ (alone (some m) d o).1 ≤ d.hi := by
  obtain ⟨h1, h2, h3, a, b, ha, hb, he⟩ := alone_true hc
  obtain ⟨_, a1, a2, a3, a4⟩ := served_spec ha
  obtain ⟨_, b1, b2, b3, b4⟩ := served_spec hb
  have t1 := (tm_bound hm d.home o.pick.pl).1
  have t2 := (tm_bound hm o.pp o.drop.pl).1
  have e1 : o.pick.sv = o.ps := rfl
  have e2 : o.drop.sv = o.ds := rfl
  rw [he]
  dsimp only
  omega
theorem small_ok : small_vc := by
  simp [small_vc, smallO, smallD]
theorem small_t : Told Try.prog 9 small_con := small_told csOk_nil small_ok
theorem dealRuns_ok : dealRuns_vc := by
  have hm : ∀ (x : MapD), some ⟨2, [0, 5, 7, 0]⟩ = some x → MapOk x := mapOkO_some (by decide)
  unfold dealRuns_vc
  simp only [bad_false, int0, decide_eq_true_eq, decide_eq_false_iff_not, Bool.not_eq_true', Bool.not_eq_false', Bool.not_true, Bool.not_false, Bool.false_eq_true, Bool.true_eq_false, eq_self, true_and, and_true, false_or, or_false, false_implies, true_implies, implies_true, Int.not_lt, Int.not_le, gt_iff_lt, ge_iff_le, ne_eq, eq_true hm]
  have e1 : orderE (some ⟨2, [0, 5, 7, 0]⟩) smallO = 0 := by decide
  have e2 : driverE (some ⟨2, [0, 5, 7, 0]⟩) smallD = 0 := by decide
  have e3 : orderE (some ⟨2, [0, 5, 7, 0]⟩) ⟨smallO.id, 0, smallO.pp, smallO.pf, smallO.pt, smallO.ps, smallO.dp, smallO.df, smallO.dt, smallO.ds⟩ = 14 := by decide
  have e4 : orderE (some ⟨2, [0, 5, 7, 0]⟩) ⟨smallO.id, smallO.size, 2, smallO.pf, smallO.pt, smallO.ps, smallO.dp, smallO.df, smallO.dt, smallO.ds⟩ = 12 := by decide
  have e5 : orderE (some ⟨2, [0, 5, 7, 0]⟩) ⟨smallO.id, smallO.size, smallO.pp, smallO.pf, smallO.pt, smallO.ps, smallO.dp, 5, 4, smallO.ds⟩ = 13 := by decide
  have e6 : orderE (some ⟨2, [0, 5, 7, 0]⟩) ⟨smallO.id, smallO.size, smallO.pp, smallO.pf, smallO.pt, smallO.ps, smallO.dp, smallO.df, smallO.dt, -1⟩ = 7 := by decide
  have a1 : alone (some ⟨2, [0, 5, 7, 0]⟩) smallD smallO = (16, true) := by decide
  have a2 : alone (some ⟨2, [0, 5, 7, 0]⟩) ⟨smallD.id, 2, smallD.home, smallD.lo, smallD.hi, smallD.retired⟩ smallO = (0, false) := by decide
  have a3 : alone (some ⟨2, [0, 5, 7, 0]⟩) ⟨smallD.id, smallD.room, smallD.home, smallD.lo, 15, smallD.retired⟩ smallO = (0, false) := by decide
  have a4 : alone (some ⟨2, [0, 5, 7, 0]⟩) ⟨smallD.id, smallD.room, smallD.home, 3, smallD.hi, smallD.retired⟩ smallO = (0, false) := by decide
  simp [e1, e2, e3, e4, e5, e6, a1, a2, a3, a4]
theorem dealRuns_t : Told Try.prog 3 yes_con := dealRuns_told (csOk_cons newC_t (csOk_cons small_t (csOk_cons order_t (csOk_cons driver_t (csOk_cons alone_t csOk_nil))))) dealRuns_ok
theorem dealTells_ok : dealTells_vc := by
  unfold dealTells_vc
  simp only [bad_false, int0, decide_eq_true_eq, decide_eq_false_iff_not, Bool.not_eq_true', Bool.not_eq_false', Bool.not_true, Bool.not_false, Bool.false_eq_true, Bool.true_eq_false, eq_self, true_and, and_true, false_or, or_false, false_implies, true_implies, implies_true, Int.not_lt, Int.not_le, gt_iff_lt, ge_iff_le, ne_eq]
  intro w _ o d _
  refine ⟨fun h => ?_, fun h => ?_⟩
  · exact ⟨mapOkO_none, mapOkO_none, mapOkO_none, ⟨mapOkO_none, by simp⟩, by simp⟩
  · exact ⟨mapOkO_some h, mapOkO_some h, mapOkO_some h, ⟨mapOkO_some h, by simp⟩, by simp⟩
theorem dealTells_t : Told Try.prog 4 dealTells_con := dealTells_told (csOk_cons maps_t (csOk_cons alone_t (csOk_cons rAlone_t (csOk_cons order_t (csOk_cons rOrder_t (csOk_cons driver_t (csOk_cons rDriver_t (csOk_cons dealRuns_t csOk_nil)))))))) dealTells_ok
theorem dealKnows_ok : dealKnows_vc := by
  unfold dealKnows_vc
  simp only [bad_false, int0, decide_eq_true_eq, decide_eq_false_iff_not, Bool.not_eq_true', Bool.not_eq_false', Bool.not_true, Bool.not_false, Bool.false_eq_true, Bool.true_eq_false, eq_self, true_and, and_true, false_or, or_false, false_implies, true_implies, implies_true, Int.not_lt, Int.not_le, gt_iff_lt, ge_iff_le, ne_eq]
  intro w _ hg
  have hz : w.orders.length * 80 ≤ 140737488351232 := hg.is.2 (.a (.f .order) w.orders) (by simp [SK.enc])
  have hp : ∀ z : Order, part (roomy w.orders z) (Int.toNat 0) ((w.orders.length : Int).toNat - Int.toNat 0) = w.orders := fun z => by
    have : (w.orders.length : Int).toNat - Int.toNat 0 = w.orders.length := by omega
    rw [this]
    exact part_roomy w.orders z
  simp only [hp, roomy_length, same_self]
  refine ⟨fun h => ⟨hz, by omega, ⟨by omega, mapOkO_none⟩, by simp⟩, fun h => ⟨hz, by omega, ⟨by omega, mapOkO_some h⟩, by simp⟩⟩
theorem dealKnows_t : Told Try.prog 7 dealKnows_con := dealKnows_told (csOk_cons maps_t (csOk_cons roomyO_t (csOk_cons known_t (csOk_cons rKnown_t (csOk_cons intactO_t (csOk_cons dealRuns_t csOk_nil)))))) dealKnows_ok
theorem alone_none (d : Driver) (o : Order) : alone none d o = (0, false) := rfl
theorem dealMore_ok : dealMore_vc := by
  unfold dealMore_vc
  simp only [bad_false, int0, decide_eq_true_eq, decide_eq_false_iff_not, Bool.not_eq_true', Bool.not_eq_false', Bool.not_true, Bool.not_false, Bool.false_eq_true, Bool.true_eq_false, eq_self, true_and, and_true, false_or, or_false, false_implies, true_implies, implies_true, Int.not_lt, Int.not_le, gt_iff_lt, ge_iff_le, ne_eq]
  intro w _ o a r h hg
  refine ⟨fun h0 => ?_, fun h0 => ?_⟩
  · simp only [eq_true mapOkO_none, alone_none]
    simp
  · have hm := mapOkO_some h0
    simp only [eq_true hm]
    generalize wdriver w a = d
    generalize (⟨w.n, w.times⟩ : MapD) = m
    have z : ∀ d' : Driver, (alone (some m) d' o).2 = false → (alone (some m) d' o).1 = 0 := fun _ => alone_zero
    have k1 : d.room < r → r ≤ 1000 → (alone (some m) d o).2 = true → alone (some m) ⟨d.id, r, d.home, d.lo, d.hi, d.retired⟩ o = alone (some m) d o := fun h1 h2 => alone_more (by omega) (.inl h2) (Int.le_refl _) (.inr rfl)
    have k2 : d.hi < h → h ≤ 1000000 → (alone (some m) d o).2 = true → alone (some m) ⟨d.id, d.room, d.home, d.lo, h, d.retired⟩ o = alone (some m) d o := fun h1 h2 => alone_more (Int.le_refl _) (.inr rfl) (by omega) (.inl h2)
    have k3 : d.room < r → r ≤ 1000 → d.hi < h → h ≤ 1000000 → (alone (some m) d o).2 = true → alone (some m) ⟨d.id, r, d.home, d.lo, h, d.retired⟩ o = alone (some m) d o := fun h1 h2 h3 h4 => alone_more (by omega) (.inl h2) (by omega) (.inl h4)
    have z0 := z d
    clear z hg hm
    cases hc : (alone (some m) d o).2 with
    | false =>
      have z1 := z0 hc
      simp [z1]
    | true =>
      simp only [hc, true_implies] at k1 k2 k3
      grind
theorem dealMore_t : Told Try.prog 5 dealMore_con := dealMore_told (csOk_cons maps_t (csOk_cons wDriver_t (csOk_cons alone_t (csOk_cons dealRuns_t csOk_nil)))) dealMore_ok
end Go.Eng
