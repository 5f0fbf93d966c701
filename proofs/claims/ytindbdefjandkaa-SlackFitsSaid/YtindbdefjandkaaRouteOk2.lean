/- What the functions that drive tell is so: driving whole routes, what they cost; the document's own. -/
import Derived.Test.YtindbdefjandkaaRouteOk
set_option linter.unusedVariables false
set_option linter.unusedSimpArgs false
namespace Go.Eng
open Go Go.Proofs

theorem fitB_iff {m : MapD} {d : Driver} {os : List Order} {ss : List Stop} : fitB (some m) d os ss = true ↔ driverE (some m) d = 0 ∧ knownO (some m) os = true ∧ ss.length ≤ 80 := by
  simp only [fitB, Bool.and_eq_true, decide_eq_true_eq, and_assoc]
theorem fitB_none {d : Driver} {os : List Order} {ss : List Stop} : fitB none d os ss = false := by
  simp [fitB, driverE_none]
theorem fit_pre {m : MapD} {d : Driver} {os : List Order} {ss : List Stop} (hm : MapOk m) (h : fitB (some m) d os ss = true) : TimedPre m d os ss := by
  obtain ⟨h1, h2, h3⟩ := fitB_iff.1 h
  exact ⟨hm, driverE_ok h1, h2, h3⟩
theorem drive_unfit {m : Option MapD} {d : Driver} {os : List Order} {ss : List Stop} (h : fitB m d os ss = false) : drive m d os ss = .error ⟨0, 1⟩ := by
  cases m with
  | none => rfl
  | some m => simp [drive, h]
theorem drive_fit {m : MapD} {d : Driver} {os : List Order} {ss : List Stop} (h : fitB (some m) d os ss = true) : drive (some m) d os ss = driveT m d os ss := by
  simp [drive, h]
theorem drive_ok : drive_vc := by
  unfold drive_vc
  simp only [bad_false, int0, nilOf, decide_eq_true_eq, decide_eq_false_iff_not, Bool.not_eq_true', Bool.not_eq_false', Bool.not_true, Bool.not_false, Bool.false_eq_true, Bool.true_eq_false, eq_self, true_and, and_true, false_or, or_false, false_implies, true_implies, implies_true, Int.not_lt, Int.not_le, gt_iff_lt, ge_iff_le, ne_eq]
  refine ⟨fun d os _ ss _ hm => ⟨hm, fun h => ?_, fun h => ?_⟩, fun m _ d os _ ss _ hm => ⟨hm, fun h => ?_, fun h => ?_⟩⟩
  · rw [drive_unfit h]; exact ⟨⟨rfl, rfl⟩, rfl⟩
  · rw [fitB_none] at h; cases h
  · rw [drive_unfit h]; exact ⟨⟨rfl, rfl⟩, rfl⟩
  · rw [drive_fit h]
    exact ⟨fit_pre (hm m rfl) h, ⟨rfl, rfl⟩, rfl⟩
theorem drive_t : Told Try.prog 21 drive_con := drive_told (csOk_cons fit_t (csOk_cons timed_t csOk_nil)) drive_ok

/-! ### What a drive says of its stops -/
theorem driveGo_all {m : MapD} {d : Driver} {os : List Order} : ∀ {l ahead : List Stop} {p : Pos} {vs : List Visit}, driveGo m d os ahead l p = .ok vs → vs.length = l.length ∧ ∀ s ∈ l, (findO os s.order).isSome = true
  | [], ahead, p, vs, h => by
    unfold driveGo at h
    split at h
    · cases h
    · injection h with h; subst h; exact ⟨rfl, fun s hs => by cases hs⟩
  | s :: l, ahead, p, vs, h => by
    unfold driveGo at h
    split at h
    · cases h
    · rename_i v hv
      split at h
      · cases h
      · rename_i vs' hvs
        injection h with h
        subst h
        obtain ⟨h1, h2⟩ := driveGo_all hvs
        refine ⟨by simp [h1], fun s' hs' => ?_⟩
        rcases List.mem_cons.1 hs' with rfl | hs'
        · unfold tryStop at hv
          split at hv
          · cases hv
          · rename_i hw
            exact wrongE_some (by simpa using hw)
        · exact h2 s' hs'
theorem tryStop_err {m : MapD} {d : Driver} {os : List Order} {ahead : List Stop} {s : Stop} {p : Pos} {e : Int} (h : tryStop m d os ahead s p = .error e) : e = wrongE os ahead s ∧ e ≠ 0 ∨ e = 14 ∨ e = 15 := by
  unfold tryStop at h
  split at h
  · rename_i hw
    injection h with h
    exact .inl ⟨h.symm, by rw [← h]; exact hw⟩
  · split at h
    · injection h with h; exact .inr (.inl h.symm)
    · split at h
      · injection h with h; exact .inr (.inr h.symm)
      · cases h
theorem driveGo_why {m : MapD} {d : Driver} {os : List Order} : ∀ {l ahead : List Stop} {p : Pos} {f : Fault}, driveGo m d os ahead l p = .error f → f.why ≠ 0
  | [], ahead, p, f, h => by
    unfold driveGo at h
    split at h
    · injection h with h; subst h; exact (by decide : (18 : Int) ≠ 0)
    · cases h
  | s :: l, ahead, p, f, h => by
    unfold driveGo at h
    split at h
    · rename_i e he
      injection h with h
      subst h
      rcases tryStop_err he with ⟨_, h⟩ | h | h
      · exact h
      · show e ≠ 0; omega
      · show e ≠ 0; omega
    · split at h
      · rename_i f' hf
        injection h with h
        subst h
        exact driveGo_why hf
      · cases h
theorem drive_good {m : Option MapD} {d : Driver} {os : List Order} {ss : List Stop} (h : good (fauR (drive m d os ss)) = true) : ∃ x vs, m = some x ∧ fitB m d os ss = true ∧ driveT x d os ss = .ok vs ∧ drive m d os ss = .ok vs := by
  cases hf : fitB m d os ss with
  | false =>
    rw [drive_unfit hf] at h
    cases h
  | true =>
    cases m with
    | none => rw [fitB_none] at hf; cases hf
    | some x =>
      rw [drive_fit hf] at h ⊢
      cases hr : driveT x d os ss with
      | ok vs => exact ⟨x, vs, rfl, rfl, hr, rfl⟩
      | error f =>
        rw [hr] at h
        have := driveGo_why hr
        exact absurd (of_decide_eq_true h) this
theorem wayGo_bound {m : MapD} {os : List Order} (hm : MapOk m) : ∀ (l : List Stop) (a : Int), 0 ≤ wayGo m os a l ∧ wayGo m os a l ≤ l.length * 1000000
  | [], a => by simp [wayGo]
  | s :: l, a => by
    have := wayGo_bound (os := os) hm l (stopSite os s).pl
    have := tm_bound hm a (stopSite os s).pl
    simp only [wayGo, List.length_cons]
    omega
theorem cost_bad {m : Option MapD} {d : Driver} {os : List Order} {ss : List Stop} (h : good (fauR (drive m d os ss)) = false) : cost m d os ss = (0, false) := by
  cases m with
  | none => rfl
  | some m => simp [cost, h]
theorem cost_good {m : MapD} {d : Driver} {os : List Order} {ss : List Stop} (h : good (fauR (drive (some m) d os ss)) = true) : cost (some m) d os ss = (way m d os ss, true) := by
  simp [cost, h]
theorem way_pre {m : MapD} {d : Driver} {os : List Order} {ss : List Stop} (hm : MapOk m) (h : good (fauR (drive (some m) d os ss)) = true) : WayPre m d os ss := by
  obtain ⟨x, vs, hx, hf, hr, _⟩ := drive_good h
  injection hx with hx
  subst hx
  obtain ⟨h1, h2, h3⟩ := fitB_iff.1 hf
  exact ⟨hm, (driverE_ok h1).home, h2, h3, (driveGo_all hr).2⟩

/-! ### The document's own -/
theorem ixO_none : ∀ {os : List Order} {id k : Int}, findO os id = none → ixO os id k = -1
  | [], _, _, _ => rfl
  | o :: l, id, k, h => by
    unfold findO at h
    unfold ixO
    split at h
    · cases h
    · rename_i he
      rw [if_neg he]; exact ixO_none h
theorem ixO_some : ∀ {os : List Order} {id k : Int} {o : Order}, findO os id = some o → k ≤ ixO os id k ∧ ixO os id k < k + os.length ∧ os.getD (ixO os id k - k).toNat (FK.zero .order) = o
  | [], _, _, _, h => by cases h
  | x :: l, id, k, o, h => by
    unfold findO at h
    unfold ixO
    split at h
    · rename_i he
      injection h with h
      rw [if_pos he, Int.sub_self]
      subst h
      refine ⟨by omega, by simp; omega, rfl⟩
    · rename_i he
      rw [if_neg he]
      obtain ⟨h1, h2, h3⟩ := ixO_some (k := k + 1) h
      refine ⟨by omega, by simp; omega, ?_⟩
      have : (ixO l id (k + 1) - k).toNat = (ixO l id (k + 1) - (k + 1)).toNat + 1 := by omega
      rw [this]
      exact h3
theorem ixO_neg {os : List Order} {id : Int} (h : ixO os id 0 < 0) : findO os id = none := by
  cases hf : findO os id with
  | none => rfl
  | some o => have := (ixO_some (k := 0) hf).1; omega
theorem ixO_pos {os : List Order} {id : Int} (h : 0 ≤ ixO os id 0) : (findO os id).isSome = true ∧ ixO os id 0 < os.length ∧ os.getD (ixO os id 0).toNat (FK.zero .order) = fo os id := by
  cases hf : findO os id with
  | none => rw [ixO_none hf] at h; omega
  | some o =>
    obtain ⟨h1, h2, h3⟩ := ixO_some (k := 0) hf
    rw [Int.sub_zero] at h3
    refine ⟨rfl, by omega, ?_⟩
    unfold fo; rw [h3, hf]; rfl
theorem rFind_ok : rFind_vc := by
  unfold rFind_vc
  simp only [bad_false, int0, nilOf, decide_eq_true_eq, decide_eq_false_iff_not, Bool.not_eq_true', Bool.not_eq_false', Bool.not_true, Bool.not_false, Bool.false_eq_true, Bool.true_eq_false, eq_self, true_and, and_true, false_or, or_false, false_implies, true_implies, implies_true, Int.not_lt, Int.not_le, gt_iff_lt, ge_iff_le, ne_eq]
  intro os hl id
  have hl := hl.le
  refine ⟨fun i => 0 ≤ i ∧ i ≤ os.length ∧ ixO os id 0 = ixO (os.drop i.toNat) id i, fun i => os.length - i.toNat, ⟨by omega, by omega, rfl⟩, fun i hi => ⟨fun h => ?_, fun h => ?_⟩⟩
  · obtain ⟨i0, i1, i2⟩ := hi
    obtain ⟨e1, e2, e3⟩ := next_ix (d := FK.zero .order) hl i0 h
    rw [e3, ixO] at i2
    rw [e1]
    refine ⟨⟨i0, h⟩, by omega, fun he => ?_, fun he => ⟨⟨by omega, by omega, ?_⟩, by dsimp only; omega⟩⟩
    · rw [if_pos he] at i2; exact i2.symm
    · rw [if_neg he] at i2
      rw [e2]; exact i2
  · have i2 := hi.2.2
    rw [end_ix h, ixO] at i2
    exact i2.symm
theorem rFind_t : Told Try.prog 32 rFind_con := rFind_told csOk_nil rFind_ok
theorem rSite_ok : rSite_vc := by
  intro o s
  obtain ⟨a, b⟩ := s
  cases b <;> simp [siteOf, Order.pick, Order.drop]
theorem rSite_t : Told Try.prog 31 rSite_con := rSite_told csOk_nil rSite_ok
theorem rStands_ok : rStands_vc := by
  unfold rStands_vc
  simp only [bad_false, int0, nilOf, decide_eq_true_eq, decide_eq_false_iff_not, Bool.not_eq_true', Bool.not_eq_false', Bool.not_true, Bool.not_false, Bool.false_eq_true, Bool.true_eq_false, eq_self, true_and, and_true, false_or, or_false, false_implies, true_implies, implies_true, Int.not_lt, Int.not_le, gt_iff_lt, ge_iff_le, ne_eq]
  intro l hl s
  have hl := hl.le
  refine ⟨fun i => 0 ≤ i ∧ i ≤ l.length ∧ (l.take i.toNat).any (fun x => sEq x s) = false, fun i => l.length - i.toNat, ⟨by omega, by omega, rfl⟩, fun i hi => ⟨fun h => ?_, fun h => ?_⟩⟩
  · obtain ⟨i0, i1, i2⟩ := hi
    obtain ⟨e1, e2, e3⟩ := next_ix (d := FK.zero .stop) hl i0 h
    have hs := stands_step (l := l) (s := s) (i := i.toNat) (by omega)
    rw [i2, Bool.false_or] at hs
    rw [e1]
    refine ⟨⟨i0, h⟩, by omega, fun he => ?_, fun he => ⟨⟨by omega, by omega, ?_⟩, by dsimp only; omega⟩⟩
    · unfold stands
      symm
      rw [List.any_eq_true]
      refine ⟨l.getD i.toNat (FK.zero .stop), ?_, ?_⟩
      · rw [getD_of (by omega)]; exact List.getElem_mem _
      · unfold sEq; simpa using he
    · rw [e2, hs]; unfold sEq; simpa using he
  · have i2 := hi.2.2
    rw [List.take_of_length_le (by omega)] at i2
    unfold stands; exact i2.symm
theorem rStands_t : Told Try.prog 40 rStands_con := rStands_told csOk_nil rStands_ok
theorem rDrive_ok : rDrive_vc := by
  unfold rDrive_vc
  simp only [bad_false, int0, nilOf, decide_eq_true_eq, decide_eq_false_iff_not, Bool.not_eq_true', Bool.not_eq_false', Bool.not_true, Bool.not_false, Bool.false_eq_true, Bool.true_eq_false, eq_self, true_and, and_true, false_or, or_false, false_implies, true_implies, implies_true, Int.not_lt, Int.not_le, gt_iff_lt, ge_iff_le, ne_eq]
  refine ⟨fun d os _ ss _ _ => ?_, fun m _ d os hos ss hss hm => ?_⟩
  · rw [driverE_none]
    exact ⟨fun h => absurd h (by decide), fun _ => ⟨⟨rfl, rfl⟩, rfl⟩⟩
  · have hm := hm m rfl
    refine ⟨fun h1 => ⟨fun h2 => ⟨fun h3 => ?_, fun h3 => ?_⟩, fun h2 => ?_⟩, fun h1 => ?_⟩
    · rw [drive_unfit (by simp [fitB]; omega)]; exact ⟨⟨rfl, rfl⟩, rfl⟩
    · have hf : fitB (some m) d os ss = true := fitB_iff.2 ⟨h1, h2, by omega⟩
      obtain ⟨_, hd, hk, hfew⟩ := fit_pre hm hf
      have hw := hd.win
      rw [drive_fit hf]
      refine ⟨fun out at' now load i => 0 ≤ i ∧ i ≤ ss.length ∧ (out.length : Int) = i ∧ AtOk m at' now ∧ -(i * 1000) ≤ load ∧ load ≤ i * 1000 ∧ driveT m d os ss = rest m d os out (ss.take i.toNat) (ss.drop i.toNat) ⟨now, at', load⟩,
        fun _ _ _ _ i => ss.length - i.toNat, ⟨by omega, by omega, rfl, hd.start, by omega, by omega, ?_⟩, fun out at' now load i hi => ⟨fun h => ?_, fun h => ?_⟩⟩
      · unfold driveT rest
        show driveGo m d os [] ss ⟨d.lo, d.home, 0⟩ = match driveGo m d os [] ss ⟨d.lo, d.home, 0⟩ with | .error f => .error f | .ok vs => .ok ([] ++ vs)
        cases driveGo m d os [] ss ⟨d.lo, d.home, 0⟩ <;> rfl
      · obtain ⟨i0, i1, i2, hat, l0, l1, hR⟩ := hi
        obtain ⟨e1, e2, e3⟩ := next_ix (d := FK.zero .stop) hss.le i0 h
        have hil : i.toNat < ss.length := by omega
        have hlen : ((ss.take i.toNat).length : Int) = i := by rw [List.length_take]; omega
        have hsn := take_snoc (d := FK.zero .stop) hil
        rw [e3] at hR
        rw [part_zero, e1]
        generalize ss.getD i.toNat (FK.zero .stop) = s at *
        have hcut : Int.toNat 0 + (i.toNat - Int.toNat 0) ≤ ss.length := by rw [show Int.toNat 0 = 0 from rfl]; omega
        have bad : ∀ e : Int, wrongE os (ss.take i.toNat) s = e → e ≠ 0 → (i = (fauR (driveT m d os ss)).spot ∧ e = (fauR (driveT m d os ss)).why) ∧ visR (driveT m d os ss) = [] := by
          rintro e rfl he
          rw [hR, rest_wrong he, fauR_error]
          exact ⟨⟨hlen.symm, rfl⟩, rfl⟩
        refine ⟨⟨i0, h⟩, hil, fun hx => ?_, fun hx => ⟨by omega, hcut, fun hs1 => ?_, fun hs1 => ?_⟩⟩
        · exact bad 8 (by unfold wrongE; rw [if_pos (by rw [ixO_neg hx]; rfl)]) (by decide)
        · obtain ⟨x1, _, _⟩ := ixO_pos hx
          exact bad 16 (by unfold wrongE; rw [if_neg (by rw [Option.isNone_iff_eq_none]; intro hn; rw [hn] at x1; cases x1), if_pos hs1]) (by decide)
        · obtain ⟨x1, x2, x3⟩ := ixO_pos hx
          have hnn : ¬ (findO os s.order).isNone = true := by rw [Option.isNone_iff_eq_none]; intro hn; rw [hn] at x1; cases x1
          rw [x3]
          obtain ⟨ho, _, _⟩ := fo_ok hk x1
          have hsz := ho.size
          have hst : SiteOk m (stopSite os s) := siteOf_ok ho s.drop
          rw [show siteOf (fo os s.order) s.drop = stopSite os s from rfl]
          obtain ⟨r1, r2, r3⟩ := reach hm hat hst
          rw [r1, r2]
          have all : wrongE os (ss.take i.toNat) s = 0 → ∀ ld, loadOf os s load = ld → -((i + 1) * 1000) ≤ ld → ld ≤ (i + 1) * 1000 → (d.room < ld → (i = (fauR (driveT m d os ss)).spot ∧ 14 = (fauR (driveT m d os ss)).why) ∧ visR (driveT m d os ss) = []) ∧
              (ld ≤ d.room → MapOk m ∧ (MapOk m ∧ AtOk m at' now ∧ SiteOk m (stopSite os s)) ∧ ((served m at' now (stopSite os s) d.hi).isSome = false → (i = (fauR (driveT m d os ss)).spot ∧ 15 = (fauR (driveT m d os ss)).why) ∧ visR (driveT m d os ss) = []) ∧
                ((served m at' now (stopSite os s) d.hi).isSome = true → (out.length + 1) * (8 * 6) ≤ 140737488355328 ∧
                  (0 ≤ i + 1 ∧ i + 1 ≤ ss.length ∧ ((out ++ [Visit.mk s.order s.drop (now + tm m at' (stopSite os s).pl) ((served m at' now (stopSite os s) d.hi).getD (0, 0)).1 ((served m at' now (stopSite os s) d.hi).getD (0, 0)).2 ld]).length : Int) = i + 1 ∧ AtOk m (stopSite os s).pl ((served m at' now (stopSite os s) d.hi).getD (0, 0)).2 ∧ -((i + 1) * 1000) ≤ ld ∧ ld ≤ (i + 1) * 1000 ∧
                    driveT m d os ss = rest m d os (out ++ [Visit.mk s.order s.drop (now + tm m at' (stopSite os s).pl) ((served m at' now (stopSite os s) d.hi).getD (0, 0)).1 ((served m at' now (stopSite os s) d.hi).getD (0, 0)).2 ld]) (ss.take (i + 1).toNat) (ss.drop (i + 1).toNat) ⟨((served m at' now (stopSite os s) d.hi).getD (0, 0)).2, (stopSite os s).pl, ld⟩) ∧
                  ss.length - (i + 1).toNat < ss.length - i.toNat)) := by
            rintro hw1 ld rfl b0 b1
            refine ⟨fun hr => ?_, fun hr => ⟨hm, ⟨hm, hat, hst⟩, fun hn => ?_, fun hn => ?_⟩⟩
            · have := rest_load (m := m) (out := out) (ahead := ss.take i.toNat) (l := ss.drop (i.toNat + 1)) (p := ⟨now, at', load⟩) hw1 hr
              rw [hR, this, fauR_error]
              exact ⟨⟨hlen.symm, rfl⟩, rfl⟩
            · have hn : served m at' now (stopSite os s) d.hi = none := by simpa using hn
              have := rest_late (m := m) (out := out) (ahead := ss.take i.toNat) (l := ss.drop (i.toNat + 1)) (p := ⟨now, at', load⟩) hw1 hr hn
              rw [hR, this, fauR_error]
              exact ⟨⟨hlen.symm, rfl⟩, rfl⟩
            · obtain ⟨b, hb⟩ := Option.isSome_iff_exists.1 hn
              rw [hb]
              have := rest_next (m := m) (out := out) (ahead := ss.take i.toNat) (l := ss.drop (i.toNat + 1)) (p := ⟨now, at', load⟩) hw1 hr hb
              refine ⟨by omega, ⟨by omega, by omega, (by simp; omega), served_at (u := d.hi) hat.left.1 hm hst (by omega) hb, b0, b1, ?_⟩, by omega⟩
              rw [hR, this, hsn, e2]
              rfl
          have both : wrongE os (ss.take i.toNat) s = 0 → (s.drop = true → wrap (load - (fo os s.order).size) = loadOf os s load ∧ -((i + 1) * 1000) ≤ loadOf os s load ∧ loadOf os s load ≤ (i + 1) * 1000) ∧ (s.drop = false → wrap (load + (fo os s.order).size) = loadOf os s load ∧ -((i + 1) * 1000) ≤ loadOf os s load ∧ loadOf os s load ≤ (i + 1) * 1000) := fun _ => by
            refine ⟨fun hdr => ?_, fun hdr => ?_⟩
            · have hld : loadOf os s load = load - (fo os s.order).size := by unfold loadOf; rw [if_pos hdr]
              rw [hld]; exact ⟨wrap_id (by omega) (by omega), by omega, by omega⟩
            · have hld : loadOf os s load = load + (fo os s.order).size := by unfold loadOf; rw [if_neg (by rw [hdr]; decide)]
              rw [hld]; exact ⟨wrap_id (by omega) (by omega), by omega, by omega⟩
          refine ⟨fun hdr => ⟨by omega, hcut, fun hs2 => ?_, fun hs2 => ⟨⟨hx, x2⟩, by omega, fun _ => ?_, fun hdr' => (by rw [hdr] at hdr'; cases hdr')⟩⟩, fun hdr => ⟨⟨hx, x2⟩, by omega, fun hdr' => (by rw [hdr] at hdr'; cases hdr'), fun _ => ?_⟩⟩
          · exact bad 17 (by unfold wrongE; rw [if_neg hnn, if_neg (by rw [hs1]; decide), if_pos (by rw [hdr, hs2]; rfl)]) (by decide)
          · have hw0 : wrongE os (ss.take i.toNat) s = 0 := by unfold wrongE; rw [if_neg hnn, if_neg (by rw [hs1]; decide), if_neg (by rw [hdr, hs2]; decide)]
            obtain ⟨b1, b2, b3⟩ := (both hw0).1 hdr
            rw [b1]
            exact all hw0 _ rfl b2 b3
          · have hw0 : wrongE os (ss.take i.toNat) s = 0 := by unfold wrongE; rw [if_neg hnn, if_neg (by rw [hs1]; decide), if_neg (by rw [hdr, Bool.false_and]; decide)]
            obtain ⟨b1, b2, b3⟩ := (both hw0).2 hdr
            rw [b1]
            exact all hw0 _ rfl b2 b3
      · obtain ⟨i0, i1, i2, hat, l0, l1, hR⟩ := hi
        rw [end_ix h, rest_end, List.take_of_length_le (by omega)] at hR
        refine ⟨fun hl => ?_, fun hl => ?_⟩
        · rw [if_pos hl] at hR
          rw [hR]; exact ⟨⟨rfl, rfl⟩, rfl⟩
        · rw [if_neg (by dsimp only; omega)] at hR
          rw [hR]; exact ⟨⟨rfl, rfl⟩, rfl⟩
    · rw [drive_unfit (by simp [fitB, h2])]; exact ⟨⟨rfl, rfl⟩, rfl⟩
    · rw [drive_unfit (by simp [fitB, h1])]; exact ⟨⟨rfl, rfl⟩, rfl⟩
theorem rDrive_t : Told Try.prog 30 rDrive_con := rDrive_told (csOk_cons rDriver_t (csOk_cons rKnown_t (csOk_cons rFind_t (csOk_cons rStands_t (csOk_cons rSite_t (csOk_cons rTime_t (csOk_cons served_t csOk_nil))))))) rDrive_ok
end Go.Eng
