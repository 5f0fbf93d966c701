/- What the functions that look at orders and drivers tell is so. -/
import Derived.Test.YtindbdefjandkaaDealVc
set_option linter.unusedVariables false
set_option linter.unusedSimpArgs false
namespace Go.Eng
open Go Go.Proofs

structure OrderOk (m : MapD) (o : Order) : Prop where
  id : 1 ≤ o.id ∧ o.id ≤ 1000000
  size : 1 ≤ o.size ∧ o.size ≤ 1000
  pp : 0 ≤ o.pp ∧ o.pp < m.n
  dp : 0 ≤ o.dp ∧ o.dp < m.n
  pw : 0 ≤ o.pf ∧ o.pf ≤ o.pt ∧ o.pt ≤ 1000000
  dw : 0 ≤ o.df ∧ o.df ≤ o.dt ∧ o.dt ≤ 1000000
  ps : 0 ≤ o.ps ∧ o.ps ≤ 1000000
  ds : 0 ≤ o.ds ∧ o.ds ≤ 1000000
structure DriverOk (m : MapD) (d : Driver) : Prop where
  id : 1 ≤ d.id ∧ d.id ≤ 1000000
  room : 1 ≤ d.room ∧ d.room ≤ 1000
  home : 0 ≤ d.home ∧ d.home < m.n
  win : 0 ≤ d.lo ∧ d.lo ≤ d.hi ∧ d.hi ≤ 1000000
theorem right_iff {w : Win} : right w = true ↔ 0 ≤ w.lo ∧ w.lo ≤ w.hi ∧ w.hi ≤ 1000000 := by
  simp only [right, Bool.and_eq_true, decide_eq_true_eq]; omega
theorem within_iff {n a b : Int} : within n a b = true ↔ a ≤ n ∧ n ≤ b := by simp [within]
theorem orderE_ok {m : MapD} {o : Order} (h : orderE (some m) o = 0) : OrderOk m o := by
  unfold orderE at h
  split at h
  · cases h
  · split at h
    · cases h
    · split at h
      · cases h
      · split at h
        · cases h
        · split at h
          · cases h
          · simp only [Bool.not_eq_true, Bool.or_eq_false_iff, Bool.not_eq_false', Bool.and_eq_true, within_iff, right_iff, place, inMap_iff] at *
            constructor <;> omega
theorem driverE_ok {m : MapD} {d : Driver} (h : driverE (some m) d = 0) : DriverOk m d := by
  unfold driverE at h
  split at h
  · cases h
  · split at h
    · cases h
    · split at h
      · cases h
      · split at h
        · cases h
        · simp only [Bool.not_eq_true, Bool.or_eq_false_iff, Bool.not_eq_false', Bool.and_eq_true, within_iff, right_iff, place, inMap_iff] at *
          constructor <;> omega
theorem orderE_none (o : Order) : orderE none o = 1 := by simp [orderE]
theorem driverE_none (d : Driver) : driverE none d = 1 := by simp [driverE]
theorem place_none (p : Int) : place none p = false := rfl

theorem within_ok : within_vc := by
  unfold within_vc; intros; simp only [within]; grind
theorem within_t : Told Try.prog 50 within_con := within_told csOk_nil within_ok
theorem place_ok : place_vc := by
  refine ⟨fun p _ => ?_, fun m hl p hm => ?_⟩
  · rw [place_none, show wrap (places none - 1) = -1 from wrap_id (by decide) (by decide)]
    cases h : within p 0 (-1) with
    | false => rfl
    | true => rw [within_iff] at h; omega
  · have hm := hm m rfl
    have h1 := hm.lo
    have h2 := hm.hi
    rw [show wrap (places (some m) - 1) = m.n - 1 from wrap_id (by simp only [places]; omega) (by simp only [places]; omega)]
    simp only [place, within, inMap]
    grind
theorem place_t : Told Try.prog 51 place_con := place_told (csOk_cons places_t (csOk_cons within_t csOk_nil)) place_ok
theorem order_ok : order_vc := by
  refine ⟨fun o _ => (orderE_none o).symm, fun m hl o hm => ?_⟩
  simp only [orderE]; grind
theorem order_t : Told Try.prog 52 order_con := order_told (csOk_cons within_t (csOk_cons place_t (csOk_cons right_t csOk_nil))) order_ok
theorem driver_ok : driver_vc := by
  refine ⟨fun o _ => (driverE_none o).symm, fun m hl o hm => ?_⟩
  simp only [driverE]; grind
theorem driver_t : Told Try.prog 43 driver_con := driver_told (csOk_cons within_t (csOk_cons place_t (csOk_cons right_t csOk_nil))) driver_ok
theorem rPlace_ok : rPlace_vc := by
  unfold rPlace_vc; intros; simp only [place, inMap]; grind
theorem rPlace_t : Told Try.prog 47 rPlace_con := rPlace_told csOk_nil rPlace_ok
theorem rOrder_ok : rOrder_vc := by
  refine ⟨fun o => (orderE_none o).symm, fun m hl o => ?_⟩
  simp only [bad_false, int0, nilOf, decide_eq_true_eq, decide_eq_false_iff_not, Bool.not_eq_true', Bool.not_eq_false', Bool.not_true, Bool.not_false, Bool.false_eq_true, Bool.true_eq_false, eq_self, true_and, and_true, false_or, or_false, false_implies, true_implies, implies_true, Int.not_lt, Int.not_le, gt_iff_lt, ge_iff_le, ne_eq]
  have g1 : (o.id < 1 ∨ 1000000 < o.id) → orderE (some m) o = 1 := fun h => by
    unfold orderE; rw [if_pos]; simp only [within]; grind
  have g2 : 1 ≤ o.id → o.id ≤ 1000000 → orderE (some m) o = if !within o.size 1 1000 then 14 else if !(place (some m) o.pp && place (some m) o.dp) then 12 else if !(right ⟨o.pf, o.pt⟩ && right ⟨o.df, o.dt⟩) then 13 else if !(within o.ps 0 1000000 && within o.ds 0 1000000) then 7 else 0 := fun h h' => by
    unfold orderE; rw [if_neg]; simp only [within]; grind
  refine ⟨fun h1 => ⟨fun h2 => ?_, fun h2 => ?_⟩, fun h1 => ?_⟩
  · rw [g1 (.inr h2)]
  · rw [g2 h1 h2]; simp only [within]; grind
  · rw [g1 (.inl h1)]
theorem rOrder_t : Told Try.prog 48 rOrder_con := rOrder_told (csOk_cons rPlace_t (csOk_cons rRight_t csOk_nil)) rOrder_ok
theorem rDriver_ok : rDriver_vc := by
  refine ⟨fun o => (driverE_none o).symm, fun m hl o => ?_⟩
  simp only [driverE, within]; grind
theorem rDriver_t : Told Try.prog 38 rDriver_con := rDriver_told (csOk_cons rPlace_t (csOk_cons rRight_t csOk_nil)) rDriver_ok

/-! ### Lists of orders -/
theorem idFree_iff {os : List Order} {id : Int} : idFree os id = true ↔ ∀ p ∈ os, p.id ≠ id := by simp [idFree]
theorem getD_of {α : Type} {d : α} {l : List α} {i : Nat} (h : i < l.length) : l.getD i d = l[i] := by simp [h]
theorem known_bad {m : Option MapD} {os : List Order} {k : Nat} (h : k < os.length) (hk : okAt m os k = false) : knownO m os = false := by
  unfold knownO; rw [range_not h hk]; simp
theorem known_at {m : Option MapD} {os : List Order} (h : knownO m os = true) : os.length ≤ 40 ∧ ∀ k, k < os.length → orderE m (os.getD k (FK.zero .order)) = 0 ∧ idFree (os.take k) (os.getD k (FK.zero .order)).id = true := by
  simp only [knownO, okAt, Bool.and_eq_true, decide_eq_true_eq, List.all_eq_true, List.mem_range] at h
  exact h
/-- The conditions of Known, for a map that is there or not. -/
theorem known_gen (m : Option MapD) (os : List Order) (hl : LenOk os.length) (pre : Prop) (hm : pre) :
    (40 < (os.length : Int) → false = knownO m os) ∧ ((os.length : Int) ≤ 40 → ∃ (inv : Int → Prop) (μ : Int → Nat), inv 0 ∧ ∀ (i : Int), inv i →
      (i < os.length → (0 ≤ i ∧ i < (os.length : Int)) ∧ i.toNat < os.length ∧ pre ∧ (¬orderE m (os.getD i.toNat (FK.zero .order)) = 0 → false = knownO m os) ∧
        (orderE m (os.getD i.toNat (FK.zero .order)) = 0 → ((0 : Int) ≤ 0 ∧ 0 ≤ i ∧ i ≤ (os.length : Int)) ∧ ∃ (inv_1 : Int → Prop) (μ_1 : Int → Nat), inv_1 0 ∧ ∀ (k : Int), inv_1 k →
          (k < ((i.toNat - Int.toNat 0 : Nat) : Int) → (0 ≤ k ∧ k < ((i.toNat - Int.toNat 0 : Nat) : Int)) ∧ Int.toNat 0 + k.toNat < os.length ∧
            ((os.getD (Int.toNat 0 + k.toNat) (FK.zero .order)).id = (os.getD i.toNat (FK.zero .order)).id → false = knownO m os) ∧
            (¬(os.getD (Int.toNat 0 + k.toNat) (FK.zero .order)).id = (os.getD i.toNat (FK.zero .order)).id → inv_1 (wrap (k + 1)) ∧ μ_1 (wrap (k + 1)) < μ_1 k)) ∧
          (((i.toNat - Int.toNat 0 : Nat) : Int) ≤ k → inv (wrap (i + 1)) ∧ μ (wrap (i + 1)) < μ i))) ∧
      ((os.length : Int) ≤ i → true = knownO m os)) := by
  refine ⟨fun h => ?_, fun h => ?_⟩
  · unfold knownO; rw [decide_eq_false (by omega)]; rfl
  · refine ⟨fun i => 0 ≤ i ∧ i ≤ os.length ∧ (List.range i.toNat).all (okAt m os) = true, fun i => os.length - i.toNat, ⟨by omega, by omega, rfl⟩, fun i hi => ⟨fun h' => ?_, fun h' => ?_⟩⟩
    · obtain ⟨i0, i1, i2⟩ := hi
      refine ⟨⟨i0, h'⟩, by omega, hm, fun ho => ?_, fun ho => ⟨by omega, ?_⟩⟩
      · rw [known_bad (k := i.toNat) (by omega)]
        simp only [okAt]; rw [decide_eq_false ho]; rfl
      · have z0 : Int.toNat 0 = 0 := rfl
        rw [z0, Nat.sub_zero]
        refine ⟨fun k => 0 ≤ k ∧ k ≤ i ∧ idFree (os.take k.toNat) (os.getD i.toNat (FK.zero .order)).id = true, fun k => i.toNat - k.toNat, ⟨by omega, by omega, rfl⟩, fun k hk => ⟨fun h2 => ?_, fun h2 => ?_⟩⟩
        · obtain ⟨k0, k1, k2⟩ := hk
          have hkl : k.toNat < os.length := by omega
          rw [wrap_id (n := k + 1) (by omega) (by omega)]
          refine ⟨by omega, by omega, fun he => ?_, fun he => ⟨⟨by omega, by omega, ?_⟩, by dsimp only; omega⟩⟩
          · rw [known_bad (k := i.toNat) (by omega)]
            simp only [okAt]
            have : idFree (os.take i.toNat) (os.getD i.toNat (FK.zero .order)).id = false := by
              cases hf : idFree (os.take i.toNat) (os.getD i.toNat (FK.zero .order)).id with
              | false => rfl
              | true =>
                refine absurd he (idFree_iff.1 hf _ ?_)
                rw [Nat.zero_add, getD_of hkl]
                exact List.mem_take_iff_getElem.2 ⟨k.toNat, by omega, rfl⟩
            rw [this, Bool.and_false]
          · rw [show (k + 1).toNat = k.toNat + 1 by omega, idFree_iff]
            intro p hp
            rw [List.take_add_one, List.mem_append] at hp
            rcases hp with hp | hp
            · exact idFree_iff.1 k2 p hp
            · rw [List.getElem?_eq_getElem hkl] at hp
              simp only [Option.toList_some, List.mem_singleton] at hp
              rw [hp, ← getD_of (d := FK.zero .order) hkl]
              rwa [Nat.zero_add] at he
        · dsimp only at hk
          have : k.toNat = i.toNat := by omega
          rw [this] at hk
          rw [wrap_id (n := i + 1) (by omega) (by omega)]
          refine ⟨⟨by omega, by omega, ?_⟩, by dsimp only; omega⟩
          rw [show (i + 1).toNat = i.toNat + 1 by omega, range_next, i2, Bool.true_and]
          simp only [okAt]
          rw [decide_eq_true ho, hk.2.2]; rfl
    · dsimp only at hi
      have : i.toNat = os.length := by omega
      rw [this] at hi
      unfold knownO; rw [decide_eq_true (by omega), hi.2.2]; rfl
theorem known_ok : known_vc := by
  refine ⟨fun os hl hm => ?_, fun m _ os hl hm => ?_⟩ <;> simp only [bad_false, int0, nilOf, decide_eq_true_eq, decide_eq_false_iff_not, Bool.not_eq_true', Bool.not_eq_false', Bool.not_true, Bool.not_false, Bool.false_eq_true, Bool.true_eq_false, eq_self, true_and, and_true, false_or, or_false, false_implies, true_implies, implies_true, Int.not_lt, Int.not_le, gt_iff_lt, ge_iff_le, ne_eq]
  · exact known_gen none os hl _ hm
  · exact known_gen (some m) os hl _ hm
theorem known_t : Told Try.prog 44 known_con := known_told (csOk_cons order_t csOk_nil) known_ok
theorem rKnown_gen (m : Option MapD) (os : List Order) (hl : LenOk os.length) :
    (40 < (os.length : Int) → false = knownO m os) ∧ ((os.length : Int) ≤ 40 → ∃ (inv : Int → Prop) (μ : Int → Nat), inv 0 ∧ ∀ (i : Int), inv i →
      (i < os.length → (0 ≤ i ∧ i < (os.length : Int)) ∧ i.toNat < os.length ∧ (¬orderE m (os.getD i.toNat (FK.zero .order)) = 0 → false = knownO m os) ∧
        (orderE m (os.getD i.toNat (FK.zero .order)) = 0 → ∃ (inv_1 : Int → Prop) (μ_1 : Int → Nat), inv_1 0 ∧ ∀ (k : Int), inv_1 k →
          (k < i → (0 ≤ k ∧ k < (os.length : Int)) ∧ k.toNat < os.length ∧ (0 ≤ i ∧ i < (os.length : Int)) ∧ i.toNat < os.length ∧
            ((os.getD k.toNat (FK.zero .order)).id = (os.getD i.toNat (FK.zero .order)).id → false = knownO m os) ∧
            (¬(os.getD k.toNat (FK.zero .order)).id = (os.getD i.toNat (FK.zero .order)).id → inv_1 (wrap (k + 1)) ∧ μ_1 (wrap (k + 1)) < μ_1 k)) ∧
          (i ≤ k → inv (wrap (i + 1)) ∧ μ (wrap (i + 1)) < μ i))) ∧
      ((os.length : Int) ≤ i → true = knownO m os)) := by
  obtain ⟨h1, h2⟩ := known_gen m os hl True trivial
  refine ⟨h1, fun h => ?_⟩
  refine ⟨fun i => 0 ≤ i ∧ i ≤ os.length ∧ (List.range i.toNat).all (okAt m os) = true, fun i => os.length - i.toNat, ⟨by omega, by omega, rfl⟩, fun i hi => ⟨fun h' => ?_, fun h' => ?_⟩⟩
  · obtain ⟨i0, i1, i2⟩ := hi
    refine ⟨⟨i0, h'⟩, by omega, fun ho => ?_, fun ho => ?_⟩
    · rw [known_bad (k := i.toNat) (by omega)]
      simp only [okAt]; rw [decide_eq_false ho]; rfl
    · refine ⟨fun k => 0 ≤ k ∧ k ≤ i ∧ idFree (os.take k.toNat) (os.getD i.toNat (FK.zero .order)).id = true, fun k => i.toNat - k.toNat, ⟨by omega, by omega, rfl⟩, fun k hk => ⟨fun h2 => ?_, fun h2 => ?_⟩⟩
      · obtain ⟨k0, k1, k2⟩ := hk
        have hkl : k.toNat < os.length := by omega
        rw [wrap_id (n := k + 1) (by omega) (by omega)]
        refine ⟨by omega, by omega, by omega, by omega, fun he => ?_, fun he => ⟨⟨by omega, by omega, ?_⟩, by dsimp only; omega⟩⟩
        · rw [known_bad (k := i.toNat) (by omega)]
          simp only [okAt]
          have : idFree (os.take i.toNat) (os.getD i.toNat (FK.zero .order)).id = false := by
            cases hf : idFree (os.take i.toNat) (os.getD i.toNat (FK.zero .order)).id with
            | false => rfl
            | true =>
              refine absurd he (idFree_iff.1 hf _ ?_)
              rw [getD_of hkl]
              exact List.mem_take_iff_getElem.2 ⟨k.toNat, by omega, rfl⟩
          rw [this, Bool.and_false]
        · rw [show (k + 1).toNat = k.toNat + 1 by omega, idFree_iff]
          intro p hp
          rw [List.take_add_one, List.mem_append] at hp
          rcases hp with hp | hp
          · exact idFree_iff.1 k2 p hp
          · rw [List.getElem?_eq_getElem hkl] at hp
            simp only [Option.toList_some, List.mem_singleton] at hp
            rw [hp, ← getD_of (d := FK.zero .order) hkl]
            exact he
      · dsimp only at hk
        have : k.toNat = i.toNat := by omega
        rw [this] at hk
        rw [wrap_id (n := i + 1) (by omega) (by omega)]
        refine ⟨⟨by omega, by omega, ?_⟩, by dsimp only; omega⟩
        rw [show (i + 1).toNat = i.toNat + 1 by omega, range_next, i2, Bool.true_and]
        simp only [okAt]
        rw [decide_eq_true ho, hk.2.2]; rfl
  · dsimp only at hi
    have : i.toNat = os.length := by omega
    rw [this] at hi
    unfold knownO; rw [decide_eq_true (by omega), hi.2.2]; rfl
theorem rKnown_ok : rKnown_vc := by
  refine ⟨fun os hl => ?_, fun m _ os hl => ?_⟩ <;> simp only [bad_false, int0, nilOf, decide_eq_true_eq, decide_eq_false_iff_not, Bool.not_eq_true', Bool.not_eq_false', Bool.not_true, Bool.not_false, Bool.false_eq_true, Bool.true_eq_false, eq_self, true_and, and_true, false_or, or_false, false_implies, true_implies, implies_true, Int.not_lt, Int.not_le, gt_iff_lt, ge_iff_le, ne_eq]
  · exact rKnown_gen none os hl
  · exact rKnown_gen (some m) os hl
theorem rKnown_t : Told Try.prog 39 rKnown_con := rKnown_told (csOk_cons rOrder_t csOk_nil) rKnown_ok

/-! ### A site served -/
theorem tm_bound {m : MapD} (h : MapOk m) (a b : Int) : 0 ≤ tm m a b ∧ tm m a b ≤ 1000000 := ⟨h.pos _, h.top _⟩
theorem begin_true {w : Win} {t : Int} (h : (begin_ w t).2 = true) : (0 ≤ w.lo ∧ w.lo ≤ w.hi ∧ w.hi ≤ 1000000) ∧ t ≤ w.hi ∧ (begin_ w t).1 = max t w.lo := by
  unfold begin_ at *
  split at h
  · rename_i hc
    rw [if_pos hc]
    rw [Bool.and_eq_true, right_iff, decide_eq_true_eq] at hc
    exact ⟨hc.1, hc.2, rfl⟩
  · cases h
theorem served_none {m : MapD} {a l u : Int} {s : Site} (h : (begin_ s.win (l + tm m a s.pl)).2 = false ∨ u < (begin_ s.win (l + tm m a s.pl)).1 + s.sv) : served m a l s u = none := by
  unfold served
  rw [if_neg]
  rw [Bool.and_eq_true, decide_eq_true_eq]
  rintro ⟨h1, h2⟩
  rcases h with h | h
  · rw [h] at h1; cases h1
  · omega
theorem served_some {m : MapD} {a l u : Int} {s : Site} (h : (begin_ s.win (l + tm m a s.pl)).2 = true) (h' : (begin_ s.win (l + tm m a s.pl)).1 + s.sv ≤ u) :
    served m a l s u = some ((begin_ s.win (l + tm m a s.pl)).1, (begin_ s.win (l + tm m a s.pl)).1 + s.sv) := by
  unfold served
  rw [if_pos]
  rw [Bool.and_eq_true, decide_eq_true_eq]
  exact ⟨h, h'⟩
theorem served_spec {m : MapD} {a l u : Int} {s : Site} {b : Int × Int} (h : served m a l s u = some b) : (0 ≤ s.lo ∧ s.lo ≤ s.hi ∧ s.hi ≤ 1000000) ∧ l + tm m a s.pl ≤ s.hi ∧ b.1 = max (l + tm m a s.pl) s.lo ∧ b.2 = b.1 + s.sv ∧ b.2 ≤ u := by
  unfold served at h
  split at h
  · rename_i hc
    rw [Bool.and_eq_true, decide_eq_true_eq] at hc
    injection h with h
    subst h
    obtain ⟨h1, h2, h3⟩ := begin_true hc.1
    exact ⟨h1, h2, h3, rfl, hc.2⟩
  · cases h
/-- The conditions under which a site is reached. -/
theorem reach {m : MapD} {a l : Int} {s : Site} (hm : MapOk m) (ha : AtOk m a l) (hs : SiteOk m s) : (mtime (some m) a s.pl).1 = tm m a s.pl ∧ wrap (l + tm m a s.pl) = l + tm m a s.pl ∧
    ((begin_ s.win (l + tm m a s.pl)).2 = true → 0 ≤ (begin_ s.win (l + tm m a s.pl)).1 ∧ (begin_ s.win (l + tm m a s.pl)).1 ≤ 1000000 ∧ wrap ((begin_ s.win (l + tm m a s.pl)).1 + s.sv) = (begin_ s.win (l + tm m a s.pl)).1 + s.sv) := by
  have ht := tm_bound hm a s.pl
  have h1 := ha.left
  have h2 := hs.sv
  refine ⟨by rw [mtime_in ha.pl.1 ha.pl.2 hs.pl.1 hs.pl.2], wrap_id (by omega) (by omega), fun h => ?_⟩
  obtain ⟨h3, h4, h5⟩ := begin_true h
  have h6 : s.win.hi = s.hi := rfl
  have h7 : s.win.lo = s.lo := rfl
  rw [h5]
  refine ⟨by omega, by omega, wrap_id (by omega) (by omega)⟩
theorem served_ok : served_vc := by
  unfold served_vc
  intro m hl a l s u ⟨hm, ha, hs⟩
  obtain ⟨e1, e2, e3⟩ := reach hm ha hs
  simp only [bad_false, int0, nilOf, decide_eq_true_eq, decide_eq_false_iff_not, Bool.not_eq_true', Bool.not_eq_false', Bool.not_true, Bool.not_false, Bool.false_eq_true, Bool.true_eq_false, eq_self, true_and, and_true, false_or, or_false, false_implies, true_implies, implies_true, Int.not_lt, Int.not_le, gt_iff_lt, ge_iff_le, ne_eq]
  refine ⟨hm, ?_⟩
  rw [e1, e2, show (Win.mk s.lo s.hi) = s.win from rfl]
  refine ⟨fun h => ?_, fun h => ?_⟩
  · rw [(e3 h).2.2]
    refine ⟨fun h' => ?_, fun h' => ?_⟩
    · rw [served_none (.inr h')]; exact ⟨rfl, rfl, rfl⟩
    · rw [served_some h h']; exact ⟨rfl, rfl, rfl⟩
  · rw [served_none (.inl h)]; exact ⟨rfl, rfl, rfl⟩
theorem served_t : Told Try.prog 41 served_con := served_told (csOk_cons rTime_t (csOk_cons rBegin_t csOk_nil)) served_ok
theorem maps_ok : maps_vc := by
  unfold maps_vc
  simp only [bad_false, int0, nilOf, decide_eq_true_eq, decide_eq_false_iff_not, Bool.not_eq_true', Bool.not_eq_false', Bool.not_true, Bool.not_false, Bool.false_eq_true, Bool.true_eq_false, eq_self, true_and, and_true, false_or, or_false, false_implies, true_implies, implies_true, Int.not_lt, Int.not_le, gt_iff_lt, ge_iff_le, ne_eq]
  intro w _
  grind
theorem maps_t : Told Try.prog 15 maps_con := maps_told (csOk_cons new_t (csOk_cons rNew_t csOk_nil)) maps_ok
theorem OrderOk.pick {m : MapD} {o : Order} (h : OrderOk m o) : SiteOk m o.pick := ⟨h.pp, h.ps⟩
theorem OrderOk.drop {m : MapD} {o : Order} (h : OrderOk m o) : SiteOk m o.drop := ⟨h.dp, h.ds⟩
theorem DriverOk.start {m : MapD} {d : Driver} (h : DriverOk m d) : AtOk m d.home d.lo := ⟨h.home, by have := h.win; omega⟩
theorem served_at {m : MapD} {a l u : Int} {s : Site} {b : Int × Int} (ha : 0 ≤ l) (hm : MapOk m) (hs : SiteOk m s) (hu : u ≤ 1000000) (h : served m a l s u = some b) : AtOk m s.pl b.2 := by
  obtain ⟨h1, h2, h3, h4, h5⟩ := served_spec h
  have := hs.sv
  have := (tm_bound hm a s.pl).1
  exact ⟨hs.pl, by omega⟩
theorem alone_1 {m : MapD} {d : Driver} {o : Order} (h : orderE (some m) o ≠ 0 ∨ driverE (some m) d ≠ 0 ∨ d.room < o.size) : alone (some m) d o = (0, false) := by
  unfold alone
  dsimp only
  rw [if_pos]
  simp only [Bool.or_eq_true, Bool.not_eq_true', decide_eq_false_iff_not]
  rcases h with h | h | h
  · exact .inl (.inl h)
  · exact .inl (.inr h)
  · exact .inr (by omega)
theorem alone_2 {m : MapD} {d : Driver} {o : Order} (h1 : orderE (some m) o = 0) (h2 : driverE (some m) d = 0) (h3 : o.size ≤ d.room) : alone (some m) d o = match served m d.home d.lo o.pick d.hi with
      | none => (0, false)
      | some a => match served m o.pp a.2 o.drop d.hi with
        | none => (0, false)
        | some b => (b.2, true) := by
  unfold alone
  dsimp only
  rw [if_neg (by rw [h1, h2, decide_eq_true h3]; decide)]
  rfl
end Go.Eng
