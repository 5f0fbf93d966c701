/- What the functions of maps tell is so. -/
import Derived.Test.YtindbdefjandkaaGeoVc
set_option linter.unusedVariables false
set_option linter.unusedSimpArgs false
namespace Go.Eng
open Go Go.Proofs

/-- The laws of the code's own making of a map: bounds for its loops. -/
theorem all_next' {l : List Int} {f : Int → Bool} {i : Int} (h0 : 0 ≤ i) (h : i < l.length) : (l.take (i + 1).toNat).all f = ((l.take i.toNat).all f && f (l.getD i.toNat 0)) := by
  have hi : i.toNat < l.length := by omega
  have e : (i + 1).toNat = i.toNat + 1 := by omega
  rw [e, List.take_add_one, List.getElem?_eq_getElem hi, List.all_append]
  simp [hi]
theorem range_next {n : Nat} {f : Nat → Bool} : (List.range (n + 1)).all f = ((List.range n).all f && f n) := by
  rw [List.range_succ, List.all_append]; simp
theorem all_not {l : List Int} {f : Int → Bool} {i : Int} (h0 : 0 ≤ i) (h : i < l.length) (hf : f (l.getD i.toNat 0) = false) : l.all f = false := by
  have hi : i.toNat < l.length := by omega
  rw [List.all_eq_false]
  refine ⟨l[i.toNat], List.getElem_mem hi, ?_⟩
  have : l.getD i.toNat 0 = l[i.toNat] := by simp [hi]
  rw [this] at hf; simp [hf]
theorem range_not {n k : Nat} {f : Nat → Bool} (h : k < n) (hf : f k = false) : (List.range n).all f = false := by
  rw [List.all_eq_false]
  exact ⟨k, by simp [h], by simp [hf]⟩
theorem newE_1 {n : Int} {ts : List Int} (h : n < 1 ∨ 12 < n) : newE n ts = 1 := by
  unfold newE; rw [if_pos (by simp; omega)]
theorem newE_2 {n : Int} {ts : List Int} (h1 : ¬ n < 1) (h2 : ¬ 12 < n) (h : ¬ (ts.length : Int) = n * n) : newE n ts = 2 := by
  unfold newE; rw [if_neg (by simp; omega), if_pos (by simp [h])]
theorem newE_7 {n : Int} {ts : List Int} (h1 : ¬ n < 1) (h2 : ¬ 12 < n) (h : (ts.length : Int) = n * n) (h3 : ts.all (fun t => decide (0 ≤ t) && decide (t ≤ 1000000)) = false) : newE n ts = 7 := by
  unfold newE; rw [if_neg (by simp; omega), if_neg (by simp [h]), if_pos (by rw [h3]; rfl)]
theorem newE_4 {n : Int} {ts : List Int} (h1 : ¬ n < 1) (h2 : ¬ 12 < n) (h : (ts.length : Int) = n * n) (h3 : ts.all (fun t => decide (0 ≤ t) && decide (t ≤ 1000000)) = true) (h4 : (List.range n.toNat).all (fun a => decide (ts.getD (a * n.toNat + a) 0 = 0)) = false) : newE n ts = 4 := by
  unfold newE; rw [if_neg (by simp; omega), if_neg (by simp [h]), if_neg (by rw [h3]; decide), if_pos (by rw [h4]; rfl)]
theorem newE_0 {n : Int} {ts : List Int} (h1 : ¬ n < 1) (h2 : ¬ 12 < n) (h : (ts.length : Int) = n * n) (h3 : ts.all (fun t => decide (0 ≤ t) && decide (t ≤ 1000000)) = true) (h4 : (List.range n.toNat).all (fun a => decide (ts.getD (a * n.toNat + a) 0 = 0)) = true) : newE n ts = 0 := by
  unfold newE; rw [if_neg (by simp; omega), if_neg (by simp [h]), if_neg (by rw [h3]; decide), if_neg (by rw [h4]; decide)]
theorem sq_wrap {n : Int} (h1 : ¬ n < 1) (h2 : ¬ 12 < n) : wrap (n * n) = n * n ∧ n * n ≤ 144 := by
  have h : n * n ≤ 12 * 12 := Int.mul_le_mul (by omega) (by omega) (by omega) (by omega)
  have h0 : 0 ≤ n * n := Int.mul_nonneg (by omega) (by omega)
  exact ⟨wrap_id (by omega) (by omega), by omega⟩
theorem bad_t {x : Int} (h : x < 0 ∨ 1000000 < x) : (decide (0 ≤ x) && decide (x ≤ 1000000)) = false := by
  rw [Bool.and_eq_false_iff, decide_eq_false_iff_not, decide_eq_false_iff_not]; omega
theorem good_t {x : Int} (h : 0 ≤ x) (h' : x ≤ 1000000) : (true && (decide (0 ≤ x) && decide (x ≤ 1000000))) = true := by
  rw [Bool.true_and, Bool.and_eq_true, decide_eq_true_eq, decide_eq_true_eq]; exact ⟨h, h'⟩
theorem new_ok : new_vc := by
  intro n ts hl
  have hl := hl.le
  simp only [bad_false, int0, nilOf, decide_eq_true_eq, decide_eq_false_iff_not, Bool.not_eq_true', Bool.not_eq_false', Bool.not_true, Bool.not_false, Bool.false_eq_true, Bool.true_eq_false, eq_self, true_and, and_true, false_or, or_false, false_implies, true_implies, implies_true, Int.not_lt, Int.not_le, gt_iff_lt, ge_iff_le, ne_eq]
  refine ⟨fun h1 => ⟨fun h2 => ?_, fun h2 => ⟨fun h3 => ?_, fun h3 => ?_⟩⟩, fun h1 => ?_⟩
  · rw [newE_1 (.inr h2)]; decide
  · rw [(sq_wrap (by omega) (by omega)).1] at h3
    rw [newE_2 (by omega) (by omega) h3]; decide
  · obtain ⟨hsq, hsq2⟩ := sq_wrap (n := n) (by omega) (by omega)
    rw [hsq] at h3
    refine ⟨fun i => 0 ≤ i ∧ i ≤ (ts.length : Int) ∧ (ts.take i.toNat).all (fun t => decide (0 ≤ t) && decide (t ≤ 1000000)) = true, fun i => ts.length - i.toNat, ⟨by omega, by omega, by simp⟩, fun i hi => ⟨fun h => ?_, fun h => ?_⟩⟩
    · obtain ⟨i0, i1, i2⟩ := hi
      rw [wrap_id (n := i + 1) (by omega) (by omega)]
      refine ⟨⟨i0, h⟩, by omega, fun h4 => ⟨fun h5 => ?_, fun h5 => ⟨⟨by omega, by omega, ?_⟩, by dsimp only; omega⟩⟩, fun h4 => ?_⟩
      · rw [newE_7 (by omega) (by omega) h3 (all_not i0 h (bad_t (.inr h5)))]; decide
      · rw [all_next' i0 h, i2]; exact good_t h4 h5
      · rw [newE_7 (by omega) (by omega) h3 (all_not i0 h (bad_t (.inl h4)))]; decide
    · have hall : ts.all (fun t => decide (0 ≤ t) && decide (t ≤ 1000000)) = true := by
        have := hi.2.2
        rwa [List.take_of_length_le (by omega)] at this
      refine ⟨fun i => 0 ≤ i ∧ i ≤ n ∧ (List.range i.toNat).all (fun a => decide (ts.getD (a * n.toNat + a) 0 = 0)) = true, fun i => n.toNat - i.toNat, ⟨by omega, by omega, by simp⟩, fun i hi => ⟨fun h => ?_, fun h => ?_⟩⟩
      · obtain ⟨i0, i1, i2⟩ := hi
        obtain ⟨e1, e2⟩ := ix_eq (n := n) (a := i) (d := i) (by omega) i0 h i0 h
        have hlen : ts.length = n.toNat * n.toNat := by
          have : (n.toNat : Int) = n := by omega
          have h5 : (ts.length : Int) = ((n.toNat * n.toNat : Nat) : Int) := by rw [h3, Int.natCast_mul, this]
          exact_mod_cast h5
        rw [e1, wrap_id (n := i + 1) (by omega) (by omega), Int.toNat_natCast]
        refine ⟨⟨by omega, by omega⟩, by omega, fun h4 => ?_, fun h4 => ⟨⟨by omega, by omega, ?_⟩, by dsimp only; omega⟩⟩
        · rw [newE_4 (by omega) (by omega) h3 hall (range_not (k := i.toNat) (by omega) (decide_eq_false h4))]; decide
        · rw [show (i + 1).toNat = i.toNat + 1 by omega, range_next, i2, Bool.true_and]; exact decide_eq_true h4
      · dsimp only at hi
        have : i.toNat = n.toNat := by omega
        rw [this] at hi
        refine ⟨by omega, newE_0 (by omega) (by omega) h3 hall hi.2.2⟩
  · rw [newE_1 (.inl h1)]; decide
theorem rNew_ok : rNew_vc := by
  intro n ts hl
  have hl := hl.le
  simp only [bad_false, int0, nilOf, decide_eq_true_eq, decide_eq_false_iff_not, Bool.not_eq_true', Bool.not_eq_false', Bool.not_true, Bool.not_false, Bool.false_eq_true, Bool.true_eq_false, eq_self, true_and, and_true, false_or, or_false, false_implies, true_implies, implies_true, Int.not_lt, Int.not_le, gt_iff_lt, ge_iff_le, ne_eq]
  refine ⟨fun h1 => ⟨fun h2 => ?_, fun h2 => ⟨fun h3 => ?_, fun h3 => ?_⟩⟩, fun h1 => ?_⟩
  · rw [newE_1 (.inr h2)]; decide
  · rw [(sq_wrap (by omega) (by omega)).1] at h3
    rw [newE_2 (by omega) (by omega) h3]; decide
  · obtain ⟨hsq, hsq2⟩ := sq_wrap (n := n) (by omega) (by omega)
    rw [hsq] at h3
    refine ⟨fun i => 0 ≤ i ∧ i ≤ (ts.length : Int) ∧ (ts.take i.toNat).all (fun t => decide (0 ≤ t) && decide (t ≤ 1000000)) = true, fun i => ts.length - i.toNat, ⟨by omega, by omega, by simp⟩, fun i hi => ⟨fun h => ?_, fun h => ?_⟩⟩
    · obtain ⟨i0, i1, i2⟩ := hi
      rw [wrap_id (n := i + 1) (by omega) (by omega)]
      refine ⟨⟨i0, h⟩, by omega, fun h4 => ⟨⟨i0, h⟩, by omega, fun h5 => ?_, fun h5 => ⟨⟨by omega, by omega, ?_⟩, by dsimp only; omega⟩⟩, fun h4 => ?_⟩
      · rw [newE_7 (by omega) (by omega) h3 (all_not i0 h (bad_t (.inr h5)))]; decide
      · rw [all_next' i0 h, i2]; exact good_t h4 h5
      · rw [newE_7 (by omega) (by omega) h3 (all_not i0 h (bad_t (.inl h4)))]; decide
    · have hall : ts.all (fun t => decide (0 ≤ t) && decide (t ≤ 1000000)) = true := by
        have := hi.2.2
        rwa [List.take_of_length_le (by omega)] at this
      refine ⟨fun i => 0 ≤ i ∧ i ≤ n ∧ (List.range i.toNat).all (fun a => decide (ts.getD (a * n.toNat + a) 0 = 0)) = true, fun i => n.toNat - i.toNat, ⟨by omega, by omega, by simp⟩, fun i hi => ⟨fun h => ?_, fun h => ?_⟩⟩
      · obtain ⟨i0, i1, i2⟩ := hi
        obtain ⟨e1, e2⟩ := ix_eq (n := n) (a := i) (d := i) (by omega) i0 h i0 h
        have hlen : ts.length = n.toNat * n.toNat := by
          have : (n.toNat : Int) = n := by omega
          have h5 : (ts.length : Int) = ((n.toNat * n.toNat : Nat) : Int) := by rw [h3, Int.natCast_mul, this]
          exact_mod_cast h5
        rw [e1, wrap_id (n := i + 1) (by omega) (by omega), Int.toNat_natCast]
        refine ⟨⟨by omega, by omega⟩, by omega, fun h4 => ?_, fun h4 => ⟨⟨by omega, by omega, ?_⟩, by dsimp only; omega⟩⟩
        · rw [newE_4 (by omega) (by omega) h3 hall (range_not (k := i.toNat) (by omega) (decide_eq_false h4))]; decide
        · rw [show (i + 1).toNat = i.toNat + 1 by omega, range_next, i2, Bool.true_and]; exact decide_eq_true h4
      · dsimp only at hi
        have : i.toNat = n.toNat := by omega
        rw [this] at hi
        refine ⟨by omega, newE_0 (by omega) (by omega) h3 hall hi.2.2, rfl⟩
  · rw [newE_1 (.inl h1)]; decide
theorem inMap_iff {m : MapD} {a : Int} : inMap m a = true ↔ 0 ≤ a ∧ a < m.n := by simp [inMap]
theorem mtime_out {m : MapD} {a b : Int} (h : ¬ (0 ≤ a ∧ a < m.n ∧ 0 ≤ b ∧ b < m.n)) : mtime (some m) a b = (0, false) := by
  unfold mtime
  dsimp only
  rw [if_neg]
  rw [Bool.and_eq_true, inMap_iff, inMap_iff]
  omega
theorem mtime_in {m : MapD} {a b : Int} (h1 : 0 ≤ a) (h2 : a < m.n) (h3 : 0 ≤ b) (h4 : b < m.n) : mtime (some m) a b = (tm m a b, true) := by
  unfold mtime
  dsimp only
  rw [if_pos]
  rw [Bool.and_eq_true, inMap_iff, inMap_iff]
  omega
theorem time_ok : time_vc := by
  refine ⟨fun a b _ => by simp [mtime], fun m hl a b hm => ?_⟩
  have hm := hm m rfl
  simp only [bad_false, int0, nilOf, decide_eq_true_eq, decide_eq_false_iff_not, Bool.not_eq_true', Bool.not_eq_false', Bool.not_true, Bool.not_false, Bool.false_eq_true, Bool.true_eq_false, eq_self, true_and, and_true, false_or, or_false, false_implies, true_implies, implies_true, Int.not_lt, Int.not_le, gt_iff_lt, ge_iff_le, ne_eq]
  refine ⟨fun h1 => ⟨fun h2 => ⟨fun h3 => ⟨fun h4 => ?_, fun h4 => ?_⟩, fun h3 => ?_⟩, fun h2 => ?_⟩, fun h1 => ?_⟩
  all_goals first
    | (rw [mtime_out (by omega)]; exact ⟨rfl, rfl⟩)
    | (obtain ⟨e1, e2⟩ := ix_eq (n := m.n) (a := a) (d := b) hm.hi (by omega) (by omega) (by omega) (by omega)
       have := hm.len
       rw [e1, Int.toNat_natCast, mtime_in (by omega) (by omega) (by omega) (by omega)]
       exact ⟨⟨by omega, by omega⟩, by omega, rfl, rfl⟩)
theorem rTime_ok : rTime_vc := by
  intro m hl a b hm
  simp only [bad_false, int0, nilOf, decide_eq_true_eq, decide_eq_false_iff_not, Bool.not_eq_true', Bool.not_eq_false', Bool.not_true, Bool.not_false, Bool.false_eq_true, Bool.true_eq_false, eq_self, true_and, and_true, false_or, or_false, false_implies, true_implies, implies_true, Int.not_lt, Int.not_le, gt_iff_lt, ge_iff_le, ne_eq]
  refine ⟨fun h1 => ⟨fun h2 => ⟨fun h3 => ⟨fun h4 => ?_, fun h4 => ?_⟩, fun h3 => ?_⟩, fun h2 => ?_⟩, fun h1 => ?_⟩
  all_goals first
    | (rw [mtime_out (by omega)]; exact ⟨rfl, rfl⟩)
    | (obtain ⟨e1, e2⟩ := ix_eq (n := m.n) (a := a) (d := b) hm.hi (by omega) (by omega) (by omega) (by omega)
       have := hm.len
       rw [e1, Int.toNat_natCast, mtime_in (by omega) (by omega) (by omega) (by omega)]
       exact ⟨⟨by omega, by omega⟩, by omega, rfl, rfl⟩)
theorem places_ok : places_vc := by
  simp [places_vc, places]
theorem mapOk_len {m : MapD} (h : MapOk m) : m.l.length ≤ 144 := by
  have := h.len
  have h1 := h.lo
  have h2 := h.hi
  have h3 : m.n.toNat * m.n.toNat ≤ 12 * 12 := Nat.mul_le_mul (by omega) (by omega)
  omega
/-- Times that may stand in a map. -/
structure TimesOk (n : Nat) (l : List Int) : Prop where
  len : l.length = n * n
  pos : ∀ i, 0 ≤ l.getD i 0
  top : ∀ i, l.getD i 0 ≤ 1000000
theorem itr_pres {α : Type} {f : Nat → α → α} {p : α → Prop} (h : ∀ k x, p x → p (f k x)) : ∀ k {x : α}, p x → p (itr f k x)
  | 0, _, hx => hx
  | k + 1, _, hx => h k _ (itr_pres h k hx)
theorem getD_set {l : List Int} {i j : Nat} {x : Int} (hi : i < l.length) : (l.set i x).getD j 0 = if j = i then x else l.getD j 0 := by
  rw [List.getD_eq_getElem?_getD, List.getD_eq_getElem?_getD, List.getElem?_set]
  by_cases h : i = j
  · subst h; simp [hi]
  · rw [if_neg h, if_neg (Ne.symm h)]
theorem relax_ok {n b a d : Nat} {l : List Int} (h : TimesOk n l) : TimesOk n (relax n b a d l) := by
  unfold relax
  by_cases hi : a * n + d < l.length
  · have hp := h.pos (a * n + b)
    have hq := h.pos (b * n + d)
    have hr := h.pos (a * n + d)
    have ht := h.top (a * n + d)
    refine ⟨by rw [List.length_set]; exact h.len, fun i => ?_, fun i => ?_⟩ <;> rw [getD_set hi] <;> split
    · omega
    · exact h.pos i
    · omega
    · exact h.top i
  · rw [List.set_eq_of_length_le (by omega)]; exact h
theorem fwA_ok {n b a : Nat} {l : List Int} (h : TimesOk n l) : TimesOk n (fwA n b a l) := itr_pres (fun _ _ h => relax_ok h) n h
theorem fwB_ok {n b : Nat} {l : List Int} (h : TimesOk n l) : TimesOk n (fwB n b l) := itr_pres (fun _ _ h => fwA_ok h) n h
theorem fw_ok {n : Nat} {l : List Int} (h : TimesOk n l) : TimesOk n (fw n l) := itr_pres (fun _ _ h => fwB_ok h) n h
theorem MapOk.times {m : MapD} (h : MapOk m) : TimesOk m.n.toNat m.l := ⟨h.len, h.pos, h.top⟩
theorem ret_n {n : Int} (h : n ≤ 12) (i : Int) (h0 : 0 ≤ i) (h1 : i < n) : wrap (i + 1) = i + 1 ∧ (i + 1).toNat = i.toNat + 1 := ⟨wrap_id (by omega) (by omega), by omega⟩
theorem new_t : Told Try.prog 9 new_con := new_told csOk_nil new_ok
theorem rNew_t : Told Try.prog 29 rNew_con := rNew_told csOk_nil rNew_ok
theorem time_t : Told Try.prog 27 time_con := time_told csOk_nil time_ok
theorem rTime_t : Told Try.prog 33 rTime_con := rTime_told csOk_nil rTime_ok
theorem places_t : Told Try.prog 54 places_con := places_told csOk_nil places_ok
end Go.Eng
