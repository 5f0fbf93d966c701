/- Maps closed, in plain words: the closed times are even, nothing greater, and the greatest such; so they are the only ones. No program in sight. -/
import Derived.Test.YtidneanbjijjjaaGeoOk
set_option linter.unusedVariables false
set_option linter.unusedSimpArgs false
namespace Go.Eng
open Go

def tmL (n : Nat) (l : List Int) (i j : Nat) : Int := l.getD (i * n + j) 0
theorem itr_inv {α : Type} {f : Nat → α → α} {x : α} (I : Nat → α → Prop) {n : Nat} (h0 : I 0 x) (hs : ∀ k y, k < n → I k y → I (k + 1) (f k y)) : I n (itr f n x) := by
  have : ∀ k, k ≤ n → I k (itr f k x) := by
    intro k
    induction k with
    | zero => exact fun _ => h0
    | succ k ih => exact fun h => hs k _ (by omega) (ih (by omega))
  exact this n (Nat.le_refl _)
theorem tm_relax {n b a d : Nat} {l : List Int} (hl : l.length = n * n) (ha : a < n) (hd : d < n) {i j : Nat} (hi : i < n) (hj : j < n) :
    tmL n (relax n b a d l) i j = if i = a ∧ j = d then min (tmL n l a d) (tmL n l a b + tmL n l b d) else tmL n l i j := by
  unfold relax tmL
  rw [getD_set (by rw [hl]; exact ix_lt ha hd)]
  by_cases h : i = a ∧ j = d
  · obtain ⟨rfl, rfl⟩ := h
    simp
  · rw [if_neg h, if_neg]
    intro e
    exact h (ix_inj hj hd e)
structure Diag (n : Nat) (l : List Int) : Prop where
  is : ∀ i, i < n → tmL n l i i = 0
def mn (n b : Nat) (l : List Int) (i j : Nat) : Int := min (tmL n l i j) (tmL n l i b + tmL n l b j)
theorem tm_pos {n : Nat} {l : List Int} (h : TimesOk n l) (i j : Nat) : 0 ≤ tmL n l i j := h.pos _
theorem mn_col {n b : Nat} {l : List Int} (hb : b < n) (h0 : Diag n l) (i : Nat) : mn n b l i b = tmL n l i b := by
  unfold mn; rw [h0.is b hb]; omega
theorem mn_row {n b : Nat} {l : List Int} (hb : b < n) (h0 : Diag n l) (j : Nat) : mn n b l b j = tmL n l b j := by
  unfold mn; rw [h0.is b hb]; omega
/-- A stage that is under way. -/
structure Part (n b : Nat) (l l' : List Int) (a d : Nat) : Prop where
  len : l'.length = n * n
  is : ∀ i j, i < n → j < n → tmL n l' i j = if i < a ∨ (i = a ∧ j < d) then mn n b l i j else tmL n l i j
theorem part_step {n b : Nat} {l l' : List Int} {a d : Nat} (hb : b < n) (h0 : Diag n l) (ha : a < n) (hd : d < n) (h : Part n b l l' a d) : Part n b l (relax n b a d l') a (d + 1) := by
  refine ⟨by unfold relax; rw [List.length_set]; exact h.len, fun i j hi hj => ?_⟩
  have e1 : tmL n l' a b = tmL n l a b := by
    rw [h.is a b ha hb]; split
    · exact mn_col hb h0 a
    · rfl
  have e2 : tmL n l' b d = tmL n l b d := by
    rw [h.is b d hb hd]; split
    · exact mn_row hb h0 d
    · rfl
  have e3 : tmL n l' a d = tmL n l a d := by
    rw [h.is a d ha hd, if_neg (by omega)]
  rw [tm_relax h.len ha hd hi hj, e1, e2, e3]
  by_cases hc : i = a ∧ j = d
  · obtain ⟨rfl, rfl⟩ := hc
    rw [if_pos ⟨rfl, rfl⟩, if_pos (by omega)]
    rfl
  · rw [if_neg hc, h.is i j hi hj]
    have : (i < a ∨ (i = a ∧ j < d)) ↔ (i < a ∨ (i = a ∧ j < d + 1)) := by omega
    simp only [this]
theorem part_row {n b : Nat} {l l' : List Int} {a : Nat} (h : Part n b l l' a n) : Part n b l l' (a + 1) 0 := by
  refine ⟨h.len, fun i j hi hj => ?_⟩
  rw [h.is i j hi hj]
  have : (i < a ∨ (i = a ∧ j < n)) ↔ (i < a + 1 ∨ (i = a + 1 ∧ j < 0)) := by omega
  simp only [this]
theorem fwB_part {n b : Nat} {l : List Int} (hl : l.length = n * n) (hb : b < n) (h0 : Diag n l) : Part n b l (fwB n b l) n 0 := by
  refine itr_inv (fun a l' => Part n b l l' a 0) ⟨hl, fun i j _ _ => by rw [if_neg (by omega)]⟩ fun a l' ha h => part_row ?_
  exact itr_inv (fun d l'' => Part n b l l'' a d) h fun d l'' hd h => part_step hb h0 ha hd h
theorem fwB_at {n b : Nat} {l : List Int} (hl : l.length = n * n) (hb : b < n) (h0 : Diag n l) {i j : Nat} (hi : i < n) (hj : j < n) : tmL n (fwB n b l) i j = mn n b l i j := by
  rw [(fwB_part hl hb h0).is i j hi hj, if_pos (by omega)]
/-- The closed times. -/
structure Clos (n : Nat) (l c : List Int) : Prop where
  ok : TimesOk n c
  diag : Diag n c
  le : ∀ i j, i < n → j < n → tmL n c i j ≤ tmL n l i j
  even : evenL n c
  most : ∀ e : List Int, evenL n e → (∀ i j, i < n → j < n → tmL n e i j ≤ tmL n l i j) → ∀ i j, i < n → j < n → tmL n e i j ≤ tmL n c i j
theorem fw_clos {n : Nat} {l : List Int} (h : TimesOk n l) (h0 : Diag n l) : Clos n l (fw n l) := by
  have key := itr_inv (f := fun b l => fwB n b l) (x := l) (n := n) (fun k c => TimesOk n c ∧ Diag n c ∧ (∀ i j, i < n → j < n → tmL n c i j ≤ tmL n l i j) ∧ (∀ b, b < k → ∀ i j, i < n → j < n → tmL n c i j ≤ tmL n c i b + tmL n c b j) ∧
    (∀ e : List Int, evenL n e → (∀ i j, i < n → j < n → tmL n e i j ≤ tmL n l i j) → ∀ i j, i < n → j < n → tmL n e i j ≤ tmL n c i j))
    ⟨h, h0, fun _ _ _ _ => Int.le_refl _, fun b hb => absurd hb (Nat.not_lt_zero _), fun e _ he => he⟩ fun k c hk hc => ?_
  · obtain ⟨k1, k2, k3, k4, k5⟩ := key
    exact ⟨k1, k2, k3, fun b a d hb ha hd => k4 b hb a d ha hd, k5⟩
  · obtain ⟨c1, c2, c3, c4, c5⟩ := hc
    have at' : ∀ i j, i < n → j < n → tmL n (fwB n k c) i j = min (tmL n c i j) (tmL n c i k + tmL n c k j) := fun i j hi hj => fwB_at c1.len hk c2 hi hj
    refine ⟨fwB_ok c1, ⟨fun i hi => ?_⟩, fun i j hi hj => ?_, fun b hb i j hi hj => ?_, fun e he hle i j hi hj => ?_⟩
    · rw [at' i i hi hi, c2.is i hi]
      have := tm_pos c1 i k
      have := tm_pos c1 k i
      omega
    · rw [at' i j hi hj]
      have := c3 i j hi hj
      omega
    · rw [at' i j hi hj, at' i b hi (by omega), at' b j (by omega) hj]
      by_cases hbk : b = k
      · subst hbk
        have := c2.is b hk
        have := tm_pos c1 i b
        have := tm_pos c1 b j
        omega
      · have hb' : b < k := by omega
        have t1 := c4 b hb' i j hi hj
        have t2 := c4 b hb' k j hk hj
        have t3 := c4 b hb' i k hi hk
        have t4 := tm_pos c1 k b
        have t5 := tm_pos c1 b k
        omega
    · have e1 := c5 e he hle i j hi hj
      have e2 := c5 e he hle i k hi hk
      have e3 := c5 e he hle k j hk hj
      have e4 : tmL n e i j ≤ tmL n e i k + tmL n e k j := he k i j hk hi hj
      rw [at' i j hi hj]
      omega
theorem tm_div {n x : Nat} (h : x < n * n) : x / n < n ∧ x % n < n ∧ x / n * n + x % n = x := by
  have hn : 0 < n := by
    cases n with
    | zero => simp at h
    | succ n => omega
  exact ⟨Nat.div_lt_of_lt_mul h, Nat.mod_lt _ hn, by rw [Nat.mul_comm]; exact Nat.div_add_mod x n⟩
theorem all_of_tm {n : Nat} {p : Nat → Prop} (h : ∀ i j, i < n → j < n → p (i * n + j)) (x : Nat) (hx : x < n * n) : p x := by
  obtain ⟨h1, h2, h3⟩ := tm_div hx
  have := h _ _ h1 h2
  rwa [h3] at this
theorem list_of_tm {n : Nat} {l c : List Int} (hl : l.length = n * n) (hc : c.length = n * n) (h : ∀ i j, i < n → j < n → tmL n l i j = tmL n c i j) : l = c := by
  refine List.ext_getElem (by omega) fun x h1 h2 => ?_
  have := all_of_tm (p := fun x => l.getD x 0 = c.getD x 0) h x (by omega)
  rwa [getD_of' h1, getD_of' h2] at this
where
  getD_of' {l : List Int} {i : Nat} (h : i < l.length) : l.getD i 0 = l[i] := by simp [h]
theorem Clos.uniq {n : Nat} {l c c' : List Int} (h : Clos n l c) (h' : Clos n l c') : c = c' :=
  list_of_tm h.ok.len h'.ok.len fun i j hi hj => Int.le_antisymm (h'.most c h.even h.le i j hi hj) (h.most c' h'.even h'.le i j hi hj)
/-- Even times are closed. -/
theorem clos_even {n : Nat} {l : List Int} (h : TimesOk n l) (h0 : Diag n l) (he : evenL n l) : Clos n l l := ⟨h, h0, fun _ _ _ _ => Int.le_refl _, he, fun e _ hle => hle⟩
theorem MapOk.diag' {m : MapD} (h : MapOk m) : Diag m.n.toNat m.l := ⟨fun i hi => h.diag i hi⟩
theorem fw_even {n : Nat} {l : List Int} (h : TimesOk n l) (h0 : Diag n l) : fw n l = l ↔ evenL n l :=
  ⟨fun e => by rw [← e]; exact (fw_clos h h0).even, fun he => (fw_clos h h0).uniq (clos_even h h0 he)⟩
theorem closed_ok' {m : MapD} (h : MapOk m) : MapOk ⟨m.n, fw m.n.toNat m.l⟩ := by
  have c := fw_clos h.times h.diag'
  exact ⟨h.lo, h.hi, c.ok.len, c.ok.pos, c.ok.top, fun a ha => c.diag.is a ha⟩
theorem even_iff {m : MapD} : even (some m) = true ↔ evenL m.n.toNat m.l := by simp [even]
end Go.Eng
