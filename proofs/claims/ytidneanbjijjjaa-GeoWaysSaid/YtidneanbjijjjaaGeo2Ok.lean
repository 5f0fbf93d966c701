/- What the document's functions of maps tell is so; evenness. -/
import Derived.Test.YtidneanbjijjjaaGeo2Vc
set_option linter.unusedVariables false
set_option linter.unusedSimpArgs false
namespace Go.Eng
open Go Go.Proofs

def tri (n : Nat) (l : List Int) (a k b : Nat) : Prop := tmL n l a b ≤ tmL n l a k + tmL n l k b
theorem even_of {m : MapD} (h : ∀ b a d, b < m.n.toNat → a < m.n.toNat → d < m.n.toNat → tri m.n.toNat m.l a b d) : even (some m) = true := even_iff.2 fun b a d hb ha hd => h b a d hb ha hd
theorem even_not {m : MapD} {a b d : Nat} (hb : b < m.n.toNat) (ha : a < m.n.toNat) (hd : d < m.n.toNat) (h : ¬ tri m.n.toNat m.l a b d) : even (some m) = false := by
  cases he : even (some m) with
  | false => rfl
  | true => exact absurd (even_iff.1 he b a d hb ha hd) h
theorem tri_wrap {n : Nat} {l : List Int} (h : TimesOk n l) (a k b : Nat) : wrap (l.getD (a * n + k) 0 + l.getD (k * n + b) 0) = tmL n l a k + tmL n l k b := by
  have h1 := h.pos (a * n + k)
  have h2 := h.pos (k * n + b)
  have h3 := h.top (a * n + k)
  have h4 := h.top (k * n + b)
  rw [wrap_id (by omega) (by omega)]
  rfl
theorem even_ok : even_vc := by
  unfold even_vc
  simp only [bad_false, int0, nilOf, decide_eq_true_eq, decide_eq_false_iff_not, Bool.not_eq_true', Bool.not_eq_false', Bool.not_true, Bool.not_false, Bool.false_eq_true, Bool.true_eq_false, eq_self, true_and, and_true, false_or, or_false, false_implies, true_implies, implies_true, Int.not_lt, Int.not_le, gt_iff_lt, ge_iff_le, ne_eq]
  refine ⟨fun _ => rfl, fun m hl hm => ?_⟩
  have hm := hm m rfl
  have hlo := hm.lo
  have hhi := hm.hi
  have ht := hm.times
  have hll := ht.len
  refine ⟨fun b => 0 ≤ b ∧ b ≤ m.n ∧ ∀ b' a d, b' < b.toNat → a < m.n.toNat → d < m.n.toNat → tri m.n.toNat m.l a b' d, fun b => m.n.toNat - b.toNat, ⟨by omega, by omega, fun b' a d h => absurd h (Nat.not_lt_zero _)⟩, fun b hb => ⟨fun h => ?_, fun h => ?_⟩⟩
  · obtain ⟨b0, b1, b2⟩ := hb
    obtain ⟨eb, eb'⟩ := ret_n hhi b b0 h
    refine ⟨fun a => 0 ≤ a ∧ a ≤ m.n ∧ ∀ a' d, a' < a.toNat → d < m.n.toNat → tri m.n.toNat m.l a' b.toNat d, fun a => m.n.toNat - a.toNat, ⟨by omega, by omega, fun a' d h => absurd h (Nat.not_lt_zero _)⟩, fun a ha => ⟨fun h' => ?_, fun h' => ?_⟩⟩
    · obtain ⟨a0, a1, a2⟩ := ha
      obtain ⟨ea, ea'⟩ := ret_n hhi a a0 h'
      refine ⟨fun d => 0 ≤ d ∧ d ≤ m.n ∧ ∀ d', d' < d.toNat → tri m.n.toNat m.l a.toNat b.toNat d', fun d => m.n.toNat - d.toNat, ⟨by omega, by omega, fun d' h => absurd h (Nat.not_lt_zero _)⟩, fun d hd => ⟨fun h'' => ?_, fun h'' => ?_⟩⟩
      · obtain ⟨d0, d1, d2⟩ := hd
        obtain ⟨ed, ed'⟩ := ret_n hhi d d0 h''
        obtain ⟨e1, k1⟩ := ix_eq (n := m.n) (a := a) (d := d) hhi a0 h' d0 h''
        obtain ⟨e2, k2⟩ := ix_eq (n := m.n) (a := a) (d := b) hhi a0 h' b0 h
        obtain ⟨e3, k3⟩ := ix_eq (n := m.n) (a := b) (d := d) hhi b0 h d0 h''
        rw [e1, e2, e3, Int.toNat_natCast, Int.toNat_natCast, Int.toNat_natCast, ed, tri_wrap ht]
        refine ⟨⟨by omega, by omega⟩, by omega, ⟨by omega, by omega⟩, by omega, ⟨by omega, by omega⟩, by omega, fun hlt => ?_, fun hge => ⟨⟨by omega, by omega, fun d' hd' => ?_⟩, by dsimp only; omega⟩⟩
        · exact (even_not (a := a.toNat) (b := b.toNat) (d := d.toNat) (by omega) (by omega) (by omega) (fun ht' => by unfold tri at ht'; exact absurd ht' (by show ¬ m.l.getD (a.toNat * m.n.toNat + d.toNat) 0 ≤ _; omega))).symm
        · rw [ed'] at hd'
          by_cases he : d' = d.toNat
          · subst he; exact hge
          · exact d2 d' (by omega)
      · obtain ⟨d0, d1, d2⟩ := hd
        rw [ea]
        refine ⟨⟨by omega, by omega, fun a' d' ha' hd' => ?_⟩, by dsimp only; omega⟩
        rw [ea'] at ha'
        by_cases he : a' = a.toNat
        · subst he; exact d2 d' (by omega)
        · exact a2 a' d' (by omega) hd'
    · obtain ⟨a0, a1, a2⟩ := ha
      rw [eb]
      refine ⟨⟨by omega, by omega, fun b' a' d' hb' ha' hd' => ?_⟩, by dsimp only; omega⟩
      rw [eb'] at hb'
      by_cases he : b' = b.toNat
      · subst he; exact a2 a' d' (by omega) hd'
      · exact b2 b' a' d' (by omega) ha' hd'
  · obtain ⟨b0, b1, b2⟩ := hb
    exact (even_of fun b' a' d' hb' ha' hd' => b2 b' a' d' (by omega) ha' hd').symm
theorem even_t : Told Try.prog 32 even_con := even_told csOk_nil even_ok
theorem rEven_ok : rEven_vc := by
  unfold rEven_vc
  simp only [bad_false, int0, nilOf, decide_eq_true_eq, decide_eq_false_iff_not, Bool.not_eq_true', Bool.not_eq_false', Bool.not_true, Bool.not_false, Bool.false_eq_true, Bool.true_eq_false, eq_self, true_and, and_true, false_or, or_false, false_implies, true_implies, implies_true, Int.not_lt, Int.not_le, gt_iff_lt, ge_iff_le, ne_eq]
  intro m hl hm
  have hlo := hm.lo
  have hhi := hm.hi
  have ht := hm.times
  have hll := ht.len
  refine ⟨fun a => 0 ≤ a ∧ a ≤ m.n ∧ ∀ a' b d, a' < a.toNat → b < m.n.toNat → d < m.n.toNat → tri m.n.toNat m.l a' b d, fun a => m.n.toNat - a.toNat, ⟨by omega, by omega, fun b' a d h => absurd h (Nat.not_lt_zero _)⟩, fun a ha => ⟨fun h' => ?_, fun h' => ?_⟩⟩
  · obtain ⟨a0, a1, a2⟩ := ha
    obtain ⟨ea, ea'⟩ := ret_n hhi a a0 h'
    refine ⟨fun b => 0 ≤ b ∧ b ≤ m.n ∧ ∀ b' d, b' < b.toNat → d < m.n.toNat → tri m.n.toNat m.l a.toNat b' d, fun b => m.n.toNat - b.toNat, ⟨by omega, by omega, fun a' d h => absurd h (Nat.not_lt_zero _)⟩, fun b hb => ⟨fun h => ?_, fun h => ?_⟩⟩
    · obtain ⟨b0, b1, b2⟩ := hb
      obtain ⟨eb, eb'⟩ := ret_n hhi b b0 h
      refine ⟨fun d => 0 ≤ d ∧ d ≤ m.n ∧ ∀ d', d' < d.toNat → tri m.n.toNat m.l a.toNat b.toNat d', fun d => m.n.toNat - d.toNat, ⟨by omega, by omega, fun d' h => absurd h (Nat.not_lt_zero _)⟩, fun d hd => ⟨fun h'' => ?_, fun h'' => ?_⟩⟩
      · obtain ⟨d0, d1, d2⟩ := hd
        obtain ⟨ed, ed'⟩ := ret_n hhi d d0 h''
        obtain ⟨e1, k1⟩ := ix_eq (n := m.n) (a := a) (d := d) hhi a0 h' d0 h''
        obtain ⟨e2, k2⟩ := ix_eq (n := m.n) (a := a) (d := b) hhi a0 h' b0 h
        obtain ⟨e3, k3⟩ := ix_eq (n := m.n) (a := b) (d := d) hhi b0 h d0 h''
        rw [e1, e2, e3, Int.toNat_natCast, Int.toNat_natCast, Int.toNat_natCast, ed, tri_wrap ht]
        refine ⟨⟨by omega, by omega⟩, by omega, ⟨by omega, by omega⟩, by omega, ⟨by omega, by omega⟩, by omega, fun hlt => ?_, fun hge => ⟨⟨by omega, by omega, fun d' hd' => ?_⟩, by dsimp only; omega⟩⟩
        · exact (even_not (a := a.toNat) (b := b.toNat) (d := d.toNat) (by omega) (by omega) (by omega) (fun ht' => by unfold tri at ht'; exact absurd ht' (by show ¬ m.l.getD (a.toNat * m.n.toNat + d.toNat) 0 ≤ _; omega))).symm
        · rw [ed'] at hd'
          by_cases he : d' = d.toNat
          · subst he; exact hge
          · exact d2 d' (by omega)
      · obtain ⟨d0, d1, d2⟩ := hd
        rw [eb]
        refine ⟨⟨by omega, by omega, fun b' d' hb' hd' => ?_⟩, by dsimp only; omega⟩
        rw [eb'] at hb'
        by_cases he : b' = b.toNat
        · subst he; exact d2 d' (by omega)
        · exact b2 b' d' (by omega) hd'
    · obtain ⟨b0, b1, b2⟩ := hb
      rw [ea]
      refine ⟨⟨by omega, by omega, fun a' b' d' ha' hb' hd' => ?_⟩, by dsimp only; omega⟩
      rw [ea'] at ha'
      by_cases he : a' = a.toNat
      · subst he; exact b2 b' d' (by omega) hd'
      · exact a2 a' b' d' (by omega) hb' hd'
  · obtain ⟨a0, a1, a2⟩ := ha
    exact (even_of fun b' a' d' hb' ha' hd' => a2 a' b' d' (by omega) hb' hd').symm
theorem rEven_t : Told Try.prog 44 rEven_con := rEven_told csOk_nil rEven_ok

/-! ### Closed step by step -/
def isum : List Int → Int
  | [] => 0
  | x :: l => x + isum l
theorem isum_set : ∀ {l : List Int} {i : Nat} {v : Int}, i < l.length → isum (l.set i v) = isum l - l.getD i 0 + v
  | [], i, v, h => by simp at h
  | x :: l, 0, v, h => by simp [isum]; omega
  | x :: l, i + 1, v, h => by
    have := isum_set (l := l) (i := i) (v := v) (by simpa using h)
    simp [isum] at this ⊢
    omega
theorem isum_pos : ∀ {l : List Int}, (∀ i, 0 ≤ l.getD i 0) → 0 ≤ isum l
  | [], h => Int.le_refl _
  | x :: l, h => by
    have h1 := h 0
    have h2 := isum_pos (l := l) fun i => by have := h (i + 1); simpa using this
    simp at h1
    simp only [isum]
    omega
/-- On the way to the closed times. -/
structure Near (n : Nat) (m l : List Int) : Prop where
  ok : TimesOk n l
  diag : Diag n l
  le : ∀ i j, i < n → j < n → tmL n l i j ≤ tmL n m i j
  most : ∀ e : List Int, evenL n e → (∀ i j, i < n → j < n → tmL n e i j ≤ tmL n m i j) → ∀ i j, i < n → j < n → tmL n e i j ≤ tmL n l i j
theorem near_relax {n k a b : Nat} {m l : List Int} (hk : k < n) (ha : a < n) (hb : b < n) (h : Near n m l) : Near n m (relax n k a b l) := by
  have at' := fun {i j : Nat} (hi : i < n) (hj : j < n) => tm_relax (b := k) h.ok.len ha hb hi hj
  refine ⟨relax_ok h.ok, ⟨fun i hi => ?_⟩, fun i j hi hj => ?_, fun e he hle i j hi hj => ?_⟩
  · rw [at' hi hi]
    split
    · rename_i hh
      obtain ⟨rfl, rfl⟩ := hh
      have := h.diag.is i hi
      have := tm_pos h.ok i k
      have := tm_pos h.ok k i
      omega
    · exact h.diag.is i hi
  · rw [at' hi hj]
    have := h.le i j hi hj
    split
    · rename_i hh
      obtain ⟨rfl, rfl⟩ := hh
      omega
    · exact this
  · rw [at' hi hj]
    have h1 := h.most e he hle i j hi hj
    split
    · rename_i hh
      obtain ⟨rfl, rfl⟩ := hh
      have h2 := h.most e he hle i k hi hk
      have h3 := h.most e he hle k j hk hj
      have h4 : tmL n e i j ≤ tmL n e i k + tmL n e k j := he k i j hk hi hj
      omega
    · exact h1
theorem near_set {n k a b : Nat} {m l : List Int} (hk : k < n) (ha : a < n) (hb : b < n) (h : Near n m l) (hlt : tmL n l a k + tmL n l k b < tmL n l a b) :
    Near n m (l.set (a * n + b) (tmL n l a k + tmL n l k b)) ∧ isum (l.set (a * n + b) (tmL n l a k + tmL n l k b)) < isum l := by
  have hi : a * n + b < l.length := by rw [h.ok.len]; exact ix_lt ha hb
  have e : l.set (a * n + b) (tmL n l a k + tmL n l k b) = relax n k a b l := by
    unfold relax tmL at *
    congr 1
    omega
  refine ⟨by rw [e]; exact near_relax hk ha hb h, ?_⟩
  rw [isum_set hi]
  unfold tmL at *
  omega
theorem near_clos {n : Nat} {m l : List Int} (h : Near n m l) (he : evenL n l) : Clos n m l := ⟨h.ok, h.diag, h.le, he, h.most⟩
/-- What is known of a pass over the times 'l'. -/
structure Pass (n : Nat) (m l : List Int) (t : Bool) (l' : List Int) (done : Nat → Nat → Nat → Prop) : Prop where
  near : Near n m l'
  sum : t = true → isum l' < isum l
  stay : t = false → l' = l ∧ ∀ a k b, a < n → k < n → b < n → done a k b → tri n l a k b
theorem rClosed_ok : rClosed_vc := by
  unfold rClosed_vc
  simp only [bad_false, int0, nilOf, decide_eq_true_eq, decide_eq_false_iff_not, Bool.not_eq_true', Bool.not_eq_false', Bool.not_true, Bool.not_false, Bool.false_eq_true, Bool.true_eq_false, eq_self, true_and, and_true, false_or, or_false, false_implies, true_implies, implies_true, Int.not_lt, Int.not_le, gt_iff_lt, ge_iff_le, ne_eq]
  intro m hl hm
  have hlo := hm.lo
  have hhi := hm.hi
  have hlen := mapOk_len hm
  refine ⟨by omega, fun t l => Near m.n.toNat m.l l ∧ (t = false → evenL m.n.toNat l), fun t l => 2 * (isum l).toNat + (if t then 1 else 0), ⟨⟨hm.times, hm.diag', fun _ _ _ _ => Int.le_refl _, fun e _ he => he⟩, fun h => by cases h⟩, fun t l hI => ⟨fun ht => ?_, fun ht => ?_⟩⟩
  · obtain ⟨hN, _⟩ := hI
    have hsum0 := isum_pos hN.ok.pos
    refine ⟨fun t a l' => 0 ≤ a ∧ a ≤ m.n ∧ Pass m.n.toNat m.l l t l' (fun a' _ _ => a' < a.toNat), fun t a l' => m.n.toNat - a.toNat, ⟨by omega, by omega, hN, (fun h => by cases h), fun _ => ⟨rfl, fun _ _ _ _ _ _ h => absurd h (Nat.not_lt_zero _)⟩⟩, fun t1 a l1 hI1 => ⟨fun ha => ?_, fun ha => ?_⟩⟩
    · obtain ⟨a0, a1, hP1⟩ := hI1
      obtain ⟨ea, ea'⟩ := ret_n hhi a a0 ha
      refine ⟨fun t b l' => 0 ≤ b ∧ b ≤ m.n ∧ Pass m.n.toNat m.l l t l' (fun a' _ b' => a' < a.toNat ∨ (a' = a.toNat ∧ b' < b.toNat)), fun t b l' => m.n.toNat - b.toNat, ⟨by omega, by omega, hP1.near, hP1.sum, fun h => ⟨(hP1.stay h).1, fun a' k b' h1 h2 h3 h4 => (hP1.stay h).2 a' k b' h1 h2 h3 (by omega)⟩⟩, fun t2 b l2 hI2 => ⟨fun hb => ?_, fun hb => ?_⟩⟩
      · obtain ⟨b0, b1, hP2⟩ := hI2
        obtain ⟨eb, eb'⟩ := ret_n hhi b b0 hb
        refine ⟨fun t k l' => 0 ≤ k ∧ k ≤ m.n ∧ Pass m.n.toNat m.l l t l' (fun a' k' b' => a' < a.toNat ∨ (a' = a.toNat ∧ (b' < b.toNat ∨ (b' = b.toNat ∧ k' < k.toNat)))), fun t k l' => m.n.toNat - k.toNat, ⟨by omega, by omega, hP2.near, hP2.sum, fun h => ⟨(hP2.stay h).1, fun a' k b' h1 h2 h3 h4 => (hP2.stay h).2 a' k b' h1 h2 h3 (by omega)⟩⟩, fun t3 k l3 hI3 => ⟨fun hk => ?_, fun hk => ?_⟩⟩
        · obtain ⟨k0, k1, hP3⟩ := hI3
          obtain ⟨ek, ek'⟩ := ret_n hhi k k0 hk
          have hl3 := hP3.near.ok.len
          obtain ⟨e1, q1⟩ := ix_eq (n := m.n) (a := a) (d := k) hhi a0 ha k0 hk
          obtain ⟨e2, q2⟩ := ix_eq (n := m.n) (a := k) (d := b) hhi k0 hk b0 hb
          obtain ⟨e3, q3⟩ := ix_eq (n := m.n) (a := a) (d := b) hhi a0 ha b0 hb
          rw [e1, e2, e3, Int.toNat_natCast, Int.toNat_natCast, Int.toNat_natCast, ek, tri_wrap hP3.near.ok]
          refine ⟨⟨by omega, by omega⟩, by omega, ⟨by omega, by omega⟩, by omega, ⟨by omega, by omega⟩, by omega, fun hlt => ⟨⟨by omega, by omega⟩, by omega, ?_⟩, fun hge => ?_⟩
          · obtain ⟨s1, s2⟩ := near_set (k := k.toNat) (a := a.toNat) (b := b.toNat) (by omega) (by omega) (by omega) hP3.near hlt
            refine ⟨⟨by omega, by omega, s1, fun _ => ?_, fun h => by cases h⟩, by dsimp only; omega⟩
            cases ht3 : t3 with
            | true => have := hP3.sum ht3; omega
            | false => rw [(hP3.stay ht3).1] at s2 ⊢; exact s2
          · refine ⟨⟨by omega, by omega, hP3.near, hP3.sum, fun h => ⟨(hP3.stay h).1, fun a' k' b' h1 h2 h3 h4 => ?_⟩⟩, by dsimp only; omega⟩
            by_cases hc : a' = a.toNat ∧ b' = b.toNat ∧ k' = k.toNat
            · obtain ⟨rfl, rfl, rfl⟩ := hc
              have : tri m.n.toNat l3 a.toNat k.toNat b.toNat := hge
              rw [(hP3.stay h).1] at this
              exact this
            · refine (hP3.stay h).2 a' k' b' h1 h2 h3 ?_
              rw [ek'] at h4
              omega
        · obtain ⟨k0, k1, hP3⟩ := hI3
          rw [eb]
          refine ⟨⟨by omega, by omega, hP3.near, hP3.sum, fun h => ⟨(hP3.stay h).1, fun a' k' b' h1 h2 h3 h4 => ?_⟩⟩, by dsimp only; omega⟩
          refine (hP3.stay h).2 a' k' b' h1 h2 h3 ?_
          rw [eb'] at h4
          omega
      · obtain ⟨b0, b1, hP2⟩ := hI2
        rw [ea]
        refine ⟨⟨by omega, by omega, hP2.near, hP2.sum, fun h => ⟨(hP2.stay h).1, fun a' k' b' h1 h2 h3 h4 => ?_⟩⟩, by dsimp only; omega⟩
        refine (hP2.stay h).2 a' k' b' h1 h2 h3 ?_
        rw [ea'] at h4
        omega
    · obtain ⟨a0, a1, hP1⟩ := hI1
      subst ht
      refine ⟨⟨hP1.near, fun h => ?_⟩, ?_⟩
      · obtain ⟨s1, s2⟩ := hP1.stay h
        rw [s1]
        exact fun b' a' d' hb' ha' hd' => s2 a' b' d' ha' hb' hd' (by omega)
      · have hp := isum_pos hP1.near.ok.pos
        dsimp only
        cases ht1 : t1 with
        | true => have := hP1.sum ht1; simp only [if_true]; omega
        | false => rw [(hP1.stay ht1).1]; simp
  · exact (near_clos hI.1 (hI.2 ht)).uniq (fw_clos hm.times hm.diag')
theorem rClosed_t : Told Try.prog 43 rClosed_con := rClosed_told csOk_nil rClosed_ok
theorem both_ok : both_vc := by
  unfold both_vc
  simp only [bad_false, int0, nilOf, decide_eq_true_eq, decide_eq_false_iff_not, Bool.not_eq_true', Bool.not_eq_false', Bool.not_true, Bool.not_false, Bool.false_eq_true, Bool.true_eq_false, eq_self, true_and, and_true, false_or, or_false, false_implies, true_implies, implies_true, Int.not_lt, Int.not_le, gt_iff_lt, ge_iff_le, ne_eq]
  intro n ts _
  refine ⟨fun h => ⟨fun _ => ⟨⟨h, rfl⟩, fun h => absurd trivial h⟩, fun h' => absurd h' h⟩, fun h => ⟨fun h' => absurd h h', fun _ => ⟨⟨h, rfl⟩, fun h => absurd trivial h⟩⟩⟩
theorem both_t : Told Try.prog 42 both_con := both_told (csOk_cons new_t (csOk_cons rNew_t csOk_nil)) both_ok
theorem alike_ok : alike_vc := by
  unfold alike_vc
  simp only [bad_false, int0, nilOf, decide_eq_true_eq, decide_eq_false_iff_not, Bool.not_eq_true', Bool.not_eq_false', Bool.not_true, Bool.not_false, Bool.false_eq_true, Bool.true_eq_false, eq_self, true_and, and_true, false_or, or_false, false_implies, true_implies, implies_true, Int.not_lt, Int.not_le, gt_iff_lt, ge_iff_le, ne_eq]
  refine ⟨fun w _ hm => ⟨fun h => ⟨hm, by simp [h]⟩, fun h => by simp [h]⟩, fun m _ w _ hm => ⟨fun h => ⟨hm, by simp [h]⟩, fun h => by simp [h]⟩⟩
theorem alike_t : Told Try.prog 41 alike_con := alike_told (csOk_cons places_t (csOk_cons times_t (csOk_cons sameI_t csOk_nil))) alike_ok
end Go.Eng
