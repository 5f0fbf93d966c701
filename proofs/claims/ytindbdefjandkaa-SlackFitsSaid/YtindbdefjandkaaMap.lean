/- Maps of places, in plain words: made, asked, closed. No program in sight. -/
import Derived.Test.YtindbdefjandkaaLists
set_option linter.unusedVariables false
set_option linter.unusedSimpArgs false
namespace Go.Eng
open Go

/-- What is wrong with a map's times. -/
def newE (n : Int) (ts : List Int) : Int :=
  if n < 1 || decide (n > 12) then 1 else if !decide ((ts.length : Int) = n * n) then 2
  else if !ts.all (fun t => decide (0 ≤ t) && decide (t ≤ 1000000)) then 7
  else if !(List.range n.toNat).all (fun a => decide (ts.getD (a * n.toNat + a) 0 = 0)) then 4 else 0
structure MapOk (m : MapD) : Prop where
  lo : 1 ≤ m.n
  hi : m.n ≤ 12
  len : m.l.length = m.n.toNat * m.n.toNat
  pos : ∀ i, 0 ≤ m.l.getD i 0
  top : ∀ i, m.l.getD i 0 ≤ 1000000
  diag : ∀ a, a < m.n.toNat → m.l.getD (a * m.n.toNat + a) 0 = 0
def MapOkO (m : Option MapD) : Prop := ∀ x, m = some x → MapOk x
def tm (m : MapD) (a b : Int) : Int := m.l.getD (a.toNat * m.n.toNat + b.toNat) 0
def inMap (m : MapD) (a : Int) : Bool := decide (0 ≤ a) && decide (a < m.n)
def mtime (m : Option MapD) (a b : Int) : Int × Bool := match m with
  | none => (0, false)
  | some m => if inMap m a && inMap m b then (tm m a b, true) else (0, false)
def places (m : Option MapD) : Int := match m with | none => 0 | some m => m.n
def times (m : Option MapD) : List Int := match m with | none => [] | some m => m.l

def itr {α : Type} (f : Nat → α → α) : Nat → α → α
  | 0, x => x
  | k + 1, x => f k (itr f k x)
def relax (n b a d : Nat) (l : List Int) : List Int := l.set (a * n + d) (min (l.getD (a * n + d) 0) (l.getD (a * n + b) 0 + l.getD (b * n + d) 0))
def fwA (n b a : Nat) (l : List Int) : List Int := itr (fun d l => relax n b a d l) n l
def fwB (n b : Nat) (l : List Int) : List Int := itr (fun a l => fwA n b a l) n l
def fw (n : Nat) (l : List Int) : List Int := itr (fun b l => fwB n b l) n l
def closed (m : MapD) : MapD := ⟨m.n, fw m.n.toNat m.l⟩
def evenL (n : Nat) (l : List Int) : Prop := ∀ b a d, b < n → a < n → d < n → l.getD (a * n + d) 0 ≤ l.getD (a * n + b) 0 + l.getD (b * n + d) 0
noncomputable def even (m : Option MapD) : Bool := match m with
  | none => false
  | some m => @decide (evenL m.n.toNat m.l) (Classical.propDecidable _)

theorem getD_all {l : List Int} {p : Int → Prop} (h0 : p 0) (h : ∀ x ∈ l, p x) (i : Nat) : p (l.getD i 0) := by
  rw [List.getD_eq_getElem?_getD]
  cases hi : l[i]? with
  | none => exact h0
  | some x => exact h x (List.mem_of_getElem? hi)
theorem newE_ok {n : Int} {ts : List Int} : newE n ts = 0 ↔ MapOk ⟨n, ts⟩ := by
  unfold newE
  constructor
  · intro h
    split at h
    · cases h
    · rename_i h1
      split at h
      · cases h
      · rename_i h2
        split at h
        · cases h
        · rename_i h3
          split at h
          · cases h
          · rename_i h4
            have h3 : ∀ x ∈ ts, 0 ≤ x ∧ x ≤ 1000000 := by
              have : ts.all (fun t => decide (0 ≤ t) && decide (t ≤ 1000000)) = true := by simpa only [Bool.not_eq_true', Bool.not_eq_false] using h3
              simpa only [List.all_eq_true, Bool.and_eq_true, decide_eq_true_eq] using this
            have h4 : ∀ a, a < n.toNat → ts.getD (a * n.toNat + a) 0 = 0 := by
              have : (List.range n.toNat).all (fun a => decide (ts.getD (a * n.toNat + a) 0 = 0)) = true := by simpa only [Bool.not_eq_true', Bool.not_eq_false] using h4
              simpa only [List.all_eq_true, List.mem_range, decide_eq_true_eq] using this
            simp only [Bool.or_eq_true, decide_eq_true_eq, not_or, Bool.not_eq_true', decide_eq_false_iff_not, Decidable.not_not] at h1 h2
            obtain ⟨h1a, h1b⟩ := h1
            have hl : ts.length = n.toNat * n.toNat := by
              have : (n.toNat : Int) = n := by omega
              have h5 : (ts.length : Int) = ((n.toNat * n.toNat : Nat) : Int) := by rw [h2, Int.natCast_mul, this]
              exact_mod_cast h5
            refine ⟨by show 1 ≤ n; omega, by show n ≤ 12; omega, hl, fun i => getD_all (p := fun x => 0 ≤ x) (by decide) (fun x hx => ?_) i, fun i => getD_all (p := fun x => x ≤ 1000000) (by decide) (fun x hx => ?_) i, fun a ha => ?_⟩
            · exact (h3 x hx).1
            · exact (h3 x hx).2
            · exact h4 a ha
  · rintro ⟨h1, h2, h3, h4, h5, h6⟩
    dsimp only at h1 h2 h3 h4 h5 h6
    have hl : (ts.length : Int) = n * n := by
      have : (n.toNat : Int) = n := by omega
      rw [h3, Int.natCast_mul, this]
    have ha : ts.all (fun t => decide (0 ≤ t) && decide (t ≤ 1000000)) = true := by
      simp only [List.all_eq_true, Bool.and_eq_true, decide_eq_true_eq]
      intro x hx
      obtain ⟨i, hi, rfl⟩ := List.getElem_of_mem hx
      have e : ts.getD i 0 = ts[i] := by simp [hi]
      rw [← e]; exact ⟨h4 i, h5 i⟩
    have hd : (List.range n.toNat).all (fun a => decide (ts.getD (a * n.toNat + a) 0 = 0)) = true := by
      simp only [List.all_eq_true, List.mem_range, decide_eq_true_eq]
      exact h6
    rw [if_neg (by simp; omega), if_neg (by simp [hl]), if_neg (by simp only [ha]; decide), if_neg (by simp only [hd]; decide)]
theorem ix_lt {n a d : Nat} (ha : a < n) (hd : d < n) : a * n + d < n * n := by
  have : (a + 1) * n ≤ n * n := Nat.mul_le_mul_right _ ha
  rw [Nat.add_mul, Nat.one_mul] at this
  omega
theorem ix_inj {n a d a' d' : Nat} (hd : d < n) (hd' : d' < n) (h : a * n + d = a' * n + d') : a = a' ∧ d = d' := by
  have h1 : (a * n + d) / n = a := by rw [Nat.mul_comm, Nat.mul_add_div (by omega), Nat.div_eq_of_lt hd]; omega
  have h2 : (a' * n + d') / n = a' := by rw [Nat.mul_comm, Nat.mul_add_div (by omega), Nat.div_eq_of_lt hd']; omega
  rw [h] at h1
  have : a = a' := h1.symm.trans h2
  subst this
  exact ⟨rfl, by omega⟩
/-- A place's number in the list of times, as the code reckons it. -/
theorem ix_eq {n a d : Int} (hn : n ≤ 12) (ha : 0 ≤ a) (ha' : a < n) (hd : 0 ≤ d) (hd' : d < n) : wrap (wrap (a * n) + d) = ((a.toNat * n.toNat + d.toNat : Nat) : Int) ∧ a.toNat * n.toNat + d.toNat < n.toNat * n.toNat := by
  have h1 := ix_lt (n := n.toNat) (a := a.toNat) (d := d.toNat) (by omega) (by omega)
  have h2 : n.toNat * n.toNat ≤ 12 * 12 := Nat.mul_le_mul (by omega) (by omega)
  have h3 : ((a.toNat * n.toNat : Nat) : Int) = a * n := by rw [Int.natCast_mul]; congr 1 <;> omega
  rw [← h3]
  refine ⟨?_, h1⟩
  rw [wrap_id (n := ((a.toNat * n.toNat : Nat) : Int)) (by omega) (by omega), wrap_id (by omega) (by omega)]
  omega
end Go.Eng
