/- The seat's table of types; words of contracts. -/
import Derived.Test.YtidneanbjijjjaaEOpen
import Derived.Test.YtidneanbjijjjaaProg
import Derived.KernelRfl
set_option linter.unusedVariables false
set_option linter.unusedSimpArgs false
namespace Go.Eng
open Go Go.Proofs
def tab : Tab := [
  (2, .sc none (.i 0)),
  (3, .sc none (.i 0)),
  (4, .sc none (.l false)),
  (15, .sc none (.nlp)),
  (16, .sc none (.nlp)),
  (17, .sc none (.nlp)),
  (18, .st 1 [⟨0, 1, false, 17⟩] [.nlp] false),
  (19, .st 1 [⟨0, 1, false, 17⟩] [.nlp] false),
  (22, .st 2 [⟨0, 1, false, 3⟩, ⟨1, 1, false, 3⟩] [.i 0, .i 0] true),
  (23, .st 2 [⟨0, 1, false, 3⟩, ⟨1, 1, false, 3⟩] [.i 0, .i 0] true),
  (29, .sc (some (.f .win, 23)) (.nls)),
  (42, .sc none (.nlp)),
  (43, .sc none (.i 0)),
  (48, .sc (some (.f .int, 3)) (.nls)),
  (55, .sc none (.nlp)),
  (65, .sc (some (.rows .int, 48)) (.nls)),
  (66, .st 4 [⟨0, 1, false, 65⟩, ⟨1, 1, false, 65⟩, ⟨2, 1, false, 3⟩, ⟨3, 1, false, 4⟩] [.nls, .nls, .i 0, .l false] false),
  (67, .st 4 [⟨0, 1, false, 65⟩, ⟨1, 1, false, 65⟩, ⟨2, 1, false, 3⟩, ⟨3, 1, false, 4⟩] [.nls, .nls, .i 0, .l false] false),
  (72, .st 2 [⟨0, 1, false, 3⟩, ⟨1, 1, false, 48⟩] [.i 0, .nls] false),
  (73, .st 2 [⟨0, 1, false, 3⟩, ⟨1, 1, false, 48⟩] [.i 0, .nls] false),
  (74, .st 2 [⟨0, 1, false, 3⟩, ⟨1, 1, false, 48⟩] [.i 0, .nls] false),
  (75, .st 2 [⟨0, 1, false, 3⟩, ⟨1, 1, false, 48⟩] [.i 0, .nls] false),
  (76, .sc none (.nlp)),
  (87, .sc none (.nlp))]
theorem tabOk : TabOk Try.prog tab := tabOk_of (by kernel_rfl)
theorem mixed : Try.prog.follows .mixedOrders = true := by kernel_rfl
def one (r : List AV) : Res := ⟨none, [⟨none, r⟩]⟩
def yes_con : Con := ⟨[], one [.c (.b true)]⟩
structure Given (p : Prop) : Prop where
  is : p
noncomputable def same {α : Type} (xs ys : List α) : Bool := @decide (xs = ys) (Classical.propDecidable _)
/-- A statement's argument: its numbers, its sizes. -/
def pA (x : AV) : Prop := avR x ∧ x.szd
def law (p : Prop) : Res := ⟨some (Given p), [⟨none, [.c (.b true)]⟩]⟩
/-- What is told by more cases is told by fewer, where they are known. -/
theorem told_alt {P : Program} {f : Nat} {ps : List PK} {run run' : Fun ps Res} (h : Told P f ⟨ps, run⟩)
    (hr : ∀ x : Args ps, holdsO (appF ps run' x).pre → holdsO (appF ps run x).pre ∧ ∀ a ∈ (appF ps run x).alts, holdsO a.h → ∃ a' ∈ (appF ps run' x).alts, holdsO a'.h ∧ a'.r = a.r) : Told P f ⟨ps, run'⟩ := by
  refine ⟨?_, h.2⟩
  have key : ∀ (ps : List PK) (run run' : Fun ps Res) (e : Env) (Hs : Heap), (∀ x : Args ps, holdsO (appF ps run' x).pre → holdsO (appF ps run x).pre ∧ ∀ a ∈ (appF ps run x).alts, holdsO a.h → ∃ a' ∈ (appF ps run' x).alts, holdsO a'.h ∧ a'.r = a.r) →
      allArgs ps e Hs run (fun e H r => ∀ (fb : Nat → Prop) (w : World) (vs : List Value), Start fb e H vs w → holdsO r.pre → Calls P f vs.toArray w (RetOk fb r.alts w vs)) →
      allArgs ps e Hs run' (fun e H r => ∀ (fb : Nat → Prop) (w : World) (vs : List Value), Start fb e H vs w → holdsO r.pre → Calls P f vs.toArray w (RetOk fb r.alts w vs)) := by
    intro ps
    induction ps with
    | nil =>
      intro run run' e Hs hr hk fb w vs hs hp
      obtain ⟨h1, h2⟩ := hr () hp
      refine Calls.mono (hk fb w vs hs h1) fun en w' he => ?_
      cases en with
      | panicked c => exact he
      | outgrown => exact he
      | returned v =>
        obtain ⟨a, ha, ⟨hh, hm⟩, hAl⟩ := he
        obtain ⟨a', ha', hh', e⟩ := h2 a ha hh
        refine ⟨a', ha', ⟨hh', ?_⟩, ?_⟩
        · rw [e]; exact hm
        · rw [e]; exact hAl
    | cons p ps ih =>
      intro run run' e Hs hr hk
      refine overP_iff.2 fun x => imp_iff.2 fun ho => ?_
      have := imp_iff.1 (overP_iff.1 hk x) ho
      exact ih (run x) (run' x) _ _ (fun y => hr (x, y)) this
  exact key ps run run' [] [] hr h.1
end Go.Eng

/- Lists that are compared, copied, kept: plain laws for the books of memory. -/
set_option linter.unusedVariables false
set_option linter.unusedSimpArgs false
namespace Go.Eng
open Go

theorem wrap_id {n : Int} (h : -9223372036854775808 ≤ n) (h' : n ≤ 9223372036854775807) : wrap n = n := by
  simp [wrap, IntKind.wrap, IntKind.bits, IntKind.signed]
  split <;> omega
theorem bad_false {n : Nat} {α : Type} {x : α} : Bad n α x ↔ False := ⟨fun h => (nomatch h), False.elim⟩
@[reducible] def v0 : Visit := FK.zero .visit
@[reducible] def d0 : Driver := FK.zero .driver
theorem int0 : Int.ofNat (0 : Nat) = (0 : Int) := rfl
theorem same_iff {α : Type} {x y : List α} : same x y = true ↔ x = y := by simp [same]
theorem same_self {α : Type} (x : List α) : same x x = true := same_iff.2 rfl
theorem same_ne {α : Type} {x y : List α} (h : x ≠ y) : same x y = false := by
  cases hs : same x y with
  | false => rfl
  | true => exact absurd (same_iff.1 hs) h
/-- The loop of Same. -/
theorem same_loop {α : Type} {d : α} {eqb : α → α → Bool} (he : ∀ a b, eqb a b = true ↔ a = b) {x y : List α} (hx : x.length ≤ 9223372036854775807) (hl : x.length = y.length) {i : Int} (h0 : 0 ≤ i) (h1 : i ≤ x.length) (h2 : x.take i.toNat = y.take i.toNat) :
    (i < x.length → (0 ≤ i ∧ i < (y.length : Int)) ∧ i.toNat < y.length ∧ (eqb (x.getD i.toNat d) (y.getD i.toNat d) = false → same x y = false) ∧
      (eqb (x.getD i.toNat d) (y.getD i.toNat d) = true → wrap (i + 1) = i + 1 ∧ x.take (i + 1).toNat = y.take (i + 1).toNat)) ∧ (¬ i < x.length → same x y = true) := by
  refine ⟨fun h => ⟨⟨h0, by omega⟩, by omega, fun hb => same_ne ?_, fun hb => ⟨wrap_id (by omega) (by omega), ?_⟩⟩, fun h => ?_⟩
  · rintro rfl
    have := (he (x.getD i.toNat d) (x.getD i.toNat d)).2 rfl
    rw [hb] at this; cases this
  · have := (he _ _).1 hb
    have e : (i + 1).toNat = i.toNat + 1 := by omega
    have hi : i.toNat < x.length := by omega
    have hi' : i.toNat < y.length := by omega
    rw [e, List.take_add_one, List.take_add_one, h2]
    congr 1
    rw [List.getElem?_eq_getElem hi, List.getElem?_eq_getElem hi']
    rw [List.getD_eq_getElem?_getD, List.getD_eq_getElem?_getD, List.getElem?_eq_getElem hi, List.getElem?_eq_getElem hi'] at this
    simpa using this
  · have e1 : x.take i.toNat = x := List.take_of_length_le (by omega)
    have e2 : y.take i.toNat = y := List.take_of_length_le (by omega)
    rw [e1, e2] at h2
    exact same_iff.2 h2
/-- The conditions of Same. -/
theorem same_gen {α : Type} {d : α} {eqb : α → α → Bool} (he : ∀ a b, eqb a b = true ↔ a = b) (x : List α) (hx : LenOk x.length) (y : List α) :
    ((!decide ((x.length : Int) = (y.length : Int))) = true → false = same x y) ∧
      ((!decide ((x.length : Int) = (y.length : Int))) = false →
        ∃ (inv : Int → Prop), ∃ (μ : Int → Nat), (((0 : Int) = (0 : Int) ∧ y = y ∧ x = x) ∧ inv (0 : Int)) ∧
          ∀ i : Int, inv i → (decide (i < (x.length : Int)) = true → ((0 : Int) ≤ i ∧ i < (x.length : Int)) ∧ i.toNat < x.length ∧ ((0 : Int) ≤ i ∧ i < (y.length : Int)) ∧ i.toNat < y.length ∧
              ((!eqb (x.getD i.toNat d) (y.getD i.toNat d)) = true → false = same x y) ∧
              ((!eqb (x.getD i.toNat d) (y.getD i.toNat d)) = false → (wrap (i + (1 : Int)) = wrap (i + (1 : Int)) ∧ y = y ∧ x = x) ∧ inv (wrap (i + (1 : Int))) ∧ μ (wrap (i + (1 : Int))) < μ i)) ∧
            (decide (i < (x.length : Int)) = false → true = same x y)) := by
  have hx := hx.le
  refine ⟨fun h => ?_, fun h => ?_⟩
  · rw [same_ne]
    rintro rfl
    simp at h
  · simp only [Bool.not_eq_false', decide_eq_true_eq] at h
    have hl : x.length = y.length := by omega
    refine ⟨fun i => 0 ≤ i ∧ i ≤ x.length ∧ x.take i.toNat = y.take i.toNat, fun i => x.length - i.toNat, ⟨⟨rfl, rfl, rfl⟩, by simp⟩, ?_⟩
    rintro i ⟨h0, h1, h2⟩
    have hs := same_loop (d := d) he hx hl h0 h1 h2
    refine ⟨fun h => ?_, fun h => ?_⟩
    · have h : i < x.length := of_decide_eq_true h
      obtain ⟨a, b, c, e⟩ := hs.1 h
      refine ⟨⟨h0, h⟩, by omega, a, b, fun hn => (c (by simpa only [Bool.not_eq_true'] using hn)).symm, fun hn => ?_⟩
      obtain ⟨e, f⟩ := e (by simpa only [Bool.not_eq_false'] using hn)
      rw [e]
      exact ⟨⟨rfl, rfl, rfl⟩, ⟨by omega, by omega, f⟩, by show x.length - (i + 1).toNat < x.length - i.toNat; omega⟩
    · exact (hs.2 (of_decide_eq_false h)).symm
end Go.Eng

/- Maps of places, in plain words: made, asked, closed. No program in sight. -/
set_option linter.unusedVariables false
set_option linter.unusedSimpArgs false
namespace Go.Eng
open Go

/-- What is wrong with a map's times. -/
def newE (n : Int) (ts : List Int) : Int :=
  if n < 1 || decide (n > 12) then 1 else if !decide ((ts.length : Int) = n * n) then 2
  else if !ts.all (fun t => decide (0 ≤ t) && decide (t ≤ 1000000)) then 7
  else if !(List.range n.toNat).all (fun a => decide (ts.getD (a * n.toNat + a) 0 = 0)) then 4 else 0
structure MapOk (m : MapD) : Prop where
  lo : 1 ≤ m.n
  hi : m.n ≤ 12
  len : m.l.length = m.n.toNat * m.n.toNat
  pos : ∀ i, 0 ≤ m.l.getD i 0
  top : ∀ i, m.l.getD i 0 ≤ 1000000
  diag : ∀ a, a < m.n.toNat → m.l.getD (a * m.n.toNat + a) 0 = 0
def MapOkO (m : Option MapD) : Prop := ∀ x, m = some x → MapOk x
def tm (m : MapD) (a b : Int) : Int := m.l.getD (a.toNat * m.n.toNat + b.toNat) 0
def inMap (m : MapD) (a : Int) : Bool := decide (0 ≤ a) && decide (a < m.n)
def mtime (m : Option MapD) (a b : Int) : Int × Bool := match m with
  | none => (0, false)
  | some m => if inMap m a && inMap m b then (tm m a b, true) else (0, false)
def places (m : Option MapD) : Int := match m with | none => 0 | some m => m.n
def times (m : Option MapD) : List Int := match m with | none => [] | some m => m.l

def itr {α : Type} (f : Nat → α → α) : Nat → α → α
  | 0, x => x
  | k + 1, x => f k (itr f k x)
def relax (n b a d : Nat) (l : List Int) : List Int := l.set (a * n + d) (min (l.getD (a * n + d) 0) (l.getD (a * n + b) 0 + l.getD (b * n + d) 0))
def fwA (n b a : Nat) (l : List Int) : List Int := itr (fun d l => relax n b a d l) n l
def fwB (n b : Nat) (l : List Int) : List Int := itr (fun a l => fwA n b a l) n l
def fw (n : Nat) (l : List Int) : List Int := itr (fun b l => fwB n b l) n l
def closed (m : MapD) : MapD := ⟨m.n, fw m.n.toNat m.l⟩
def evenL (n : Nat) (l : List Int) : Prop := ∀ b a d, b < n → a < n → d < n → l.getD (a * n + d) 0 ≤ l.getD (a * n + b) 0 + l.getD (b * n + d) 0
noncomputable def even (m : Option MapD) : Bool := match m with
  | none => false
  | some m => @decide (evenL m.n.toNat m.l) (Classical.propDecidable _)

theorem getD_all {l : List Int} {p : Int → Prop} (h0 : p 0) (h : ∀ x ∈ l, p x) (i : Nat) : p (l.getD i 0) := by
  rw [List.getD_eq_getElem?_getD]
  cases hi : l[i]? with
  | none => exact h0
  | some x => exact h x (List.mem_of_getElem? hi)
theorem newE_ok {n : Int} {ts : List Int} : newE n ts = 0 ↔ MapOk ⟨n, ts⟩ := by
  unfold newE
  constructor
  · intro h
    split at h
    · cases h
    · rename_i h1
      split at h
      · cases h
      · rename_i h2
        split at h
        · cases h
        · rename_i h3
          split at h
          · cases h
          · rename_i h4
            have h3 : ∀ x ∈ ts, 0 ≤ x ∧ x ≤ 1000000 := by
              have : ts.all (fun t => decide (0 ≤ t) && decide (t ≤ 1000000)) = true := by simpa only [Bool.not_eq_true', Bool.not_eq_false] using h3
              simpa only [List.all_eq_true, Bool.and_eq_true, decide_eq_true_eq] using this
            have h4 : ∀ a, a < n.toNat → ts.getD (a * n.toNat + a) 0 = 0 := by
              have : (List.range n.toNat).all (fun a => decide (ts.getD (a * n.toNat + a) 0 = 0)) = true := by simpa only [Bool.not_eq_true', Bool.not_eq_false] using h4
              simpa only [List.all_eq_true, List.mem_range, decide_eq_true_eq] using this
            simp only [Bool.or_eq_true, decide_eq_true_eq, not_or, Bool.not_eq_true', decide_eq_false_iff_not, Decidable.not_not] at h1 h2
            obtain ⟨h1a, h1b⟩ := h1
            have hl : ts.length = n.toNat * n.toNat := by
              have : (n.toNat : Int) = n := by omega
              have h5 : (ts.length : Int) = ((n.toNat * n.toNat : Nat) : Int) := by rw [h2, Int.natCast_mul, this]
              exact_mod_cast h5
            refine ⟨by show 1 ≤ n; omega, by show n ≤ 12; omega, hl, fun i => getD_all (p := fun x => 0 ≤ x) (by decide) (fun x hx => ?_) i, fun i => getD_all (p := fun x => x ≤ 1000000) (by decide) (fun x hx => ?_) i, fun a ha => ?_⟩
            · exact (h3 x hx).1
            · exact (h3 x hx).2
            · exact h4 a ha
  · rintro ⟨h1, h2, h3, h4, h5, h6⟩
    dsimp only at h1 h2 h3 h4 h5 h6
    have hl : (ts.length : Int) = n * n := by
      have : (n.toNat : Int) = n := by omega
      rw [h3, Int.natCast_mul, this]
    have ha : ts.all (fun t => decide (0 ≤ t) && decide (t ≤ 1000000)) = true := by
      simp only [List.all_eq_true, Bool.and_eq_true, decide_eq_true_eq]
      intro x hx
      obtain ⟨i, hi, rfl⟩ := List.getElem_of_mem hx
      have e : ts.getD i 0 = ts[i] := by simp [hi]
      rw [← e]; exact ⟨h4 i, h5 i⟩
    have hd : (List.range n.toNat).all (fun a => decide (ts.getD (a * n.toNat + a) 0 = 0)) = true := by
      simp only [List.all_eq_true, List.mem_range, decide_eq_true_eq]
      exact h6
    rw [if_neg (by simp; omega), if_neg (by simp [hl]), if_neg (by simp only [ha]; decide), if_neg (by simp only [hd]; decide)]
theorem ix_lt {n a d : Nat} (ha : a < n) (hd : d < n) : a * n + d < n * n := by
  have : (a + 1) * n ≤ n * n := Nat.mul_le_mul_right _ ha
  rw [Nat.add_mul, Nat.one_mul] at this
  omega
theorem ix_inj {n a d a' d' : Nat} (hd : d < n) (hd' : d' < n) (h : a * n + d = a' * n + d') : a = a' ∧ d = d' := by
  have h1 : (a * n + d) / n = a := by rw [Nat.mul_comm, Nat.mul_add_div (by omega), Nat.div_eq_of_lt hd]; omega
  have h2 : (a' * n + d') / n = a' := by rw [Nat.mul_comm, Nat.mul_add_div (by omega), Nat.div_eq_of_lt hd']; omega
  rw [h] at h1
  have : a = a' := h1.symm.trans h2
  subst this
  exact ⟨rfl, by omega⟩
/-- A place's number in the list of times, as the code reckons it. -/
theorem ix_eq {n a d : Int} (hn : n ≤ 12) (ha : 0 ≤ a) (ha' : a < n) (hd : 0 ≤ d) (hd' : d < n) : wrap (wrap (a * n) + d) = ((a.toNat * n.toNat + d.toNat : Nat) : Int) ∧ a.toNat * n.toNat + d.toNat < n.toNat * n.toNat := by
  have h1 := ix_lt (n := n.toNat) (a := a.toNat) (d := d.toNat) (by omega) (by omega)
  have h2 : n.toNat * n.toNat ≤ 12 * 12 := Nat.mul_le_mul (by omega) (by omega)
  have h3 : ((a.toNat * n.toNat : Nat) : Int) = a * n := by rw [Int.natCast_mul]; congr 1 <;> omega
  rw [← h3]
  refine ⟨?_, h1⟩
  rw [wrap_id (n := ((a.toNat * n.toNat : Nat) : Int)) (by omega) (by omega), wrap_id (by omega) (by omega)]
  omega
end Go.Eng

/- What the functions of maps tell. -/
set_option linter.unusedVariables false
set_option linter.unusedSimpArgs false
namespace Go.Eng
open Go Go.Proofs

def new_con : Con := ⟨[.c .i, .c (.a (.f .int))], fun n ts => ⟨none, [⟨some (newE n ts ≠ 0), [.c .np, .c (.i (newE n ts))]⟩, ⟨some (newE n ts = 0), [.p true 73 [.i n, .o .int 3 ts], .c (.i 0)]⟩]⟩⟩
/-- .. of numbers that are known. -/
def newC_con : Con := ⟨[.c .i, .c (.a (.f .int))], fun n ts => ⟨none, [bif decide (newE n ts = 0) then ⟨none, [.p true 73 [.i n, .o .int 3 ts], .c (.i 0)]⟩ else ⟨none, [.c .np, .c (.i (newE n ts))]⟩]⟩⟩
def new_cs : Cons := []
def new_la : List (Nat × LA) := [(6, ⟨[0, 1, 21, 22], [.i 23]⟩), (12, ⟨[0, 1, 34], [.i 35]⟩)]
def rNew_con : Con := ⟨[.c .i, .c (.a (.f .int))], fun n ts => ⟨none, [⟨some (newE n ts ≠ 0), [.c .np, .c (.i (newE n ts))]⟩, ⟨some (newE n ts = 0), [.p true 75 [.i n, .o .int 3 ts], .c (.i 0)]⟩]⟩⟩
def rNew_cs : Cons := []
def rNew_la : List (Nat × LA) := [(6, ⟨[0, 1], [.i 6]⟩), (11, ⟨[0, 1], [.i 7]⟩)]
def time_con : Con := ⟨[.q .map 73, .c .i, .c .i], fun m a b => ⟨some (MapOkO m), [⟨none, [.c (.i (mtime m a b).1), .c (.b (mtime m a b).2)]⟩]⟩⟩
def time_cs : Cons := []
def time_la : List (Nat × LA) := []
def places_con : Con := ⟨[.q .map 73], fun m => one [.c (.i (places m))]⟩
def places_cs : Cons := []
def places_la : List (Nat × LA) := []
def times_con : Con := ⟨[.q .map 73], fun m => ⟨some (MapOkO m), [⟨none, [.c (.o .int 3 (times m))]⟩]⟩⟩
def times_cs : Cons := []
def times_la : List (Nat × LA) := []
def closed_con : Con := ⟨[.q .map 73], fun m => ⟨some (MapOkO m), [⟨none, [match m with | none => .c .np | some m => .p true 73 [.i m.n, .o .int 3 (fw m.n.toNat m.l)]]⟩]⟩⟩
def closed_cs : Cons := [(33, times_con)]
def closed_la : List (Nat × LA) := [(5, ⟨[0, 3, 20], [.i 21, .car 3 1 .int]⟩), (8, ⟨[0, 3, 4, 20, 21, 27], [.i 28, .car 3 1 .int]⟩), (11, ⟨[0, 3, 4, 5, 20, 21, 27, 28, 34], [.i 35, .car 3 1 .int]⟩)]
noncomputable def even_con : Con := ⟨[.q .map 73], fun m => ⟨some (MapOkO m), [⟨none, [.c (.b (even m))]⟩]⟩⟩
def even_cs : Cons := []
def even_la : List (Nat × LA) := [(4, ⟨[0, 11], [.i 12]⟩), (7, ⟨[0, 3, 11, 12, 18], [.i 19]⟩), (10, ⟨[0, 3, 4, 11, 12, 18, 19, 25], [.i 26]⟩)]
end Go.Eng

/- The conditions of functions, as print.. of the engine told them. -/
set_option linter.unusedVariables false
namespace Go.Eng
open Go Go.Proofs
def new_vc : Prop :=
  ∀ (x : Int) (x_1 : List Int), LenOk x_1.length → (decide (x < (1 : Int)) = false → (decide (x > (12 : Int)) = true → newE x x_1 ≠ (0 : Int) ∧ (1 : Int) = newE x x_1 ∨ Bad (nat_lit 18) (List SW) [SW.c SC.nlp, SW.c (SC.i (Int.ofNat (nat_lit
  1)))]) ∧ (decide (x > (12 : Int)) = false → ((!decide ((↑x_1.length : Int) = wrap (x * x))) = true → newE x x_1 ≠ (0 : Int) ∧ (2 : Int) = newE x x_1 ∨ Bad (nat_lit 18) (List SW) [SW.c SC.nlp, SW.c (SC.i (Int.ofNat (nat_lit 2)))]) ∧
  ((!decide ((↑x_1.length : Int) = wrap (x * x))) = false → ∃ (inv : Int → Prop), ∃ (μ : Int → Nat), (((x = x ∧ (↑x_1.length : Int) = (↑x_1.length : Int) ∧ (0 : Int) = (0 : Int)) ∧ x_1 = x_1) ∧ inv (0 : Int)) ∧ ∀ (x_6 : Int), inv x_6 →
  (decide (x_6 < (↑x_1.length : Int)) = true → ((0 : Int) ≤ x_6 ∧ x_6 < (↑x_1.length : Int)) ∧ x_6.toNat < x_1.length ∧ (decide (x_1.getD x_6.toNat (Int.ofNat (0 : Nat)) < (0 : Int)) = false → (decide (x_1.getD x_6.toNat (Int.ofNat (0 : Nat))
  > (1000000 : Int)) = true → newE x x_1 ≠ (0 : Int) ∧ (7 : Int) = newE x x_1 ∨ Bad (nat_lit 18) (List SW) [SW.c SC.nlp, SW.c (SC.i (Int.ofNat (nat_lit 7)))]) ∧ (decide (x_1.getD x_6.toNat (Int.ofNat (0 : Nat)) > (1000000 : Int)) = false →
  ((x = x ∧ (↑x_1.length : Int) = (↑x_1.length : Int) ∧ wrap (x_6 + (1 : Int)) = wrap (x_6 + (1 : Int))) ∧ x_1 = x_1) ∧ inv (wrap (x_6 + (1 : Int))) ∧ μ (wrap (x_6 + (1 : Int))) < μ x_6)) ∧ (decide (x_1.getD x_6.toNat (Int.ofNat (0 : Nat)) <
  (0 : Int)) = !false → newE x x_1 ≠ (0 : Int) ∧ (7 : Int) = newE x x_1 ∨ Bad (nat_lit 18) (List SW) [SW.c SC.nlp, SW.c (SC.i (Int.ofNat (nat_lit 7)))])) ∧ (decide (x_6 < (↑x_1.length : Int)) = false → ∃ (inv : Int → Prop), ∃ (μ : Int → Nat),
  (((x = x ∧ x = x ∧ (0 : Int) = (0 : Int)) ∧ x_1 = x_1) ∧ inv (0 : Int)) ∧ ∀ (x_9 : Int), inv x_9 → (decide (x_9 < x) = true → ((0 : Int) ≤ wrap (wrap (x_9 * x) + x_9) ∧ wrap (wrap (x_9 * x) + x_9) < (↑x_1.length : Int)) ∧ (wrap (wrap (x_9 *
  x) + x_9)).toNat < x_1.length ∧ ((!decide (x_1.getD (wrap (wrap (x_9 * x) + x_9)).toNat (Int.ofNat (0 : Nat)) = (0 : Int))) = true → newE x x_1 ≠ (0 : Int) ∧ (4 : Int) = newE x x_1 ∨ Bad (nat_lit 18) (List SW) [SW.c SC.nlp, SW.c (SC.i
  (Int.ofNat (nat_lit 4)))]) ∧ ((!decide (x_1.getD (wrap (wrap (x_9 * x) + x_9)).toNat (Int.ofNat (0 : Nat)) = (0 : Int))) = false → ((x = x ∧ x = x ∧ wrap (x_9 + (1 : Int)) = wrap (x_9 + (1 : Int))) ∧ x_1 = x_1) ∧ inv (wrap (x_9 + (1 :
  Int))) ∧ μ (wrap (x_9 + (1 : Int))) < μ x_9)) ∧ (decide (x_9 < x) = false → (True ∧ x_1.length * ((8 : Nat) * (1 : Nat)) ≤ (140737488355328 : Nat)) ∧ (Bad (nat_lit 18) (List SW) [SW.c (SC.p (nat_lit 2) (nat_lit 0)), SW.c (SC.i (Int.ofNat
  (nat_lit 0)))] ∨ newE x x_1 = (0 : Int) ∧ (0 : Int) = (0 : Int) ∧ x = x ∧ x_1 = x_1)))))) ∧ (decide (x < (1 : Int)) = !false → newE x x_1 ≠ (0 : Int) ∧ (1 : Int) = newE x x_1 ∨ Bad (nat_lit 18) (List SW) [SW.c SC.nlp, SW.c (SC.i (Int.ofNat
  (nat_lit 1)))])
theorem new_told (hc : CsOk Try.prog new_cs) (h : new_vc) : Told Try.prog 29 new_con := told (A := new_la) tabOk mixed hc Try.func29 (by kernel_rfl) (by kernel_rfl) h
def rNew_vc : Prop :=
  ∀ (x : Int) (x_1 : List Int), LenOk x_1.length → (decide (x < (1 : Int)) = false → (decide (x > (12 : Int)) = true → newE x x_1 ≠ (0 : Int) ∧ (1 : Int) = newE x x_1 ∨ Bad (nat_lit 18) (List SW) [SW.c SC.nlp, SW.c (SC.i (Int.ofNat (nat_lit
  1)))]) ∧ (decide (x > (12 : Int)) = false → ((!decide ((↑x_1.length : Int) = wrap (x * x))) = true → newE x x_1 ≠ (0 : Int) ∧ (2 : Int) = newE x x_1 ∨ Bad (nat_lit 18) (List SW) [SW.c SC.nlp, SW.c (SC.i (Int.ofNat (nat_lit 2)))]) ∧
  ((!decide ((↑x_1.length : Int) = wrap (x * x))) = false → ∃ (inv : Int → Prop), ∃ (μ : Int → Nat), (((x = x ∧ (0 : Int) = (0 : Int)) ∧ x_1 = x_1) ∧ inv (0 : Int)) ∧ ∀ (x_6 : Int), inv x_6 → (decide (x_6 < (↑x_1.length : Int)) = true → ((0 :
  Int) ≤ x_6 ∧ x_6 < (↑x_1.length : Int)) ∧ x_6.toNat < x_1.length ∧ (decide (x_1.getD x_6.toNat (Int.ofNat (0 : Nat)) < (0 : Int)) = false → ((0 : Int) ≤ x_6 ∧ x_6 < (↑x_1.length : Int)) ∧ x_6.toNat < x_1.length ∧ (decide (x_1.getD x_6.toNat
  (Int.ofNat (0 : Nat)) > (1000000 : Int)) = true → newE x x_1 ≠ (0 : Int) ∧ (7 : Int) = newE x x_1 ∨ Bad (nat_lit 18) (List SW) [SW.c SC.nlp, SW.c (SC.i (Int.ofNat (nat_lit 7)))]) ∧ (decide (x_1.getD x_6.toNat (Int.ofNat (0 : Nat)) >
  (1000000 : Int)) = false → ((x = x ∧ wrap (x_6 + (1 : Int)) = wrap (x_6 + (1 : Int))) ∧ x_1 = x_1) ∧ inv (wrap (x_6 + (1 : Int))) ∧ μ (wrap (x_6 + (1 : Int))) < μ x_6)) ∧ (decide (x_1.getD x_6.toNat (Int.ofNat (0 : Nat)) < (0 : Int)) =
  !false → newE x x_1 ≠ (0 : Int) ∧ (7 : Int) = newE x x_1 ∨ Bad (nat_lit 18) (List SW) [SW.c SC.nlp, SW.c (SC.i (Int.ofNat (nat_lit 7)))])) ∧ (decide (x_6 < (↑x_1.length : Int)) = false → ∃ (inv : Int → Prop), ∃ (μ : Int → Nat), (((x = x ∧
  (0 : Int) = (0 : Int)) ∧ x_1 = x_1) ∧ inv (0 : Int)) ∧ ∀ (x_9 : Int), inv x_9 → (decide (x_9 < x) = true → ((0 : Int) ≤ wrap (wrap (x_9 * x) + x_9) ∧ wrap (wrap (x_9 * x) + x_9) < (↑x_1.length : Int)) ∧ (wrap (wrap (x_9 * x) + x_9)).toNat <
  x_1.length ∧ ((!decide (x_1.getD (wrap (wrap (x_9 * x) + x_9)).toNat (Int.ofNat (0 : Nat)) = (0 : Int))) = true → newE x x_1 ≠ (0 : Int) ∧ (4 : Int) = newE x x_1 ∨ Bad (nat_lit 18) (List SW) [SW.c SC.nlp, SW.c (SC.i (Int.ofNat (nat_lit
  4)))]) ∧ ((!decide (x_1.getD (wrap (wrap (x_9 * x) + x_9)).toNat (Int.ofNat (0 : Nat)) = (0 : Int))) = false → ((x = x ∧ wrap (x_9 + (1 : Int)) = wrap (x_9 + (1 : Int))) ∧ x_1 = x_1) ∧ inv (wrap (x_9 + (1 : Int))) ∧ μ (wrap (x_9 + (1 :
  Int))) < μ x_9)) ∧ (decide (x_9 < x) = false → (True ∧ ((0 : Nat) + x_1.length) * ((8 : Nat) * (1 : Nat)) ≤ (140737488355328 : Nat)) ∧ (Bad (nat_lit 18) (List SW) [SW.c (SC.p (nat_lit 3) (nat_lit 0)), SW.c (SC.i (Int.ofNat (nat_lit 0)))] ∨
  newE x x_1 = (0 : Int) ∧ (0 : Int) = (0 : Int) ∧ x = x ∧ [] ++ x_1 = x_1)))))) ∧ (decide (x < (1 : Int)) = !false → newE x x_1 ≠ (0 : Int) ∧ (1 : Int) = newE x x_1 ∨ Bad (nat_lit 18) (List SW) [SW.c SC.nlp, SW.c (SC.i (Int.ofNat (nat_lit
  1)))])
theorem rNew_told (hc : CsOk Try.prog rNew_cs) (h : rNew_vc) : Told Try.prog 37 rNew_con := told (A := rNew_la) tabOk mixed hc Try.func37 (by kernel_rfl) (by kernel_rfl) h
def time_vc : Prop :=
  (∀ (x x_1 : Int), (∀ (x : MapD), none = some x → MapOk x) → (0 : Int) = (mtime none x x_1).fst ∧ false = (mtime none x x_1).snd) ∧ ∀ (x : MapD), LenOk x.l.length → ∀ (x_2 x_3 : Int), (∀ (x_4 : MapD), some x = some x_4 → MapOk x_4) → (decide
  (x_2 < (0 : Int)) = false → (decide (x_3 < (0 : Int)) = false → (decide (x_2 ≥ x.n) = false → (decide (x_3 ≥ x.n) = true → (0 : Int) = (mtime (some x) x_2 x_3).fst ∧ false = (mtime (some x) x_2 x_3).snd) ∧ (decide (x_3 ≥ x.n) = false → ((0
  : Int) ≤ wrap (wrap (x_2 * x.n) + x_3) ∧ wrap (wrap (x_2 * x.n) + x_3) < (↑x.l.length : Int)) ∧ (wrap (wrap (x_2 * x.n) + x_3)).toNat < x.l.length ∧ x.l.getD (wrap (wrap (x_2 * x.n) + x_3)).toNat (Int.ofNat (0 : Nat)) = (mtime (some x) x_2
  x_3).fst ∧ true = (mtime (some x) x_2 x_3).snd)) ∧ (decide (x_2 ≥ x.n) = !false → (0 : Int) = (mtime (some x) x_2 x_3).fst ∧ false = (mtime (some x) x_2 x_3).snd)) ∧ (decide (x_3 < (0 : Int)) = !false → (0 : Int) = (mtime (some x) x_2
  x_3).fst ∧ false = (mtime (some x) x_2 x_3).snd)) ∧ (decide (x_2 < (0 : Int)) = !false → (0 : Int) = (mtime (some x) x_2 x_3).fst ∧ false = (mtime (some x) x_2 x_3).snd)
theorem time_told (hc : CsOk Try.prog time_cs) (h : time_vc) : Told Try.prog 30 time_con := told (A := time_la) tabOk mixed hc Try.func30 (by kernel_rfl) (by kernel_rfl) h
def places_vc : Prop :=
  (0 : Int) = places none ∧ ∀ (x : MapD), LenOk x.l.length → x.n = places (some x)
theorem places_told (hc : CsOk Try.prog places_cs) (h : places_vc) : Told Try.prog 39 places_con := told (A := places_la) tabOk mixed hc Try.func39 (by kernel_rfl) (by kernel_rfl) h
def times_vc : Prop :=
  ((∀ (x : MapD), none = some x → MapOk x) → times none = nilOf Int) ∧ ∀ (x : MapD), LenOk x.l.length → (∀ (x_2 : MapD), some x = some x_2 → MapOk x_2) → (True ∧ x.l.length * ((8 : Nat) * (1 : Nat)) ≤ (140737488355328 : Nat)) ∧ x.l = times
  (some x)
theorem times_told (hc : CsOk Try.prog times_cs) (h : times_vc) : Told Try.prog 33 times_con := told (A := times_la) tabOk mixed hc Try.func33 (by kernel_rfl) (by kernel_rfl) h
def closed_vc : Prop :=
  ((∀ (x : MapD), none = some x → MapOk x) → True) ∧ ∀ (x : MapD), LenOk x.l.length → (∀ (x_2 : MapD), some x = some x_2 → MapOk x_2) → (∀ (x_3 : MapD), some x = some x_3 → MapOk x_3) ∧ ∃ (inv : Int → List Int → Prop), ∃ (μ : Int → List Int →
  Nat), (((x.n = x.n ∧ (0 : Int) = (0 : Int)) ∧ (x.n = x.n ∧ x.n = x.n) ∧ times (some x) = times (some x) ∧ x.l = x.l) ∧ inv (0 : Int) (times (some x))) ∧ ∀ (x_3 : Int) (x_4 : List Int), inv x_3 x_4 → (decide (x_3 < x.n) = true → ∃ (inv_1 :
  Int → List Int → Prop), ∃ (μ_1 : Int → List Int → Nat), (((x_3 = x_3 ∧ x.n = x.n ∧ x_3 = x_3 ∧ x.n = x.n ∧ (0 : Int) = (0 : Int)) ∧ (x.n = x.n ∧ x.n = x.n) ∧ x_4 = x_4 ∧ x.l = x.l) ∧ inv_1 (0 : Int) x_4) ∧ ∀ (x_7 : Int) (x_8 : List Int),
  inv_1 x_7 x_8 → (decide (x_7 < x.n) = true → ∃ (inv : Int → List Int → Prop), ∃ (μ : Int → List Int → Nat), (((x_3 = x_3 ∧ x_7 = x_7 ∧ x.n = x.n ∧ x_3 = x_3 ∧ x.n = x.n ∧ x_7 = x_7 ∧ x.n = x.n ∧ (0 : Int) = (0 : Int)) ∧ (x.n = x.n ∧ x.n =
  x.n) ∧ x_8 = x_8 ∧ x.l = x.l) ∧ inv (0 : Int) x_8) ∧ ∀ (x_11 : Int) (x_12 : List Int), inv x_11 x_12 → (decide (x_11 < x.n) = true → ((0 : Int) ≤ wrap (wrap (x_7 * x.n) + x_11) ∧ wrap (wrap (x_7 * x.n) + x_11) < (↑x_12.length : Int)) ∧
  (wrap (wrap (x_7 * x.n) + x_11)).toNat < x_12.length ∧ ((0 : Int) ≤ wrap (wrap (x_7 * x.n) + x_3) ∧ wrap (wrap (x_7 * x.n) + x_3) < (↑x_12.length : Int)) ∧ (wrap (wrap (x_7 * x.n) + x_3)).toNat < x_12.length ∧ ((0 : Int) ≤ wrap (wrap (x_3 *
  x.n) + x_11) ∧ wrap (wrap (x_3 * x.n) + x_11) < (↑x_12.length : Int)) ∧ (wrap (wrap (x_3 * x.n) + x_11)).toNat < x_12.length ∧ ((0 : Int) ≤ wrap (wrap (x_7 * x.n) + x_11) ∧ wrap (wrap (x_7 * x.n) + x_11) < (↑x_12.length : Int)) ∧ (wrap
  (wrap (x_7 * x.n) + x_11)).toNat < x_12.length ∧ ((x_3 = x_3 ∧ x_7 = x_7 ∧ x.n = x.n ∧ x_3 = x_3 ∧ x.n = x.n ∧ x_7 = x_7 ∧ x.n = x.n ∧ wrap (x_11 + (1 : Int)) = wrap (x_11 + (1 : Int))) ∧ (x.n = x.n ∧ x.n = x.n) ∧ x_12.set (wrap (wrap (x_7
  * x.n) + x_11)).toNat (min (x_12.getD (wrap (wrap (x_7 * x.n) + x_11)).toNat (Int.ofNat (0 : Nat))) (wrap (x_12.getD (wrap (wrap (x_7 * x.n) + x_3)).toNat (Int.ofNat (0 : Nat)) + x_12.getD (wrap (wrap (x_3 * x.n) + x_11)).toNat (Int.ofNat
  (0 : Nat))))) = x_12.set (wrap (wrap (x_7 * x.n) + x_11)).toNat (min (x_12.getD (wrap (wrap (x_7 * x.n) + x_11)).toNat (Int.ofNat (0 : Nat))) (wrap (x_12.getD (wrap (wrap (x_7 * x.n) + x_3)).toNat (Int.ofNat (0 : Nat)) + x_12.getD (wrap
  (wrap (x_3 * x.n) + x_11)).toNat (Int.ofNat (0 : Nat))))) ∧ x.l = x.l) ∧ inv (wrap (x_11 + (1 : Int))) (x_12.set (wrap (wrap (x_7 * x.n) + x_11)).toNat (min (x_12.getD (wrap (wrap (x_7 * x.n) + x_11)).toNat (Int.ofNat (0 : Nat))) (wrap
  (x_12.getD (wrap (wrap (x_7 * x.n) + x_3)).toNat (Int.ofNat (0 : Nat)) + x_12.getD (wrap (wrap (x_3 * x.n) + x_11)).toNat (Int.ofNat (0 : Nat)))))) ∧ μ (wrap (x_11 + (1 : Int))) (x_12.set (wrap (wrap (x_7 * x.n) + x_11)).toNat (min
  (x_12.getD (wrap (wrap (x_7 * x.n) + x_11)).toNat (Int.ofNat (0 : Nat))) (wrap (x_12.getD (wrap (wrap (x_7 * x.n) + x_3)).toNat (Int.ofNat (0 : Nat)) + x_12.getD (wrap (wrap (x_3 * x.n) + x_11)).toNat (Int.ofNat (0 : Nat)))))) < μ x_11
  x_12) ∧ (decide (x_11 < x.n) = false → ((x_3 = x_3 ∧ x.n = x.n ∧ x_3 = x_3 ∧ x.n = x.n ∧ wrap (x_7 + (1 : Int)) = wrap (x_7 + (1 : Int))) ∧ (x.n = x.n ∧ x.n = x.n) ∧ x_12 = x_12 ∧ x.l = x.l) ∧ inv_1 (wrap (x_7 + (1 : Int))) x_12 ∧ μ_1 (wrap
  (x_7 + (1 : Int))) x_12 < μ_1 x_7 x_8)) ∧ (decide (x_7 < x.n) = false → ((x.n = x.n ∧ wrap (x_3 + (1 : Int)) = wrap (x_3 + (1 : Int))) ∧ (x.n = x.n ∧ x.n = x.n) ∧ x_8 = x_8 ∧ x.l = x.l) ∧ inv (wrap (x_3 + (1 : Int))) x_8 ∧ μ (wrap (x_3 + (1
  : Int))) x_8 < μ x_3 x_4)) ∧ (decide (x_3 < x.n) = false → x.n = x.n ∧ x_4 = fw x.n.toNat x.l)
theorem closed_told (hc : CsOk Try.prog closed_cs) (h : closed_vc) : Told Try.prog 31 closed_con := told (A := closed_la) tabOk mixed hc Try.func31 (by kernel_rfl) (by kernel_rfl) h
def even_vc : Prop :=
  ((∀ (x : MapD), none = some x → MapOk x) → false = even none) ∧ ∀ (x : MapD), LenOk x.l.length → (∀ (x_2 : MapD), some x = some x_2 → MapOk x_2) → ∃ (inv : Int → Prop), ∃ (μ : Int → Nat), (((x.n = x.n ∧ (0 : Int) = (0 : Int)) ∧ x.n = x.n ∧
  x.l = x.l) ∧ inv (0 : Int)) ∧ ∀ (x_3 : Int), inv x_3 → (decide (x_3 < x.n) = true → ∃ (inv_1 : Int → Prop), ∃ (μ_1 : Int → Nat), (((x_3 = x_3 ∧ x.n = x.n ∧ x_3 = x_3 ∧ x.n = x.n ∧ (0 : Int) = (0 : Int)) ∧ x.n = x.n ∧ x.l = x.l) ∧ inv_1 (0 :
  Int)) ∧ ∀ (x_6 : Int), inv_1 x_6 → (decide (x_6 < x.n) = true → ∃ (inv : Int → Prop), ∃ (μ : Int → Nat), (((x_3 = x_3 ∧ x_6 = x_6 ∧ x.n = x.n ∧ x_3 = x_3 ∧ x.n = x.n ∧ x_6 = x_6 ∧ x.n = x.n ∧ (0 : Int) = (0 : Int)) ∧ x.n = x.n ∧ x.l = x.l)
  ∧ inv (0 : Int)) ∧ ∀ (x_9 : Int), inv x_9 → (decide (x_9 < x.n) = true → ((0 : Int) ≤ wrap (wrap (x_6 * x.n) + x_9) ∧ wrap (wrap (x_6 * x.n) + x_9) < (↑x.l.length : Int)) ∧ (wrap (wrap (x_6 * x.n) + x_9)).toNat < x.l.length ∧ ((0 : Int) ≤
  wrap (wrap (x_6 * x.n) + x_3) ∧ wrap (wrap (x_6 * x.n) + x_3) < (↑x.l.length : Int)) ∧ (wrap (wrap (x_6 * x.n) + x_3)).toNat < x.l.length ∧ ((0 : Int) ≤ wrap (wrap (x_3 * x.n) + x_9) ∧ wrap (wrap (x_3 * x.n) + x_9) < (↑x.l.length : Int)) ∧
  (wrap (wrap (x_3 * x.n) + x_9)).toNat < x.l.length ∧ (decide (x.l.getD (wrap (wrap (x_6 * x.n) + x_9)).toNat (Int.ofNat (0 : Nat)) > wrap (x.l.getD (wrap (wrap (x_6 * x.n) + x_3)).toNat (Int.ofNat (0 : Nat)) + x.l.getD (wrap (wrap (x_3 *
  x.n) + x_9)).toNat (Int.ofNat (0 : Nat)))) = true → false = even (some x)) ∧ (decide (x.l.getD (wrap (wrap (x_6 * x.n) + x_9)).toNat (Int.ofNat (0 : Nat)) > wrap (x.l.getD (wrap (wrap (x_6 * x.n) + x_3)).toNat (Int.ofNat (0 : Nat)) +
  x.l.getD (wrap (wrap (x_3 * x.n) + x_9)).toNat (Int.ofNat (0 : Nat)))) = false → ((x_3 = x_3 ∧ x_6 = x_6 ∧ x.n = x.n ∧ x_3 = x_3 ∧ x.n = x.n ∧ x_6 = x_6 ∧ x.n = x.n ∧ wrap (x_9 + (1 : Int)) = wrap (x_9 + (1 : Int))) ∧ x.n = x.n ∧ x.l = x.l)
  ∧ inv (wrap (x_9 + (1 : Int))) ∧ μ (wrap (x_9 + (1 : Int))) < μ x_9)) ∧ (decide (x_9 < x.n) = false → ((x_3 = x_3 ∧ x.n = x.n ∧ x_3 = x_3 ∧ x.n = x.n ∧ wrap (x_6 + (1 : Int)) = wrap (x_6 + (1 : Int))) ∧ x.n = x.n ∧ x.l = x.l) ∧ inv_1 (wrap
  (x_6 + (1 : Int))) ∧ μ_1 (wrap (x_6 + (1 : Int))) < μ_1 x_6)) ∧ (decide (x_6 < x.n) = false → ((x.n = x.n ∧ wrap (x_3 + (1 : Int)) = wrap (x_3 + (1 : Int))) ∧ x.n = x.n ∧ x.l = x.l) ∧ inv (wrap (x_3 + (1 : Int))) ∧ μ (wrap (x_3 + (1 :
  Int))) < μ x_3)) ∧ (decide (x_3 < x.n) = false → true = even (some x))
theorem even_told (hc : CsOk Try.prog even_cs) (h : even_vc) : Told Try.prog 32 even_con := told (A := even_la) tabOk mixed hc Try.func32 (by kernel_rfl) (by kernel_rfl) h
end Go.Eng

/- What the functions of maps tell is so. -/
set_option linter.unusedVariables false
set_option linter.unusedSimpArgs false
namespace Go.Eng
open Go Go.Proofs

/-- The laws of the code's own making of a map: bounds for its loops. -/
theorem all_next' {l : List Int} {f : Int → Bool} {i : Int} (h0 : 0 ≤ i) (h : i < l.length) : (l.take (i + 1).toNat).all f = ((l.take i.toNat).all f && f (l.getD i.toNat 0)) := by
  have hi : i.toNat < l.length := by omega
  have e : (i + 1).toNat = i.toNat + 1 := by omega
  rw [e, List.take_add_one, List.getElem?_eq_getElem hi, List.all_append]
  simp [hi]
theorem range_next {n : Nat} {f : Nat → Bool} : (List.range (n + 1)).all f = ((List.range n).all f && f n) := by
  rw [List.range_succ, List.all_append]; simp
theorem all_not {l : List Int} {f : Int → Bool} {i : Int} (h0 : 0 ≤ i) (h : i < l.length) (hf : f (l.getD i.toNat 0) = false) : l.all f = false := by
  have hi : i.toNat < l.length := by omega
  rw [List.all_eq_false]
  refine ⟨l[i.toNat], List.getElem_mem hi, ?_⟩
  have : l.getD i.toNat 0 = l[i.toNat] := by simp [hi]
  rw [this] at hf; simp [hf]
theorem range_not {n k : Nat} {f : Nat → Bool} (h : k < n) (hf : f k = false) : (List.range n).all f = false := by
  rw [List.all_eq_false]
  exact ⟨k, by simp [h], by simp [hf]⟩
theorem newE_1 {n : Int} {ts : List Int} (h : n < 1 ∨ 12 < n) : newE n ts = 1 := by
  unfold newE; rw [if_pos (by simp; omega)]
theorem newE_2 {n : Int} {ts : List Int} (h1 : ¬ n < 1) (h2 : ¬ 12 < n) (h : ¬ (ts.length : Int) = n * n) : newE n ts = 2 := by
  unfold newE; rw [if_neg (by simp; omega), if_pos (by simp [h])]
theorem newE_7 {n : Int} {ts : List Int} (h1 : ¬ n < 1) (h2 : ¬ 12 < n) (h : (ts.length : Int) = n * n) (h3 : ts.all (fun t => decide (0 ≤ t) && decide (t ≤ 1000000)) = false) : newE n ts = 7 := by
  unfold newE; rw [if_neg (by simp; omega), if_neg (by simp [h]), if_pos (by rw [h3]; rfl)]
theorem newE_4 {n : Int} {ts : List Int} (h1 : ¬ n < 1) (h2 : ¬ 12 < n) (h : (ts.length : Int) = n * n) (h3 : ts.all (fun t => decide (0 ≤ t) && decide (t ≤ 1000000)) = true) (h4 : (List.range n.toNat).all (fun a => decide (ts.getD (a * n.toNat + a) 0 = 0)) = false) : newE n ts = 4 := by
  unfold newE; rw [if_neg (by simp; omega), if_neg (by simp [h]), if_neg (by rw [h3]; decide), if_pos (by rw [h4]; rfl)]
theorem newE_0 {n : Int} {ts : List Int} (h1 : ¬ n < 1) (h2 : ¬ 12 < n) (h : (ts.length : Int) = n * n) (h3 : ts.all (fun t => decide (0 ≤ t) && decide (t ≤ 1000000)) = true) (h4 : (List.range n.toNat).all (fun a => decide (ts.getD (a * n.toNat + a) 0 = 0)) = true) : newE n ts = 0 := by
  unfold newE; rw [if_neg (by simp; omega), if_neg (by simp [h]), if_neg (by rw [h3]; decide), if_neg (by rw [h4]; decide)]
theorem sq_wrap {n : Int} (h1 : ¬ n < 1) (h2 : ¬ 12 < n) : wrap (n * n) = n * n ∧ n * n ≤ 144 := by
  have h : n * n ≤ 12 * 12 := Int.mul_le_mul (by omega) (by omega) (by omega) (by omega)
  have h0 : 0 ≤ n * n := Int.mul_nonneg (by omega) (by omega)
  exact ⟨wrap_id (by omega) (by omega), by omega⟩
theorem bad_t {x : Int} (h : x < 0 ∨ 1000000 < x) : (decide (0 ≤ x) && decide (x ≤ 1000000)) = false := by
  rw [Bool.and_eq_false_iff, decide_eq_false_iff_not, decide_eq_false_iff_not]; omega
theorem good_t {x : Int} (h : 0 ≤ x) (h' : x ≤ 1000000) : (true && (decide (0 ≤ x) && decide (x ≤ 1000000))) = true := by
  rw [Bool.true_and, Bool.and_eq_true, decide_eq_true_eq, decide_eq_true_eq]; exact ⟨h, h'⟩
theorem new_ok : new_vc := by
  intro n ts hl
  have hl := hl.le
  simp only [bad_false, int0, nilOf, decide_eq_true_eq, decide_eq_false_iff_not, Bool.not_eq_true', Bool.not_eq_false', Bool.not_true, Bool.not_false, Bool.false_eq_true, Bool.true_eq_false, eq_self, true_and, and_true, false_or, or_false, false_implies, true_implies, implies_true, Int.not_lt, Int.not_le, gt_iff_lt, ge_iff_le, ne_eq]
  refine ⟨fun h1 => ⟨fun h2 => ?_, fun h2 => ⟨fun h3 => ?_, fun h3 => ?_⟩⟩, fun h1 => ?_⟩
  · rw [newE_1 (.inr h2)]; decide
  · rw [(sq_wrap (by omega) (by omega)).1] at h3
    rw [newE_2 (by omega) (by omega) h3]; decide
  · obtain ⟨hsq, hsq2⟩ := sq_wrap (n := n) (by omega) (by omega)
    rw [hsq] at h3
    refine ⟨fun i => 0 ≤ i ∧ i ≤ (ts.length : Int) ∧ (ts.take i.toNat).all (fun t => decide (0 ≤ t) && decide (t ≤ 1000000)) = true, fun i => ts.length - i.toNat, ⟨by omega, by omega, by simp⟩, fun i hi => ⟨fun h => ?_, fun h => ?_⟩⟩
    · obtain ⟨i0, i1, i2⟩ := hi
      rw [wrap_id (n := i + 1) (by omega) (by omega)]
      refine ⟨⟨i0, h⟩, by omega, fun h4 => ⟨fun h5 => ?_, fun h5 => ⟨⟨by omega, by omega, ?_⟩, by dsimp only; omega⟩⟩, fun h4 => ?_⟩
      · rw [newE_7 (by omega) (by omega) h3 (all_not i0 h (bad_t (.inr h5)))]; decide
      · rw [all_next' i0 h, i2]; exact good_t h4 h5
      · rw [newE_7 (by omega) (by omega) h3 (all_not i0 h (bad_t (.inl h4)))]; decide
    · have hall : ts.all (fun t => decide (0 ≤ t) && decide (t ≤ 1000000)) = true := by
        have := hi.2.2
        rwa [List.take_of_length_le (by omega)] at this
      refine ⟨fun i => 0 ≤ i ∧ i ≤ n ∧ (List.range i.toNat).all (fun a => decide (ts.getD (a * n.toNat + a) 0 = 0)) = true, fun i => n.toNat - i.toNat, ⟨by omega, by omega, by simp⟩, fun i hi => ⟨fun h => ?_, fun h => ?_⟩⟩
      · obtain ⟨i0, i1, i2⟩ := hi
        obtain ⟨e1, e2⟩ := ix_eq (n := n) (a := i) (d := i) (by omega) i0 h i0 h
        have hlen : ts.length = n.toNat * n.toNat := by
          have : (n.toNat : Int) = n := by omega
          have h5 : (ts.length : Int) = ((n.toNat * n.toNat : Nat) : Int) := by rw [h3, Int.natCast_mul, this]
          exact_mod_cast h5
        rw [e1, wrap_id (n := i + 1) (by omega) (by omega), Int.toNat_natCast]
        refine ⟨⟨by omega, by omega⟩, by omega, fun h4 => ?_, fun h4 => ⟨⟨by omega, by omega, ?_⟩, by dsimp only; omega⟩⟩
        · rw [newE_4 (by omega) (by omega) h3 hall (range_not (k := i.toNat) (by omega) (decide_eq_false h4))]; decide
        · rw [show (i + 1).toNat = i.toNat + 1 by omega, range_next, i2, Bool.true_and]; exact decide_eq_true h4
      · dsimp only at hi
        have : i.toNat = n.toNat := by omega
        rw [this] at hi
        refine ⟨by omega, newE_0 (by omega) (by omega) h3 hall hi.2.2⟩
  · rw [newE_1 (.inl h1)]; decide
theorem rNew_ok : rNew_vc := by
  intro n ts hl
  have hl := hl.le
  simp only [bad_false, int0, nilOf, decide_eq_true_eq, decide_eq_false_iff_not, Bool.not_eq_true', Bool.not_eq_false', Bool.not_true, Bool.not_false, Bool.false_eq_true, Bool.true_eq_false, eq_self, true_and, and_true, false_or, or_false, false_implies, true_implies, implies_true, Int.not_lt, Int.not_le, gt_iff_lt, ge_iff_le, ne_eq]
  refine ⟨fun h1 => ⟨fun h2 => ?_, fun h2 => ⟨fun h3 => ?_, fun h3 => ?_⟩⟩, fun h1 => ?_⟩
  · rw [newE_1 (.inr h2)]; decide
  · rw [(sq_wrap (by omega) (by omega)).1] at h3
    rw [newE_2 (by omega) (by omega) h3]; decide
  · obtain ⟨hsq, hsq2⟩ := sq_wrap (n := n) (by omega) (by omega)
    rw [hsq] at h3
    refine ⟨fun i => 0 ≤ i ∧ i ≤ (ts.length : Int) ∧ (ts.take i.toNat).all (fun t => decide (0 ≤ t) && decide (t ≤ 1000000)) = true, fun i => ts.length - i.toNat, ⟨by omega, by omega, by simp⟩, fun i hi => ⟨fun h => ?_, fun h => ?_⟩⟩
    · obtain ⟨i0, i1, i2⟩ := hi
      rw [wrap_id (n := i + 1) (by omega) (by omega)]
      refine ⟨⟨i0, h⟩, by omega, fun h4 => ⟨⟨i0, h⟩, by omega, fun h5 => ?_, fun h5 => ⟨⟨by omega, by omega, ?_⟩, by dsimp only; omega⟩⟩, fun h4 => ?_⟩
      · rw [newE_7 (by omega) (by omega) h3 (all_not i0 h (bad_t (.inr h5)))]; decide
      · rw [all_next' i0 h, i2]; exact good_t h4 h5
      · rw [newE_7 (by omega) (by omega) h3 (all_not i0 h (bad_t (.inl h4)))]; decide
    · have hall : ts.all (fun t => decide (0 ≤ t) && decide (t ≤ 1000000)) = true := by
        have := hi.2.2
        rwa [List.take_of_length_le (by omega)] at this
      refine ⟨fun i => 0 ≤ i ∧ i ≤ n ∧ (List.range i.toNat).all (fun a => decide (ts.getD (a * n.toNat + a) 0 = 0)) = true, fun i => n.toNat - i.toNat, ⟨by omega, by omega, by simp⟩, fun i hi => ⟨fun h => ?_, fun h => ?_⟩⟩
      · obtain ⟨i0, i1, i2⟩ := hi
        obtain ⟨e1, e2⟩ := ix_eq (n := n) (a := i) (d := i) (by omega) i0 h i0 h
        have hlen : ts.length = n.toNat * n.toNat := by
          have : (n.toNat : Int) = n := by omega
          have h5 : (ts.length : Int) = ((n.toNat * n.toNat : Nat) : Int) := by rw [h3, Int.natCast_mul, this]
          exact_mod_cast h5
        rw [e1, wrap_id (n := i + 1) (by omega) (by omega), Int.toNat_natCast]
        refine ⟨⟨by omega, by omega⟩, by omega, fun h4 => ?_, fun h4 => ⟨⟨by omega, by omega, ?_⟩, by dsimp only; omega⟩⟩
        · rw [newE_4 (by omega) (by omega) h3 hall (range_not (k := i.toNat) (by omega) (decide_eq_false h4))]; decide
        · rw [show (i + 1).toNat = i.toNat + 1 by omega, range_next, i2, Bool.true_and]; exact decide_eq_true h4
      · dsimp only at hi
        have : i.toNat = n.toNat := by omega
        rw [this] at hi
        refine ⟨by omega, newE_0 (by omega) (by omega) h3 hall hi.2.2, rfl⟩
  · rw [newE_1 (.inl h1)]; decide
theorem inMap_iff {m : MapD} {a : Int} : inMap m a = true ↔ 0 ≤ a ∧ a < m.n := by simp [inMap]
theorem mtime_out {m : MapD} {a b : Int} (h : ¬ (0 ≤ a ∧ a < m.n ∧ 0 ≤ b ∧ b < m.n)) : mtime (some m) a b = (0, false) := by
  unfold mtime
  dsimp only
  rw [if_neg]
  rw [Bool.and_eq_true, inMap_iff, inMap_iff]
  omega
theorem mtime_in {m : MapD} {a b : Int} (h1 : 0 ≤ a) (h2 : a < m.n) (h3 : 0 ≤ b) (h4 : b < m.n) : mtime (some m) a b = (tm m a b, true) := by
  unfold mtime
  dsimp only
  rw [if_pos]
  rw [Bool.and_eq_true, inMap_iff, inMap_iff]
  omega
theorem time_ok : time_vc := by
  refine ⟨fun a b _ => by simp [mtime], fun m hl a b hm => ?_⟩
  have hm := hm m rfl
  simp only [bad_false, int0, nilOf, decide_eq_true_eq, decide_eq_false_iff_not, Bool.not_eq_true', Bool.not_eq_false', Bool.not_true, Bool.not_false, Bool.false_eq_true, Bool.true_eq_false, eq_self, true_and, and_true, false_or, or_false, false_implies, true_implies, implies_true, Int.not_lt, Int.not_le, gt_iff_lt, ge_iff_le, ne_eq]
  refine ⟨fun h1 => ⟨fun h2 => ⟨fun h3 => ⟨fun h4 => ?_, fun h4 => ?_⟩, fun h3 => ?_⟩, fun h2 => ?_⟩, fun h1 => ?_⟩
  all_goals first
    | (rw [mtime_out (by omega)]; exact ⟨rfl, rfl⟩)
    | (obtain ⟨e1, e2⟩ := ix_eq (n := m.n) (a := a) (d := b) hm.hi (by omega) (by omega) (by omega) (by omega)
       have := hm.len
       rw [e1, Int.toNat_natCast, mtime_in (by omega) (by omega) (by omega) (by omega)]
       exact ⟨⟨by omega, by omega⟩, by omega, rfl, rfl⟩)
theorem places_ok : places_vc := by
  simp [places_vc, places]
theorem mapOk_len {m : MapD} (h : MapOk m) : m.l.length ≤ 144 := by
  have := h.len
  have h1 := h.lo
  have h2 := h.hi
  have h3 : m.n.toNat * m.n.toNat ≤ 12 * 12 := Nat.mul_le_mul (by omega) (by omega)
  omega
theorem times_ok : times_vc := by
  refine ⟨fun _ => by simp [times], fun m hl hm => ?_⟩
  have := mapOk_len (hm m rfl)
  simp only [bad_false, int0, nilOf, decide_eq_true_eq, decide_eq_false_iff_not, Bool.not_eq_true', Bool.not_eq_false', Bool.not_true, Bool.not_false, Bool.false_eq_true, Bool.true_eq_false, eq_self, true_and, and_true, false_or, or_false, false_implies, true_implies, implies_true, Int.not_lt, Int.not_le, gt_iff_lt, ge_iff_le, ne_eq, times]
  omega
/-- Times that may stand in a map. -/
structure TimesOk (n : Nat) (l : List Int) : Prop where
  len : l.length = n * n
  pos : ∀ i, 0 ≤ l.getD i 0
  top : ∀ i, l.getD i 0 ≤ 1000000
theorem itr_pres {α : Type} {f : Nat → α → α} {p : α → Prop} (h : ∀ k x, p x → p (f k x)) : ∀ k {x : α}, p x → p (itr f k x)
  | 0, _, hx => hx
  | k + 1, _, hx => h k _ (itr_pres h k hx)
theorem getD_set {l : List Int} {i j : Nat} {x : Int} (hi : i < l.length) : (l.set i x).getD j 0 = if j = i then x else l.getD j 0 := by
  rw [List.getD_eq_getElem?_getD, List.getD_eq_getElem?_getD, List.getElem?_set]
  by_cases h : i = j
  · subst h; simp [hi]
  · rw [if_neg h, if_neg (Ne.symm h)]
theorem relax_ok {n b a d : Nat} {l : List Int} (h : TimesOk n l) : TimesOk n (relax n b a d l) := by
  unfold relax
  by_cases hi : a * n + d < l.length
  · have hp := h.pos (a * n + b)
    have hq := h.pos (b * n + d)
    have hr := h.pos (a * n + d)
    have ht := h.top (a * n + d)
    refine ⟨by rw [List.length_set]; exact h.len, fun i => ?_, fun i => ?_⟩ <;> rw [getD_set hi] <;> split
    · omega
    · exact h.pos i
    · omega
    · exact h.top i
  · rw [List.set_eq_of_length_le (by omega)]; exact h
theorem fwA_ok {n b a : Nat} {l : List Int} (h : TimesOk n l) : TimesOk n (fwA n b a l) := itr_pres (fun _ _ h => relax_ok h) n h
theorem fwB_ok {n b : Nat} {l : List Int} (h : TimesOk n l) : TimesOk n (fwB n b l) := itr_pres (fun _ _ h => fwA_ok h) n h
theorem MapOk.times {m : MapD} (h : MapOk m) : TimesOk m.n.toNat m.l := ⟨h.len, h.pos, h.top⟩
theorem ret_n {n : Int} (h : n ≤ 12) (i : Int) (h0 : 0 ≤ i) (h1 : i < n) : wrap (i + 1) = i + 1 ∧ (i + 1).toNat = i.toNat + 1 := ⟨wrap_id (by omega) (by omega), by omega⟩
theorem closed_ok : closed_vc := by
  refine ⟨fun _ => trivial, fun m hl hm => ⟨hm, ?_⟩⟩
  have hm := hm m rfl
  have hlo := hm.lo
  have hhi := hm.hi
  simp only [bad_false, int0, nilOf, decide_eq_true_eq, decide_eq_false_iff_not, Bool.not_eq_true', Bool.not_eq_false', Bool.not_true, Bool.not_false, Bool.false_eq_true, Bool.true_eq_false, eq_self, true_and, and_true, false_or, or_false, false_implies, true_implies, implies_true, Int.not_lt, Int.not_le, gt_iff_lt, ge_iff_le, ne_eq, times]
  refine ⟨fun i l => 0 ≤ i ∧ i ≤ m.n ∧ l = itr (fun b l => fwB m.n.toNat b l) i.toNat m.l, fun i _ => m.n.toNat - i.toNat, ⟨by omega, by omega, rfl⟩, fun b l hb => ⟨fun h => ?_, fun h => ?_⟩⟩
  · obtain ⟨b0, b1, hb⟩ := hb
    have tb : TimesOk m.n.toNat l := by rw [hb]; exact itr_pres (fun _ _ h => fwB_ok h) _ hm.times
    obtain ⟨eb, eb'⟩ := ret_n hhi b b0 h
    refine ⟨fun i l' => 0 ≤ i ∧ i ≤ m.n ∧ l' = itr (fun a l => fwA m.n.toNat b.toNat a l) i.toNat l, fun i _ => m.n.toNat - i.toNat, ⟨by omega, by omega, rfl⟩, fun a l' ha => ⟨fun h' => ?_, fun h' => ?_⟩⟩
    · obtain ⟨a0, a1, ha⟩ := ha
      have ta : TimesOk m.n.toNat l' := by rw [ha]; exact itr_pres (fun _ _ h => fwA_ok h) _ tb
      obtain ⟨ea, ea'⟩ := ret_n hhi a a0 h'
      refine ⟨fun i l'' => 0 ≤ i ∧ i ≤ m.n ∧ l'' = itr (fun d l => relax m.n.toNat b.toNat a.toNat d l) i.toNat l', fun i _ => m.n.toNat - i.toNat, ⟨by omega, by omega, rfl⟩, fun d l'' hd => ⟨fun h'' => ?_, fun h'' => ?_⟩⟩
      · obtain ⟨d0, d1, hd⟩ := hd
        have td : TimesOk m.n.toNat l'' := by rw [hd]; exact itr_pres (fun _ _ h => relax_ok h) _ ta
        obtain ⟨ed, ed'⟩ := ret_n hhi d d0 h''
        obtain ⟨e1, k1⟩ := ix_eq (n := m.n) (a := a) (d := d) hhi a0 h' d0 h''
        obtain ⟨e2, k2⟩ := ix_eq (n := m.n) (a := a) (d := b) hhi a0 h' b0 h
        obtain ⟨e3, k3⟩ := ix_eq (n := m.n) (a := b) (d := d) hhi b0 h d0 h''
        have hl := td.len
        have p2 := td.pos (a.toNat * m.n.toNat + b.toNat)
        have p3 := td.pos (b.toNat * m.n.toNat + d.toNat)
        have t2 := td.top (a.toNat * m.n.toNat + b.toNat)
        have t3 := td.top (b.toNat * m.n.toNat + d.toNat)
        rw [e1, e2, e3, Int.toNat_natCast, Int.toNat_natCast, Int.toNat_natCast, ed, wrap_id (n := _ + _) (by omega) (by omega)]
        refine ⟨⟨by omega, by omega⟩, by omega, ⟨by omega, by omega⟩, by omega, ⟨by omega, by omega⟩, by omega, ⟨by omega, by omega⟩, by omega, ⟨by omega, by omega, ?_⟩, by dsimp only; omega⟩
        rw [ed', itr, ← hd]
        rfl
      · dsimp only at hd ⊢
        have : d.toNat = m.n.toNat := by omega
        rw [this] at hd
        rw [ea, ea', itr, ← ha]
        exact ⟨⟨by omega, by omega, hd.2.2⟩, by omega⟩
    · dsimp only at ha ⊢
      have : a.toNat = m.n.toNat := by omega
      rw [this] at ha
      rw [eb, eb', itr, ← hb]
      exact ⟨⟨by omega, by omega, ha.2.2⟩, by omega⟩
  · dsimp only at hb
    have : b.toNat = m.n.toNat := by omega
    rw [this] at hb
    exact hb.2.2
theorem new_t : Told Try.prog 29 new_con := new_told csOk_nil new_ok
theorem rNew_t : Told Try.prog 37 rNew_con := rNew_told csOk_nil rNew_ok
theorem time_t : Told Try.prog 30 time_con := time_told csOk_nil time_ok
theorem places_t : Told Try.prog 39 places_con := places_told csOk_nil places_ok
theorem times_t : Told Try.prog 33 times_con := times_told csOk_nil times_ok
theorem closed_t : Told Try.prog 31 closed_con := closed_told (csOk_cons times_t csOk_nil) closed_ok
end Go.Eng

/- Maps closed, in plain words: the closed times are even, nothing greater, and the greatest such; so they are the only ones. No program in sight. -/
set_option linter.unusedVariables false
set_option linter.unusedSimpArgs false
namespace Go.Eng
open Go

def tmL (n : Nat) (l : List Int) (i j : Nat) : Int := l.getD (i * n + j) 0
theorem itr_inv {α : Type} {f : Nat → α → α} {x : α} (I : Nat → α → Prop) {n : Nat} (h0 : I 0 x) (hs : ∀ k y, k < n → I k y → I (k + 1) (f k y)) : I n (itr f n x) := by
  have : ∀ k, k ≤ n → I k (itr f k x) := by
    intro k
    induction k with
    | zero => exact fun _ => h0
    | succ k ih => exact fun h => hs k _ (by omega) (ih (by omega))
  exact this n (Nat.le_refl _)
theorem tm_relax {n b a d : Nat} {l : List Int} (hl : l.length = n * n) (ha : a < n) (hd : d < n) {i j : Nat} (hi : i < n) (hj : j < n) :
    tmL n (relax n b a d l) i j = if i = a ∧ j = d then min (tmL n l a d) (tmL n l a b + tmL n l b d) else tmL n l i j := by
  unfold relax tmL
  rw [getD_set (by rw [hl]; exact ix_lt ha hd)]
  by_cases h : i = a ∧ j = d
  · obtain ⟨rfl, rfl⟩ := h
    simp
  · rw [if_neg h, if_neg]
    intro e
    exact h (ix_inj hj hd e)
structure Diag (n : Nat) (l : List Int) : Prop where
  is : ∀ i, i < n → tmL n l i i = 0
def mn (n b : Nat) (l : List Int) (i j : Nat) : Int := min (tmL n l i j) (tmL n l i b + tmL n l b j)
theorem tm_pos {n : Nat} {l : List Int} (h : TimesOk n l) (i j : Nat) : 0 ≤ tmL n l i j := h.pos _
theorem mn_col {n b : Nat} {l : List Int} (hb : b < n) (h0 : Diag n l) (i : Nat) : mn n b l i b = tmL n l i b := by
  unfold mn; rw [h0.is b hb]; omega
theorem mn_row {n b : Nat} {l : List Int} (hb : b < n) (h0 : Diag n l) (j : Nat) : mn n b l b j = tmL n l b j := by
  unfold mn; rw [h0.is b hb]; omega
/-- A stage that is under way. -/
structure Part (n b : Nat) (l l' : List Int) (a d : Nat) : Prop where
  len : l'.length = n * n
  is : ∀ i j, i < n → j < n → tmL n l' i j = if i < a ∨ (i = a ∧ j < d) then mn n b l i j else tmL n l i j
theorem part_step {n b : Nat} {l l' : List Int} {a d : Nat} (hb : b < n) (h0 : Diag n l) (ha : a < n) (hd : d < n) (h : Part n b l l' a d) : Part n b l (relax n b a d l') a (d + 1) := by
  refine ⟨by unfold relax; rw [List.length_set]; exact h.len, fun i j hi hj => ?_⟩
  have e1 : tmL n l' a b = tmL n l a b := by
    rw [h.is a b ha hb]; split
    · exact mn_col hb h0 a
    · rfl
  have e2 : tmL n l' b d = tmL n l b d := by
    rw [h.is b d hb hd]; split
    · exact mn_row hb h0 d
    · rfl
  have e3 : tmL n l' a d = tmL n l a d := by
    rw [h.is a d ha hd, if_neg (by omega)]
  rw [tm_relax h.len ha hd hi hj, e1, e2, e3]
  by_cases hc : i = a ∧ j = d
  · obtain ⟨rfl, rfl⟩ := hc
    rw [if_pos ⟨rfl, rfl⟩, if_pos (by omega)]
    rfl
  · rw [if_neg hc, h.is i j hi hj]
    have : (i < a ∨ (i = a ∧ j < d)) ↔ (i < a ∨ (i = a ∧ j < d + 1)) := by omega
    simp only [this]
theorem part_row {n b : Nat} {l l' : List Int} {a : Nat} (h : Part n b l l' a n) : Part n b l l' (a + 1) 0 := by
  refine ⟨h.len, fun i j hi hj => ?_⟩
  rw [h.is i j hi hj]
  have : (i < a ∨ (i = a ∧ j < n)) ↔ (i < a + 1 ∨ (i = a + 1 ∧ j < 0)) := by omega
  simp only [this]
theorem fwB_part {n b : Nat} {l : List Int} (hl : l.length = n * n) (hb : b < n) (h0 : Diag n l) : Part n b l (fwB n b l) n 0 := by
  refine itr_inv (fun a l' => Part n b l l' a 0) ⟨hl, fun i j _ _ => by rw [if_neg (by omega)]⟩ fun a l' ha h => part_row ?_
  exact itr_inv (fun d l'' => Part n b l l'' a d) h fun d l'' hd h => part_step hb h0 ha hd h
theorem fwB_at {n b : Nat} {l : List Int} (hl : l.length = n * n) (hb : b < n) (h0 : Diag n l) {i j : Nat} (hi : i < n) (hj : j < n) : tmL n (fwB n b l) i j = mn n b l i j := by
  rw [(fwB_part hl hb h0).is i j hi hj, if_pos (by omega)]
/-- The closed times. -/
structure Clos (n : Nat) (l c : List Int) : Prop where
  ok : TimesOk n c
  diag : Diag n c
  le : ∀ i j, i < n → j < n → tmL n c i j ≤ tmL n l i j
  even : evenL n c
  most : ∀ e : List Int, evenL n e → (∀ i j, i < n → j < n → tmL n e i j ≤ tmL n l i j) → ∀ i j, i < n → j < n → tmL n e i j ≤ tmL n c i j
theorem fw_clos {n : Nat} {l : List Int} (h : TimesOk n l) (h0 : Diag n l) : Clos n l (fw n l) := by
  have key := itr_inv (f := fun b l => fwB n b l) (x := l) (n := n) (fun k c => TimesOk n c ∧ Diag n c ∧ (∀ i j, i < n → j < n → tmL n c i j ≤ tmL n l i j) ∧ (∀ b, b < k → ∀ i j, i < n → j < n → tmL n c i j ≤ tmL n c i b + tmL n c b j) ∧
    (∀ e : List Int, evenL n e → (∀ i j, i < n → j < n → tmL n e i j ≤ tmL n l i j) → ∀ i j, i < n → j < n → tmL n e i j ≤ tmL n c i j))
    ⟨h, h0, fun _ _ _ _ => Int.le_refl _, fun b hb => absurd hb (Nat.not_lt_zero _), fun e _ he => he⟩ fun k c hk hc => ?_
  · obtain ⟨k1, k2, k3, k4, k5⟩ := key
    exact ⟨k1, k2, k3, fun b a d hb ha hd => k4 b hb a d ha hd, k5⟩
  · obtain ⟨c1, c2, c3, c4, c5⟩ := hc
    have at' : ∀ i j, i < n → j < n → tmL n (fwB n k c) i j = min (tmL n c i j) (tmL n c i k + tmL n c k j) := fun i j hi hj => fwB_at c1.len hk c2 hi hj
    refine ⟨fwB_ok c1, ⟨fun i hi => ?_⟩, fun i j hi hj => ?_, fun b hb i j hi hj => ?_, fun e he hle i j hi hj => ?_⟩
    · rw [at' i i hi hi, c2.is i hi]
      have := tm_pos c1 i k
      have := tm_pos c1 k i
      omega
    · rw [at' i j hi hj]
      have := c3 i j hi hj
      omega
    · rw [at' i j hi hj, at' i b hi (by omega), at' b j (by omega) hj]
      by_cases hbk : b = k
      · subst hbk
        have := c2.is b hk
        have := tm_pos c1 i b
        have := tm_pos c1 b j
        omega
      · have hb' : b < k := by omega
        have t1 := c4 b hb' i j hi hj
        have t2 := c4 b hb' k j hk hj
        have t3 := c4 b hb' i k hi hk
        have t4 := tm_pos c1 k b
        have t5 := tm_pos c1 b k
        omega
    · have e1 := c5 e he hle i j hi hj
      have e2 := c5 e he hle i k hi hk
      have e3 := c5 e he hle k j hk hj
      have e4 : tmL n e i j ≤ tmL n e i k + tmL n e k j := he k i j hk hi hj
      rw [at' i j hi hj]
      omega
theorem tm_div {n x : Nat} (h : x < n * n) : x / n < n ∧ x % n < n ∧ x / n * n + x % n = x := by
  have hn : 0 < n := by
    cases n with
    | zero => simp at h
    | succ n => omega
  exact ⟨Nat.div_lt_of_lt_mul h, Nat.mod_lt _ hn, by rw [Nat.mul_comm]; exact Nat.div_add_mod x n⟩
theorem all_of_tm {n : Nat} {p : Nat → Prop} (h : ∀ i j, i < n → j < n → p (i * n + j)) (x : Nat) (hx : x < n * n) : p x := by
  obtain ⟨h1, h2, h3⟩ := tm_div hx
  have := h _ _ h1 h2
  rwa [h3] at this
theorem list_of_tm {n : Nat} {l c : List Int} (hl : l.length = n * n) (hc : c.length = n * n) (h : ∀ i j, i < n → j < n → tmL n l i j = tmL n c i j) : l = c := by
  refine List.ext_getElem (by omega) fun x h1 h2 => ?_
  have := all_of_tm (p := fun x => l.getD x 0 = c.getD x 0) h x (by omega)
  rwa [getD_of' h1, getD_of' h2] at this
where
  getD_of' {l : List Int} {i : Nat} (h : i < l.length) : l.getD i 0 = l[i] := by simp [h]
theorem Clos.uniq {n : Nat} {l c c' : List Int} (h : Clos n l c) (h' : Clos n l c') : c = c' :=
  list_of_tm h.ok.len h'.ok.len fun i j hi hj => Int.le_antisymm (h'.most c h.even h.le i j hi hj) (h.most c' h'.even h'.le i j hi hj)
theorem MapOk.diag' {m : MapD} (h : MapOk m) : Diag m.n.toNat m.l := ⟨fun i hi => h.diag i hi⟩
theorem closed_ok' {m : MapD} (h : MapOk m) : MapOk ⟨m.n, fw m.n.toNat m.l⟩ := by
  have c := fw_clos h.times h.diag'
  exact ⟨h.lo, h.hi, c.ok.len, c.ok.pos, c.ok.top, fun a ha => c.diag.is a ha⟩
theorem even_iff {m : MapD} : even (some m) = true ↔ evenL m.n.toNat m.l := by simp [even]
end Go.Eng

/- Books of memory: lists with room, compared. What is told of them. -/
set_option linter.unusedVariables false
set_option linter.unusedSimpArgs false
namespace Go.Eng
open Go Go.Proofs
noncomputable def sameI_con : Con := ⟨[.c (.a (.f .int)), .c (.a (.f .int))], fun xs ys => one [.c (.b (same xs ys))]⟩
def sameI_cs : Cons := []
def sameI_la : List (Nat × LA) := [(4, ⟨[0, 1], [.i 5]⟩)]
end Go.Eng

/- The conditions of functions, as print.. of the engine told them. -/
set_option linter.unusedVariables false
namespace Go.Eng
open Go Go.Proofs
def sameI_vc : Prop :=
  ∀ (x : List Int), LenOk x.length → ∀ (x_2 : List Int), LenOk x_2.length → ((!decide ((↑x.length : Int) = (↑x_2.length : Int))) = true → false = same x x_2) ∧ ((!decide ((↑x.length : Int) = (↑x_2.length : Int))) = false → ∃ (inv : Int →
  Prop), ∃ (μ : Int → Nat), (((0 : Int) = (0 : Int) ∧ x_2 = x_2 ∧ x = x) ∧ inv (0 : Int)) ∧ ∀ (x_5 : Int), inv x_5 → (decide (x_5 < (↑x.length : Int)) = true → ((0 : Int) ≤ x_5 ∧ x_5 < (↑x.length : Int)) ∧ x_5.toNat < x.length ∧ ((0 : Int) ≤
  x_5 ∧ x_5 < (↑x_2.length : Int)) ∧ x_5.toNat < x_2.length ∧ ((!decide (x.getD x_5.toNat (Int.ofNat (0 : Nat)) = x_2.getD x_5.toNat (Int.ofNat (0 : Nat)))) = true → false = same x x_2) ∧ ((!decide (x.getD x_5.toNat (Int.ofNat (0 : Nat)) =
  x_2.getD x_5.toNat (Int.ofNat (0 : Nat)))) = false → (wrap (x_5 + (1 : Int)) = wrap (x_5 + (1 : Int)) ∧ x_2 = x_2 ∧ x = x) ∧ inv (wrap (x_5 + (1 : Int))) ∧ μ (wrap (x_5 + (1 : Int))) < μ x_5)) ∧ (decide (x_5 < (↑x.length : Int)) = false →
  true = same x x_2))
theorem sameI_told (hc : CsOk Try.prog sameI_cs) (h : sameI_vc) : Told Try.prog 34 sameI_con := told (A := sameI_la) tabOk mixed hc Try.func34 (by kernel_rfl) (by kernel_rfl) h
end Go.Eng

/- Books of memory: it is so. -/
set_option linter.unusedVariables false
set_option linter.unusedSimpArgs false
namespace Go.Eng
open Go Go.Proofs
theorem elEqI (a b : Int) : decide (a = b) = true ↔ a = b := by
  simp
theorem sameI_ok : sameI_vc := fun x hx y _ => same_gen elEqI x hx y
theorem sameI_t : Told Try.prog 34 sameI_con := sameI_told csOk_nil sameI_ok
end Go.Eng

/- What the document's functions of maps tell; two maps side by side. -/
set_option linter.unusedVariables false
set_option linter.unusedSimpArgs false
namespace Go.Eng
open Go Go.Proofs
def rClosed_con : Con := ⟨[.p .map 75], fun m => ⟨some (MapOk m), [⟨none, [.p true 75 [.i m.n, .o .int 3 (fw m.n.toNat m.l)]]⟩]⟩⟩
def rClosed_cs : Cons := []
def rClosed_la : List (Nat × LA) := [(3, ⟨[0, 3], [.b 4, .car 3 1 .int]⟩), (6, ⟨[0, 3], [.b 4, .i 5, .car 3 1 .int]⟩), (9, ⟨[0, 3, 5], [.b 4, .i 6, .car 3 1 .int]⟩), (12, ⟨[0, 3, 5, 6], [.b 4, .i 7, .car 3 1 .int]⟩)]
def both_con : Con := ⟨[.c .i, .c (.a (.f .int))], fun n ts => ⟨none, [⟨some (newE n ts ≠ 0), [.c .np, .c .np, .c (.b true)]⟩, ⟨some (newE n ts = 0), [.p true 73 [.i n, .o .int 3 ts], .p true 75 [.i n, .o .int 3 ts], .c (.b true)]⟩]⟩⟩
def both_cs : Cons := [(29, new_con), (37, rNew_con)]
def both_la : List (Nat × LA) := []
noncomputable def alike_con : Con := ⟨[.q .map 73, .p .map 75], fun m w => ⟨some (MapOkO m), [⟨none, [.c (.b (decide (places m = w.n) && same (times m) w.l))]⟩]⟩⟩
noncomputable def alike_cs : Cons := [(39, places_con), (33, times_con), (34, sameI_con)]
def alike_la : List (Nat × LA) := []
end Go.Eng

/- The conditions of functions, as print.. of the engine told them. -/
set_option linter.unusedVariables false
namespace Go.Eng
open Go Go.Proofs
def rClosed_vc : Prop :=
  ∀ (x : MapD), LenOk x.l.length → MapOk x → (True ∧ ((0 : Nat) + x.l.length) * ((8 : Nat) * (1 : Nat)) ≤ (140737488355328 : Nat)) ∧ ∃ (inv : Bool → List Int → Prop), ∃ (μ : Bool → List Int → Nat), ((true = true ∧ (x.n = x.n ∧ x.n = x.n) ∧ []
  ++ x.l = [] ++ x.l ∧ x.l = x.l) ∧ inv true ([] ++ x.l)) ∧ ∀ (x_3 : Bool) (x_4 : List Int), inv x_3 x_4 → (x_3 = true → ∃ (inv_1 : Bool → Int → List Int → Prop), ∃ (μ_1 : Bool → Int → List Int → Nat), (((false = false ∧ (0 : Int) = (0 :
  Int)) ∧ (x.n = x.n ∧ x.n = x.n) ∧ x_4 = x_4 ∧ x.l = x.l) ∧ inv_1 false (0 : Int) x_4) ∧ ∀ (x_7 : Bool) (x_8 : Int) (x_9 : List Int), inv_1 x_7 x_8 x_9 → (decide (x_8 < x.n) = true → ∃ (inv : Bool → Int → List Int → Prop), ∃ (μ : Bool → Int
  → List Int → Nat), (((x_7 = x_7 ∧ x_8 = x_8 ∧ (0 : Int) = (0 : Int)) ∧ (x.n = x.n ∧ x.n = x.n) ∧ x_9 = x_9 ∧ x.l = x.l) ∧ inv x_7 (0 : Int) x_9) ∧ ∀ (x_12 : Bool) (x_13 : Int) (x_14 : List Int), inv x_12 x_13 x_14 → (decide (x_13 < x.n) =
  true → ∃ (inv_2 : Bool → Int → List Int → Prop), ∃ (μ_2 : Bool → Int → List Int → Nat), (((x_12 = x_12 ∧ x_8 = x_8 ∧ x_13 = x_13 ∧ (0 : Int) = (0 : Int)) ∧ (x.n = x.n ∧ x.n = x.n) ∧ x_14 = x_14 ∧ x.l = x.l) ∧ inv_2 x_12 (0 : Int) x_14) ∧ ∀
  (x_17 : Bool) (x_18 : Int) (x_19 : List Int), inv_2 x_17 x_18 x_19 → (decide (x_18 < x.n) = true → ((0 : Int) ≤ wrap (wrap (x_8 * x.n) + x_18) ∧ wrap (wrap (x_8 * x.n) + x_18) < (↑x_19.length : Int)) ∧ (wrap (wrap (x_8 * x.n) + x_18)).toNat
  < x_19.length ∧ ((0 : Int) ≤ wrap (wrap (x_18 * x.n) + x_13) ∧ wrap (wrap (x_18 * x.n) + x_13) < (↑x_19.length : Int)) ∧ (wrap (wrap (x_18 * x.n) + x_13)).toNat < x_19.length ∧ ((0 : Int) ≤ wrap (wrap (x_8 * x.n) + x_13) ∧ wrap (wrap (x_8 *
  x.n) + x_13) < (↑x_19.length : Int)) ∧ (wrap (wrap (x_8 * x.n) + x_13)).toNat < x_19.length ∧ (decide (wrap (x_19.getD (wrap (wrap (x_8 * x.n) + x_18)).toNat (Int.ofNat (0 : Nat)) + x_19.getD (wrap (wrap (x_18 * x.n) + x_13)).toNat
  (Int.ofNat (0 : Nat))) < x_19.getD (wrap (wrap (x_8 * x.n) + x_13)).toNat (Int.ofNat (0 : Nat))) = true → ((0 : Int) ≤ wrap (wrap (x_8 * x.n) + x_13) ∧ wrap (wrap (x_8 * x.n) + x_13) < (↑x_19.length : Int)) ∧ (wrap (wrap (x_8 * x.n) +
  x_13)).toNat < x_19.length ∧ ((true = true ∧ x_8 = x_8 ∧ x_13 = x_13 ∧ wrap (x_18 + (1 : Int)) = wrap (x_18 + (1 : Int))) ∧ (x.n = x.n ∧ x.n = x.n) ∧ x_19.set (wrap (wrap (x_8 * x.n) + x_13)).toNat (wrap (x_19.getD (wrap (wrap (x_8 * x.n) +
  x_18)).toNat (Int.ofNat (0 : Nat)) + x_19.getD (wrap (wrap (x_18 * x.n) + x_13)).toNat (Int.ofNat (0 : Nat)))) = x_19.set (wrap (wrap (x_8 * x.n) + x_13)).toNat (wrap (x_19.getD (wrap (wrap (x_8 * x.n) + x_18)).toNat (Int.ofNat (0 : Nat)) +
  x_19.getD (wrap (wrap (x_18 * x.n) + x_13)).toNat (Int.ofNat (0 : Nat)))) ∧ x.l = x.l) ∧ inv_2 true (wrap (x_18 + (1 : Int))) (x_19.set (wrap (wrap (x_8 * x.n) + x_13)).toNat (wrap (x_19.getD (wrap (wrap (x_8 * x.n) + x_18)).toNat
  (Int.ofNat (0 : Nat)) + x_19.getD (wrap (wrap (x_18 * x.n) + x_13)).toNat (Int.ofNat (0 : Nat))))) ∧ μ_2 true (wrap (x_18 + (1 : Int))) (x_19.set (wrap (wrap (x_8 * x.n) + x_13)).toNat (wrap (x_19.getD (wrap (wrap (x_8 * x.n) + x_18)).toNat
  (Int.ofNat (0 : Nat)) + x_19.getD (wrap (wrap (x_18 * x.n) + x_13)).toNat (Int.ofNat (0 : Nat))))) < μ_2 x_17 x_18 x_19) ∧ (decide (wrap (x_19.getD (wrap (wrap (x_8 * x.n) + x_18)).toNat (Int.ofNat (0 : Nat)) + x_19.getD (wrap (wrap (x_18 *
  x.n) + x_13)).toNat (Int.ofNat (0 : Nat))) < x_19.getD (wrap (wrap (x_8 * x.n) + x_13)).toNat (Int.ofNat (0 : Nat))) = false → ((x_17 = x_17 ∧ x_8 = x_8 ∧ x_13 = x_13 ∧ wrap (x_18 + (1 : Int)) = wrap (x_18 + (1 : Int))) ∧ (x.n = x.n ∧ x.n =
  x.n) ∧ x_19 = x_19 ∧ x.l = x.l) ∧ inv_2 x_17 (wrap (x_18 + (1 : Int))) x_19 ∧ μ_2 x_17 (wrap (x_18 + (1 : Int))) x_19 < μ_2 x_17 x_18 x_19)) ∧ (decide (x_18 < x.n) = false → ((x_17 = x_17 ∧ x_8 = x_8 ∧ wrap (x_13 + (1 : Int)) = wrap (x_13 +
  (1 : Int))) ∧ (x.n = x.n ∧ x.n = x.n) ∧ x_19 = x_19 ∧ x.l = x.l) ∧ inv x_17 (wrap (x_13 + (1 : Int))) x_19 ∧ μ x_17 (wrap (x_13 + (1 : Int))) x_19 < μ x_12 x_13 x_14)) ∧ (decide (x_13 < x.n) = false → ((x_12 = x_12 ∧ wrap (x_8 + (1 : Int))
  = wrap (x_8 + (1 : Int))) ∧ (x.n = x.n ∧ x.n = x.n) ∧ x_14 = x_14 ∧ x.l = x.l) ∧ inv_1 x_12 (wrap (x_8 + (1 : Int))) x_14 ∧ μ_1 x_12 (wrap (x_8 + (1 : Int))) x_14 < μ_1 x_7 x_8 x_9)) ∧ (decide (x_8 < x.n) = false → (x_7 = x_7 ∧ (x.n = x.n ∧
  x.n = x.n) ∧ x_9 = x_9 ∧ x.l = x.l) ∧ inv x_7 x_9 ∧ μ x_7 x_9 < μ x_3 x_4)) ∧ (x_3 = false → x.n = x.n ∧ x_4 = fw x.n.toNat x.l)
theorem rClosed_told (hc : CsOk Try.prog rClosed_cs) (h : rClosed_vc) : Told Try.prog 43 rClosed_con := told (A := rClosed_la) tabOk mixed hc Try.func43 (by kernel_rfl) (by kernel_rfl) h
def both_vc : Prop :=
  ∀ (x : Int) (x_1 : List Int), LenOk x_1.length → (newE x x_1 ≠ (0 : Int) → (newE x x_1 ≠ (0 : Int) → (decide (newE x x_1 = newE x x_1) = true → newE x x_1 ≠ (0 : Int) ∧ (true == true) = true ∨ Bad (nat_lit 18) (List SW) [SW.c SC.nlp, SW.c
  SC.nlp, SW.c (SC.b true)]) ∧ (decide (newE x x_1 = newE x x_1) = !true → newE x x_1 ≠ (0 : Int) ∧ false = true ∨ Bad (nat_lit 18) (List SW) [SW.c SC.nlp, SW.c SC.nlp, SW.c (SC.l false)])) ∧ (newE x x_1 = (0 : Int) → (decide (newE x x_1 = (0
  : Int)) = true → Bad (nat_lit 18) (List SW) [SW.c SC.nlp, SW.c (SC.p (nat_lit 1) (nat_lit 0)), SW.c (SC.b false)] ∨ Bad (nat_lit 18) (List SW) [SW.c SC.nlp, SW.c (SC.p (nat_lit 1) (nat_lit 0)), SW.c (SC.b false)]) ∧ (decide (newE x x_1 = (0
  : Int)) = !true → Bad (nat_lit 18) (List SW) [SW.c SC.nlp, SW.c (SC.p (nat_lit 1) (nat_lit 0)), SW.c (SC.l false)] ∨ Bad (nat_lit 18) (List SW) [SW.c SC.nlp, SW.c (SC.p (nat_lit 1) (nat_lit 0)), SW.c (SC.l false)]))) ∧ (newE x x_1 = (0 :
  Int) → (newE x x_1 ≠ (0 : Int) → (decide ((0 : Int) = newE x x_1) = true → Bad (nat_lit 18) (List SW) [SW.c (SC.p (nat_lit 1) (nat_lit 0)), SW.c SC.nlp, SW.c (SC.b false)] ∨ Bad (nat_lit 18) (List SW) [SW.c (SC.p (nat_lit 1) (nat_lit 0)),
  SW.c SC.nlp, SW.c (SC.b false)]) ∧ (decide ((0 : Int) = newE x x_1) = !true → Bad (nat_lit 18) (List SW) [SW.c (SC.p (nat_lit 1) (nat_lit 0)), SW.c SC.nlp, SW.c (SC.l false)] ∨ Bad (nat_lit 18) (List SW) [SW.c (SC.p (nat_lit 1) (nat_lit
  0)), SW.c SC.nlp, SW.c (SC.l false)])) ∧ (newE x x_1 = (0 : Int) → (decide ((0 : Int) = (0 : Int)) = true → Bad (nat_lit 18) (List SW) [SW.c (SC.p (nat_lit 1) (nat_lit 0)), SW.c (SC.p (nat_lit 3) (nat_lit 0)), SW.c (SC.b true)] ∨ newE x x_1
  = (0 : Int) ∧ (false == false) = true ∧ (x = x ∧ x = x) ∧ x_1 = x_1 ∧ x_1 = x_1) ∧ (decide ((0 : Int) = (0 : Int)) = !true → Bad (nat_lit 18) (List SW) [SW.c (SC.p (nat_lit 1) (nat_lit 0)), SW.c (SC.p (nat_lit 3) (nat_lit 0)), SW.c (SC.l
  false)] ∨ newE x x_1 = (0 : Int) ∧ false = true ∧ (x = x ∧ x = x) ∧ x_1 = x_1 ∧ x_1 = x_1)))
theorem both_told (hc : CsOk Try.prog both_cs) (h : both_vc) : Told Try.prog 42 both_con := told (A := both_la) tabOk mixed hc Try.func42 (by kernel_rfl) (by kernel_rfl) h
def alike_vc : Prop :=
  (∀ (x : MapD), LenOk x.l.length → (∀ (x : MapD), none = some x → MapOk x) → (decide (places none = x.n) = true → (∀ (x : MapD), none = some x → MapOk x) ∧ same (times none) x.l = (decide (places none = x.n) && same (times none) x.l)) ∧
  (decide (places none = x.n) = !true → false = (decide (places none = x.n) && same (times none) x.l))) ∧ ∀ (x : MapD), LenOk x.l.length → ∀ (x_2 : MapD), LenOk x_2.l.length → (∀ (x_4 : MapD), some x = some x_4 → MapOk x_4) → (decide (places
  (some x) = x_2.n) = true → (∀ (x_6 : MapD), some x = some x_6 → MapOk x_6) ∧ same (times (some x)) x_2.l = (decide (places (some x) = x_2.n) && same (times (some x)) x_2.l)) ∧ (decide (places (some x) = x_2.n) = !true → false = (decide
  (places (some x) = x_2.n) && same (times (some x)) x_2.l))
theorem alike_told (hc : CsOk Try.prog alike_cs) (h : alike_vc) : Told Try.prog 41 alike_con := told (A := alike_la) tabOk mixed hc Try.func41 (by kernel_rfl) (by kernel_rfl) h
end Go.Eng

/- What the document's functions of maps tell is so; evenness. -/
set_option linter.unusedVariables false
set_option linter.unusedSimpArgs false
namespace Go.Eng
open Go Go.Proofs

def tri (n : Nat) (l : List Int) (a k b : Nat) : Prop := tmL n l a b ≤ tmL n l a k + tmL n l k b
theorem even_of {m : MapD} (h : ∀ b a d, b < m.n.toNat → a < m.n.toNat → d < m.n.toNat → tri m.n.toNat m.l a b d) : even (some m) = true := even_iff.2 fun b a d hb ha hd => h b a d hb ha hd
theorem even_not {m : MapD} {a b d : Nat} (hb : b < m.n.toNat) (ha : a < m.n.toNat) (hd : d < m.n.toNat) (h : ¬ tri m.n.toNat m.l a b d) : even (some m) = false := by
  cases he : even (some m) with
  | false => rfl
  | true => exact absurd (even_iff.1 he b a d hb ha hd) h
theorem tri_wrap {n : Nat} {l : List Int} (h : TimesOk n l) (a k b : Nat) : wrap (l.getD (a * n + k) 0 + l.getD (k * n + b) 0) = tmL n l a k + tmL n l k b := by
  have h1 := h.pos (a * n + k)
  have h2 := h.pos (k * n + b)
  have h3 := h.top (a * n + k)
  have h4 := h.top (k * n + b)
  rw [wrap_id (by omega) (by omega)]
  rfl
theorem even_ok : even_vc := by
  unfold even_vc
  simp only [bad_false, int0, nilOf, decide_eq_true_eq, decide_eq_false_iff_not, Bool.not_eq_true', Bool.not_eq_false', Bool.not_true, Bool.not_false, Bool.false_eq_true, Bool.true_eq_false, eq_self, true_and, and_true, false_or, or_false, false_implies, true_implies, implies_true, Int.not_lt, Int.not_le, gt_iff_lt, ge_iff_le, ne_eq]
  refine ⟨fun _ => rfl, fun m hl hm => ?_⟩
  have hm := hm m rfl
  have hlo := hm.lo
  have hhi := hm.hi
  have ht := hm.times
  have hll := ht.len
  refine ⟨fun b => 0 ≤ b ∧ b ≤ m.n ∧ ∀ b' a d, b' < b.toNat → a < m.n.toNat → d < m.n.toNat → tri m.n.toNat m.l a b' d, fun b => m.n.toNat - b.toNat, ⟨by omega, by omega, fun b' a d h => absurd h (Nat.not_lt_zero _)⟩, fun b hb => ⟨fun h => ?_, fun h => ?_⟩⟩
  · obtain ⟨b0, b1, b2⟩ := hb
    obtain ⟨eb, eb'⟩ := ret_n hhi b b0 h
    refine ⟨fun a => 0 ≤ a ∧ a ≤ m.n ∧ ∀ a' d, a' < a.toNat → d < m.n.toNat → tri m.n.toNat m.l a' b.toNat d, fun a => m.n.toNat - a.toNat, ⟨by omega, by omega, fun a' d h => absurd h (Nat.not_lt_zero _)⟩, fun a ha => ⟨fun h' => ?_, fun h' => ?_⟩⟩
    · obtain ⟨a0, a1, a2⟩ := ha
      obtain ⟨ea, ea'⟩ := ret_n hhi a a0 h'
      refine ⟨fun d => 0 ≤ d ∧ d ≤ m.n ∧ ∀ d', d' < d.toNat → tri m.n.toNat m.l a.toNat b.toNat d', fun d => m.n.toNat - d.toNat, ⟨by omega, by omega, fun d' h => absurd h (Nat.not_lt_zero _)⟩, fun d hd => ⟨fun h'' => ?_, fun h'' => ?_⟩⟩
      · obtain ⟨d0, d1, d2⟩ := hd
        obtain ⟨ed, ed'⟩ := ret_n hhi d d0 h''
        obtain ⟨e1, k1⟩ := ix_eq (n := m.n) (a := a) (d := d) hhi a0 h' d0 h''
        obtain ⟨e2, k2⟩ := ix_eq (n := m.n) (a := a) (d := b) hhi a0 h' b0 h
        obtain ⟨e3, k3⟩ := ix_eq (n := m.n) (a := b) (d := d) hhi b0 h d0 h''
        rw [e1, e2, e3, Int.toNat_natCast, Int.toNat_natCast, Int.toNat_natCast, ed, tri_wrap ht]
        refine ⟨⟨by omega, by omega⟩, by omega, ⟨by omega, by omega⟩, by omega, ⟨by omega, by omega⟩, by omega, fun hlt => ?_, fun hge => ⟨⟨by omega, by omega, fun d' hd' => ?_⟩, by dsimp only; omega⟩⟩
        · exact (even_not (a := a.toNat) (b := b.toNat) (d := d.toNat) (by omega) (by omega) (by omega) (fun ht' => by unfold tri at ht'; exact absurd ht' (by show ¬ m.l.getD (a.toNat * m.n.toNat + d.toNat) 0 ≤ _; omega))).symm
        · rw [ed'] at hd'
          by_cases he : d' = d.toNat
          · subst he; exact hge
          · exact d2 d' (by omega)
      · obtain ⟨d0, d1, d2⟩ := hd
        rw [ea]
        refine ⟨⟨by omega, by omega, fun a' d' ha' hd' => ?_⟩, by dsimp only; omega⟩
        rw [ea'] at ha'
        by_cases he : a' = a.toNat
        · subst he; exact d2 d' (by omega)
        · exact a2 a' d' (by omega) hd'
    · obtain ⟨a0, a1, a2⟩ := ha
      rw [eb]
      refine ⟨⟨by omega, by omega, fun b' a' d' hb' ha' hd' => ?_⟩, by dsimp only; omega⟩
      rw [eb'] at hb'
      by_cases he : b' = b.toNat
      · subst he; exact a2 a' d' (by omega) hd'
      · exact b2 b' a' d' (by omega) ha' hd'
  · obtain ⟨b0, b1, b2⟩ := hb
    exact (even_of fun b' a' d' hb' ha' hd' => b2 b' a' d' (by omega) ha' hd').symm
theorem even_t : Told Try.prog 32 even_con := even_told csOk_nil even_ok
/-! ### Closed step by step -/
def isum : List Int → Int
  | [] => 0
  | x :: l => x + isum l
theorem isum_set : ∀ {l : List Int} {i : Nat} {v : Int}, i < l.length → isum (l.set i v) = isum l - l.getD i 0 + v
  | [], i, v, h => by simp at h
  | x :: l, 0, v, h => by simp [isum]; omega
  | x :: l, i + 1, v, h => by
    have := isum_set (l := l) (i := i) (v := v) (by simpa using h)
    simp [isum] at this ⊢
    omega
theorem isum_pos : ∀ {l : List Int}, (∀ i, 0 ≤ l.getD i 0) → 0 ≤ isum l
  | [], h => Int.le_refl _
  | x :: l, h => by
    have h1 := h 0
    have h2 := isum_pos (l := l) fun i => by have := h (i + 1); simpa using this
    simp at h1
    simp only [isum]
    omega
/-- On the way to the closed times. -/
structure Near (n : Nat) (m l : List Int) : Prop where
  ok : TimesOk n l
  diag : Diag n l
  le : ∀ i j, i < n → j < n → tmL n l i j ≤ tmL n m i j
  most : ∀ e : List Int, evenL n e → (∀ i j, i < n → j < n → tmL n e i j ≤ tmL n m i j) → ∀ i j, i < n → j < n → tmL n e i j ≤ tmL n l i j
theorem near_relax {n k a b : Nat} {m l : List Int} (hk : k < n) (ha : a < n) (hb : b < n) (h : Near n m l) : Near n m (relax n k a b l) := by
  have at' := fun {i j : Nat} (hi : i < n) (hj : j < n) => tm_relax (b := k) h.ok.len ha hb hi hj
  refine ⟨relax_ok h.ok, ⟨fun i hi => ?_⟩, fun i j hi hj => ?_, fun e he hle i j hi hj => ?_⟩
  · rw [at' hi hi]
    split
    · rename_i hh
      obtain ⟨rfl, rfl⟩ := hh
      have := h.diag.is i hi
      have := tm_pos h.ok i k
      have := tm_pos h.ok k i
      omega
    · exact h.diag.is i hi
  · rw [at' hi hj]
    have := h.le i j hi hj
    split
    · rename_i hh
      obtain ⟨rfl, rfl⟩ := hh
      omega
    · exact this
  · rw [at' hi hj]
    have h1 := h.most e he hle i j hi hj
    split
    · rename_i hh
      obtain ⟨rfl, rfl⟩ := hh
      have h2 := h.most e he hle i k hi hk
      have h3 := h.most e he hle k j hk hj
      have h4 : tmL n e i j ≤ tmL n e i k + tmL n e k j := he k i j hk hi hj
      omega
    · exact h1
theorem near_set {n k a b : Nat} {m l : List Int} (hk : k < n) (ha : a < n) (hb : b < n) (h : Near n m l) (hlt : tmL n l a k + tmL n l k b < tmL n l a b) :
    Near n m (l.set (a * n + b) (tmL n l a k + tmL n l k b)) ∧ isum (l.set (a * n + b) (tmL n l a k + tmL n l k b)) < isum l := by
  have hi : a * n + b < l.length := by rw [h.ok.len]; exact ix_lt ha hb
  have e : l.set (a * n + b) (tmL n l a k + tmL n l k b) = relax n k a b l := by
    unfold relax tmL at *
    congr 1
    omega
  refine ⟨by rw [e]; exact near_relax hk ha hb h, ?_⟩
  rw [isum_set hi]
  unfold tmL at *
  omega
theorem near_clos {n : Nat} {m l : List Int} (h : Near n m l) (he : evenL n l) : Clos n m l := ⟨h.ok, h.diag, h.le, he, h.most⟩
/-- What is known of a pass over the times 'l'. -/
structure Pass (n : Nat) (m l : List Int) (t : Bool) (l' : List Int) (done : Nat → Nat → Nat → Prop) : Prop where
  near : Near n m l'
  sum : t = true → isum l' < isum l
  stay : t = false → l' = l ∧ ∀ a k b, a < n → k < n → b < n → done a k b → tri n l a k b
theorem rClosed_ok : rClosed_vc := by
  unfold rClosed_vc
  simp only [bad_false, int0, nilOf, decide_eq_true_eq, decide_eq_false_iff_not, Bool.not_eq_true', Bool.not_eq_false', Bool.not_true, Bool.not_false, Bool.false_eq_true, Bool.true_eq_false, eq_self, true_and, and_true, false_or, or_false, false_implies, true_implies, implies_true, Int.not_lt, Int.not_le, gt_iff_lt, ge_iff_le, ne_eq]
  intro m hl hm
  have hlo := hm.lo
  have hhi := hm.hi
  have hlen := mapOk_len hm
  refine ⟨by omega, fun t l => Near m.n.toNat m.l l ∧ (t = false → evenL m.n.toNat l), fun t l => 2 * (isum l).toNat + (if t then 1 else 0), ⟨⟨hm.times, hm.diag', fun _ _ _ _ => Int.le_refl _, fun e _ he => he⟩, fun h => by cases h⟩, fun t l hI => ⟨fun ht => ?_, fun ht => ?_⟩⟩
  · obtain ⟨hN, _⟩ := hI
    have hsum0 := isum_pos hN.ok.pos
    refine ⟨fun t a l' => 0 ≤ a ∧ a ≤ m.n ∧ Pass m.n.toNat m.l l t l' (fun a' _ _ => a' < a.toNat), fun t a l' => m.n.toNat - a.toNat, ⟨by omega, by omega, hN, (fun h => by cases h), fun _ => ⟨rfl, fun _ _ _ _ _ _ h => absurd h (Nat.not_lt_zero _)⟩⟩, fun t1 a l1 hI1 => ⟨fun ha => ?_, fun ha => ?_⟩⟩
    · obtain ⟨a0, a1, hP1⟩ := hI1
      obtain ⟨ea, ea'⟩ := ret_n hhi a a0 ha
      refine ⟨fun t b l' => 0 ≤ b ∧ b ≤ m.n ∧ Pass m.n.toNat m.l l t l' (fun a' _ b' => a' < a.toNat ∨ (a' = a.toNat ∧ b' < b.toNat)), fun t b l' => m.n.toNat - b.toNat, ⟨by omega, by omega, hP1.near, hP1.sum, fun h => ⟨(hP1.stay h).1, fun a' k b' h1 h2 h3 h4 => (hP1.stay h).2 a' k b' h1 h2 h3 (by omega)⟩⟩, fun t2 b l2 hI2 => ⟨fun hb => ?_, fun hb => ?_⟩⟩
      · obtain ⟨b0, b1, hP2⟩ := hI2
        obtain ⟨eb, eb'⟩ := ret_n hhi b b0 hb
        refine ⟨fun t k l' => 0 ≤ k ∧ k ≤ m.n ∧ Pass m.n.toNat m.l l t l' (fun a' k' b' => a' < a.toNat ∨ (a' = a.toNat ∧ (b' < b.toNat ∨ (b' = b.toNat ∧ k' < k.toNat)))), fun t k l' => m.n.toNat - k.toNat, ⟨by omega, by omega, hP2.near, hP2.sum, fun h => ⟨(hP2.stay h).1, fun a' k b' h1 h2 h3 h4 => (hP2.stay h).2 a' k b' h1 h2 h3 (by omega)⟩⟩, fun t3 k l3 hI3 => ⟨fun hk => ?_, fun hk => ?_⟩⟩
        · obtain ⟨k0, k1, hP3⟩ := hI3
          obtain ⟨ek, ek'⟩ := ret_n hhi k k0 hk
          have hl3 := hP3.near.ok.len
          obtain ⟨e1, q1⟩ := ix_eq (n := m.n) (a := a) (d := k) hhi a0 ha k0 hk
          obtain ⟨e2, q2⟩ := ix_eq (n := m.n) (a := k) (d := b) hhi k0 hk b0 hb
          obtain ⟨e3, q3⟩ := ix_eq (n := m.n) (a := a) (d := b) hhi a0 ha b0 hb
          rw [e1, e2, e3, Int.toNat_natCast, Int.toNat_natCast, Int.toNat_natCast, ek, tri_wrap hP3.near.ok]
          refine ⟨⟨by omega, by omega⟩, by omega, ⟨by omega, by omega⟩, by omega, ⟨by omega, by omega⟩, by omega, fun hlt => ⟨⟨by omega, by omega⟩, by omega, ?_⟩, fun hge => ?_⟩
          · obtain ⟨s1, s2⟩ := near_set (k := k.toNat) (a := a.toNat) (b := b.toNat) (by omega) (by omega) (by omega) hP3.near hlt
            refine ⟨⟨by omega, by omega, s1, fun _ => ?_, fun h => by cases h⟩, by dsimp only; omega⟩
            cases ht3 : t3 with
            | true => have := hP3.sum ht3; omega
            | false => rw [(hP3.stay ht3).1] at s2 ⊢; exact s2
          · refine ⟨⟨by omega, by omega, hP3.near, hP3.sum, fun h => ⟨(hP3.stay h).1, fun a' k' b' h1 h2 h3 h4 => ?_⟩⟩, by dsimp only; omega⟩
            by_cases hc : a' = a.toNat ∧ b' = b.toNat ∧ k' = k.toNat
            · obtain ⟨rfl, rfl, rfl⟩ := hc
              have : tri m.n.toNat l3 a.toNat k.toNat b.toNat := hge
              rw [(hP3.stay h).1] at this
              exact this
            · refine (hP3.stay h).2 a' k' b' h1 h2 h3 ?_
              rw [ek'] at h4
              omega
        · obtain ⟨k0, k1, hP3⟩ := hI3
          rw [eb]
          refine ⟨⟨by omega, by omega, hP3.near, hP3.sum, fun h => ⟨(hP3.stay h).1, fun a' k' b' h1 h2 h3 h4 => ?_⟩⟩, by dsimp only; omega⟩
          refine (hP3.stay h).2 a' k' b' h1 h2 h3 ?_
          rw [eb'] at h4
          omega
      · obtain ⟨b0, b1, hP2⟩ := hI2
        rw [ea]
        refine ⟨⟨by omega, by omega, hP2.near, hP2.sum, fun h => ⟨(hP2.stay h).1, fun a' k' b' h1 h2 h3 h4 => ?_⟩⟩, by dsimp only; omega⟩
        refine (hP2.stay h).2 a' k' b' h1 h2 h3 ?_
        rw [ea'] at h4
        omega
    · obtain ⟨a0, a1, hP1⟩ := hI1
      subst ht
      refine ⟨⟨hP1.near, fun h => ?_⟩, ?_⟩
      · obtain ⟨s1, s2⟩ := hP1.stay h
        rw [s1]
        exact fun b' a' d' hb' ha' hd' => s2 a' b' d' ha' hb' hd' (by omega)
      · have hp := isum_pos hP1.near.ok.pos
        dsimp only
        cases ht1 : t1 with
        | true => have := hP1.sum ht1; simp only [if_true]; omega
        | false => rw [(hP1.stay ht1).1]; simp
  · exact (near_clos hI.1 (hI.2 ht)).uniq (fw_clos hm.times hm.diag')
theorem rClosed_t : Told Try.prog 43 rClosed_con := rClosed_told csOk_nil rClosed_ok
theorem both_ok : both_vc := by
  unfold both_vc
  simp only [bad_false, int0, nilOf, decide_eq_true_eq, decide_eq_false_iff_not, Bool.not_eq_true', Bool.not_eq_false', Bool.not_true, Bool.not_false, Bool.false_eq_true, Bool.true_eq_false, eq_self, true_and, and_true, false_or, or_false, false_implies, true_implies, implies_true, Int.not_lt, Int.not_le, gt_iff_lt, ge_iff_le, ne_eq]
  intro n ts _
  refine ⟨fun h => ⟨fun _ => ⟨⟨h, rfl⟩, fun h => absurd trivial h⟩, fun h' => absurd h' h⟩, fun h => ⟨fun h' => absurd h h', fun _ => ⟨⟨h, rfl⟩, fun h => absurd trivial h⟩⟩⟩
theorem both_t : Told Try.prog 42 both_con := both_told (csOk_cons new_t (csOk_cons rNew_t csOk_nil)) both_ok
theorem alike_ok : alike_vc := by
  unfold alike_vc
  simp only [bad_false, int0, nilOf, decide_eq_true_eq, decide_eq_false_iff_not, Bool.not_eq_true', Bool.not_eq_false', Bool.not_true, Bool.not_false, Bool.false_eq_true, Bool.true_eq_false, eq_self, true_and, and_true, false_or, or_false, false_implies, true_implies, implies_true, Int.not_lt, Int.not_le, gt_iff_lt, ge_iff_le, ne_eq]
  refine ⟨fun w _ hm => ⟨fun h => ⟨hm, by simp [h]⟩, fun h => by simp [h]⟩, fun m _ w _ hm => ⟨fun h => ⟨hm, by simp [h]⟩, fun h => by simp [h]⟩⟩
theorem alike_t : Told Try.prog 41 alike_con := alike_told (csOk_cons places_t (csOk_cons times_t (csOk_cons sameI_t csOk_nil))) alike_ok
end Go.Eng

/- A map of numbers that are known. -/
set_option linter.unusedVariables false
set_option linter.unusedSimpArgs false
namespace Go.Eng
open Go Go.Proofs
theorem newC_t : Told Try.prog 29 newC_con := by
  refine told_alt (ps := [.c .i, .c (.a (.f .int))]) new_t fun x _ => ⟨trivial, fun a ha h => ?_⟩
  obtain ⟨n, ts, _⟩ := x
  have ha : a = ⟨some (newE n ts ≠ 0), [.c .np, .c (.i (newE n ts))]⟩ ∨ a = ⟨some (newE n ts = 0), [.p true 73 [.i n, .o .int 3 ts], .c (.i 0)]⟩ := by
    have : a ∈ ([⟨some (newE n ts ≠ 0), [.c .np, .c (.i (newE n ts))]⟩, ⟨some (newE n ts = 0), [.p true 73 [.i n, .o .int 3 ts], .c (.i 0)]⟩] : List Alt) := ha
    simpa using this
  rcases ha with rfl | rfl
  · refine ⟨_, List.mem_singleton.2 rfl, ?_⟩
    have h : newE n ts ≠ 0 := h
    rw [decide_eq_false h]
    exact ⟨trivial, rfl⟩
  · refine ⟨_, List.mem_singleton.2 rfl, ?_⟩
    have h : newE n ts = 0 := h
    rw [decide_eq_true h]
    exact ⟨trivial, rfl⟩
theorem mapOkO_some {n : Int} {ts : List Int} (h : newE n ts = 0) : ∀ (x : MapD), some ⟨n, ts⟩ = some x → MapOk x := fun x hx => by
  injection hx with hx
  subst hx
  exact newE_ok.1 h
end Go.Eng

/- What the functions of windows tell: the program's, the document's own. -/
set_option linter.unusedVariables false
set_option linter.unusedSimpArgs false
namespace Go.Eng
open Go Go.Proofs
end Go.Eng

/- The conditions of functions, as print.. of the engine told them. -/
set_option linter.unusedVariables false
namespace Go.Eng
open Go Go.Proofs
end Go.Eng

/- What the functions of windows tell is so. -/
set_option linter.unusedVariables false
set_option linter.unusedSimpArgs false
namespace Go.Eng
open Go Go.Proofs
end Go.Eng

/- Orders and drivers, in plain words; what the functions that look at them tell. -/
set_option linter.unusedVariables false
set_option linter.unusedSimpArgs false
namespace Go.Eng
open Go Go.Proofs

def Order.drop (o : Order) : Site := ⟨o.dp, o.df, o.dt, o.ds⟩
def Site.win (s : Site) : Win := ⟨s.lo, s.hi⟩
structure SiteOk (m : MapD) (s : Site) : Prop where
  pl : 0 ≤ s.pl ∧ s.pl < m.n
  sv : 0 ≤ s.sv ∧ s.sv ≤ 1000000
structure AtOk (m : MapD) (at' left : Int) : Prop where
  pl : 0 ≤ at' ∧ at' < m.n
  left : 0 ≤ left ∧ left ≤ 1000000
/-! ### Worlds -/
end Go.Eng

/- The conditions of functions, as print.. of the engine told them. -/
set_option linter.unusedVariables false
namespace Go.Eng
open Go Go.Proofs
end Go.Eng

/- What the functions that look at orders and drivers tell is so. -/
set_option linter.unusedVariables false
set_option linter.unusedSimpArgs false
namespace Go.Eng
open Go Go.Proofs

structure OrderOk (m : MapD) (o : Order) : Prop where
  id : 1 ≤ o.id ∧ o.id ≤ 1000000
  size : 1 ≤ o.size ∧ o.size ≤ 1000
  pp : 0 ≤ o.pp ∧ o.pp < m.n
  dp : 0 ≤ o.dp ∧ o.dp < m.n
  pw : 0 ≤ o.pf ∧ o.pf ≤ o.pt ∧ o.pt ≤ 1000000
  dw : 0 ≤ o.df ∧ o.df ≤ o.dt ∧ o.dt ≤ 1000000
  ps : 0 ≤ o.ps ∧ o.ps ≤ 1000000
  ds : 0 ≤ o.ds ∧ o.ds ≤ 1000000
structure DriverOk (m : MapD) (d : Driver) : Prop where
  id : 1 ≤ d.id ∧ d.id ≤ 1000000
  room : 1 ≤ d.room ∧ d.room ≤ 1000
  home : 0 ≤ d.home ∧ d.home < m.n
  win : 0 ≤ d.lo ∧ d.lo ≤ d.hi ∧ d.hi ≤ 1000000
theorem OrderOk.drop {m : MapD} {o : Order} (h : OrderOk m o) : SiteOk m o.drop := ⟨h.dp, h.ds⟩
end Go.Eng

/- Numbers brought into bounds; a world's driver. -/
set_option linter.unusedVariables false
set_option linter.unusedSimpArgs false
namespace Go.Eng
open Go Go.Proofs
end Go.Eng

/- The conditions of functions, as print.. of the engine told them. -/
set_option linter.unusedVariables false
namespace Go.Eng
open Go Go.Proofs
end Go.Eng

/- Numbers brought into bounds: it is so. -/
set_option linter.unusedVariables false
set_option linter.unusedSimpArgs false
namespace Go.Eng
open Go Go.Proofs
end Go.Eng

/- The statements of maps: what is told of them. -/
set_option linter.unusedVariables false
set_option linter.unusedSimpArgs false
namespace Go.Eng
open Go Go.Proofs
def geoRuns_con : Con := yes_con
noncomputable def geoRuns_cs : Cons := [(29, newC_con), (30, time_con), (31, closed_con), (32, even_con)]
def geoRuns_la : List (Nat × LA) := []
def geoCloses_con : Con := ⟨[.c .i, .c (.a (.f .int))], fun n ts => law (pA (.c (.i n)) ∧ pA (.c (.a (.f .int) ts)))⟩
end Go.Eng

/- The conditions of functions, as print.. of the engine told them. -/
set_option linter.unusedVariables false
namespace Go.Eng
open Go Go.Proofs
def geoRuns_vc : Prop :=
  (∀ (x : MapD), some (MapD.mk (2 : Int) [(0 : Int), (5 : Int), (7 : Int), (0 : Int)]) = some x → MapOk x) ∧ (∀ (x : MapD), some (MapD.mk (2 : Int) [(0 : Int), (5 : Int), (7 : Int), (0 : Int)]) = some x → MapOk x) ∧ (∀ (x : MapD), some
  (MapD.mk (2 : Int) [(0 : Int), (5 : Int), (7 : Int), (0 : Int)]) = some x → MapOk x) ∧ ((!decide ((0 : Int) = (0 : Int))) = false → ((!decide ((mtime (some (MapD.mk (2 : Int) [(0 : Int), (5 : Int), (7 : Int), (0 : Int)])) (0 : Int) (1 :
  Int)).fst = (5 : Int))) = false → ((!(mtime (some (MapD.mk (2 : Int) [(0 : Int), (5 : Int), (7 : Int), (0 : Int)])) (0 : Int) (1 : Int)).snd) = false → ((!decide ((mtime (some (MapD.mk (2 : Int) [(0 : Int), (5 : Int), (7 : Int), (0 :
  Int)])) (1 : Int) (0 : Int)).fst = (7 : Int))) = false → ((!(mtime (some (MapD.mk (2 : Int) [(0 : Int), (5 : Int), (7 : Int), (0 : Int)])) (1 : Int) (0 : Int)).snd) = false → ((!decide ((mtime (some (MapD.mk (2 : Int) [(0 : Int), (5 : Int),
  (7 : Int), (0 : Int)])) (2 : Int) (0 : Int)).fst = (0 : Int))) = false → ((mtime (some (MapD.mk (2 : Int) [(0 : Int), (5 : Int), (7 : Int), (0 : Int)])) (2 : Int) (0 : Int)).snd = true → false = true) ∧ ((mtime (some (MapD.mk (2 : Int) [(0
  : Int), (5 : Int), (7 : Int), (0 : Int)])) (2 : Int) (0 : Int)).snd = false → (∀ (x : MapD), some (MapD.mk (3 : Int) [(0 : Int), (9 : Int), (2 : Int), (9 : Int), (0 : Int), (9 : Int), (9 : Int), (3 : Int), (0 : Int)]) = some x → MapOk x) ∧
  (∀ (x : MapD), some (MapD.mk (3 : Int) (fw (Int.toNat (3 : Int)) [(0 : Int), (9 : Int), (2 : Int), (9 : Int), (0 : Int), (9 : Int), (9 : Int), (3 : Int), (0 : Int)])) = some x → MapOk x) ∧ (decide (newE (0 : Int) [] = (1 : Int)) = true →
  (decide (newE (2 : Int) [(0 : Int)] = (2 : Int)) = true → (decide (newE (1 : Int) [(1 : Int)] = (4 : Int)) = true → (decide (newE (1 : Int) [(-1 : Int)] = (7 : Int)) = true → (decide (newE (13 : Int) [] = (1 : Int)) = true → (decide ((0 :
  Int) = (0 : Int)) = true → (decide ((mtime (some (MapD.mk (3 : Int) (fw (Int.toNat (3 : Int)) [(0 : Int), (9 : Int), (2 : Int), (9 : Int), (0 : Int), (9 : Int), (9 : Int), (3 : Int), (0 : Int)]))) (0 : Int) (1 : Int)).fst = (5 : Int)) =
  true → ((mtime (some (MapD.mk (3 : Int) (fw (Int.toNat (3 : Int)) [(0 : Int), (9 : Int), (2 : Int), (9 : Int), (0 : Int), (9 : Int), (9 : Int), (3 : Int), (0 : Int)]))) (0 : Int) (1 : Int)).snd = true → (∀ (x : MapD), some (MapD.mk (3 :
  Int) [(0 : Int), (9 : Int), (2 : Int), (9 : Int), (0 : Int), (9 : Int), (9 : Int), (3 : Int), (0 : Int)]) = some x → MapOk x) ∧ ((!even (some (MapD.mk (3 : Int) [(0 : Int), (9 : Int), (2 : Int), (9 : Int), (0 : Int), (9 : Int), (9 : Int),
  (3 : Int), (0 : Int)]))) = true → (∀ (x : MapD), some (MapD.mk (3 : Int) [(0 : Int), (9 : Int), (2 : Int), (9 : Int), (0 : Int), (9 : Int), (9 : Int), (3 : Int), (0 : Int)]) = some x → MapOk x) ∧ (∀ (x : MapD), some (MapD.mk (3 : Int) (fw
  (Int.toNat (3 : Int)) [(0 : Int), (9 : Int), (2 : Int), (9 : Int), (0 : Int), (9 : Int), (9 : Int), (3 : Int), (0 : Int)])) = some x → MapOk x) ∧ even (some (MapD.mk (3 : Int) (fw (Int.toNat (3 : Int)) [(0 : Int), (9 : Int), (2 : Int), (9 :
  Int), (0 : Int), (9 : Int), (9 : Int), (3 : Int), (0 : Int)]))) = true) ∧ ((!even (some (MapD.mk (3 : Int) [(0 : Int), (9 : Int), (2 : Int), (9 : Int), (0 : Int), (9 : Int), (9 : Int), (3 : Int), (0 : Int)]))) = !true → false = true)) ∧
  ((mtime (some (MapD.mk (3 : Int) (fw (Int.toNat (3 : Int)) [(0 : Int), (9 : Int), (2 : Int), (9 : Int), (0 : Int), (9 : Int), (9 : Int), (3 : Int), (0 : Int)]))) (0 : Int) (1 : Int)).snd = !true → false = true)) ∧ (decide ((mtime (some
  (MapD.mk (3 : Int) (fw (Int.toNat (3 : Int)) [(0 : Int), (9 : Int), (2 : Int), (9 : Int), (0 : Int), (9 : Int), (9 : Int), (3 : Int), (0 : Int)]))) (0 : Int) (1 : Int)).fst = (5 : Int)) = !true → false = true)) ∧ (decide ((0 : Int) = (0 :
  Int)) = !true → false = true)) ∧ (decide (newE (13 : Int) [] = (1 : Int)) = !true → false = true)) ∧ (decide (newE (1 : Int) [(-1 : Int)] = (7 : Int)) = !true → false = true)) ∧ (decide (newE (1 : Int) [(1 : Int)] = (4 : Int)) = !true →
  false = true)) ∧ (decide (newE (2 : Int) [(0 : Int)] = (2 : Int)) = !true → false = true)) ∧ (decide (newE (0 : Int) [] = (1 : Int)) = !true → false = true))) ∧ ((!decide ((mtime (some (MapD.mk (2 : Int) [(0 : Int), (5 : Int), (7 : Int), (0
  : Int)])) (2 : Int) (0 : Int)).fst = (0 : Int))) = !false → false = true)) ∧ ((!(mtime (some (MapD.mk (2 : Int) [(0 : Int), (5 : Int), (7 : Int), (0 : Int)])) (1 : Int) (0 : Int)).snd) = !false → false = true)) ∧ ((!decide ((mtime (some
  (MapD.mk (2 : Int) [(0 : Int), (5 : Int), (7 : Int), (0 : Int)])) (1 : Int) (0 : Int)).fst = (7 : Int))) = !false → false = true)) ∧ ((!(mtime (some (MapD.mk (2 : Int) [(0 : Int), (5 : Int), (7 : Int), (0 : Int)])) (0 : Int) (1 : Int)).snd)
  = !false → false = true)) ∧ ((!decide ((mtime (some (MapD.mk (2 : Int) [(0 : Int), (5 : Int), (7 : Int), (0 : Int)])) (0 : Int) (1 : Int)).fst = (5 : Int))) = !false → false = true)) ∧ ((!decide ((0 : Int) = (0 : Int))) = !false → false =
  true)
theorem geoRuns_told (hc : CsOk Try.prog geoRuns_cs) (h : geoRuns_vc) : Told Try.prog 9 geoRuns_con := told (A := geoRuns_la) tabOk mixed hc Try.func9 (by kernel_rfl) (by kernel_rfl) h
end Go.Eng

/- Chapter 4's runs. -/
set_option linter.unusedVariables false
set_option linter.unusedSimpArgs false
namespace Go.Eng
open Go Go.Proofs
theorem mapOk_of {n : Int} {l : List Int} (h : newE n l = 0) : MapOk ⟨n, l⟩ := newE_ok.1 h
theorem mapOkO_of {m : MapD} (h : MapOk m) : ∀ (x : MapD), some m = some x → MapOk x := fun x hx => by injection hx with hx; subst hx; exact h
theorem closed_even {m : MapD} (h : MapOk m) : even (some ⟨m.n, fw m.n.toNat m.l⟩) = true := even_iff.2 (fw_clos h.times h.diag').even
theorem geoRuns_ok : geoRuns_vc := by
  have m1 : ∀ (x : MapD), some ⟨2, [0, 5, 7, 0]⟩ = some x → MapOk x := mapOkO_some (by decide)
  have k2 : MapOk ⟨3, [0, 9, 2, 9, 0, 9, 9, 3, 0]⟩ := mapOk_of (by decide)
  have m2 : ∀ (x : MapD), some ⟨3, [0, 9, 2, 9, 0, 9, 9, 3, 0]⟩ = some x → MapOk x := mapOkO_of k2
  have m3 : ∀ (x : MapD), some ⟨3, fw (Int.toNat 3) [0, 9, 2, 9, 0, 9, 9, 3, 0]⟩ = some x → MapOk x := mapOkO_of (closed_ok' k2)
  unfold geoRuns_vc
  simp only [bad_false, int0, nilOf, decide_eq_true_eq, decide_eq_false_iff_not, Bool.not_eq_true', Bool.not_eq_false', Bool.not_true, Bool.not_false, Bool.false_eq_true, Bool.true_eq_false, eq_self, true_and, and_true, false_or, or_false, false_implies, true_implies, implies_true, Int.not_lt, Int.not_le, gt_iff_lt, ge_iff_le, ne_eq, eq_true m1, eq_true m2, eq_true m3]
  have t1 : mtime (some ⟨2, [0, 5, 7, 0]⟩) 0 1 = (5, true) := by kernel_rfl
  have t2 : mtime (some ⟨2, [0, 5, 7, 0]⟩) 1 0 = (7, true) := by kernel_rfl
  have t3 : mtime (some ⟨2, [0, 5, 7, 0]⟩) 2 0 = (0, false) := by kernel_rfl
  have t4 : mtime (some ⟨3, fw (Int.toNat 3) [0, 9, 2, 9, 0, 9, 9, 3, 0]⟩) 0 1 = (5, true) := by kernel_rfl
  have n1 : newE 0 [] = 1 := by kernel_rfl
  have n2 : newE 2 [0] = 2 := by kernel_rfl
  have n3 : newE 1 [1] = 4 := by kernel_rfl
  have n4 : newE 1 [-1] = 7 := by kernel_rfl
  have n5 : newE 13 [] = 1 := by kernel_rfl
  have e1 : even (some ⟨3, [0, 9, 2, 9, 0, 9, 9, 3, 0]⟩) = false := by
    refine even_not (a := 0) (b := 2) (d := 1) (by decide) (by decide) (by decide) ?_
    unfold tri
    decide
  have e2 : even (some ⟨3, fw (Int.toNat 3) [0, 9, 2, 9, 0, 9, 9, 3, 0]⟩) = true := closed_even k2
  simp only [t1, t2, t3, t4, n1, n2, n3, n4, n5, e1, e2]
  simp
theorem geoRuns_t : Told Try.prog 9 yes_con := geoRuns_told (csOk_cons newC_t (csOk_cons time_t (csOk_cons closed_t (csOk_cons even_t csOk_nil)))) geoRuns_ok
end Go.Eng

/- Lists of times are new memory each time: what is told of the statement. -/
set_option linter.unusedVariables false
set_option linter.unusedSimpArgs false
namespace Go.Eng
open Go Go.Proofs
def ints_con : Con := ⟨[.c .i, .c .i], fun i j => one [.c (.i (wrap (-1000 - i)))]⟩
def ints_cs : Cons := []
def ints_la : List (Nat × LA) := []
def geoKept_con : Con := geoCloses_con
noncomputable def geoKept_cs : Cons := app [(47, ints_con), (34, sameI_con)] [(42, both_con), (9, yes_con), (33, times_con), (31, closed_con), (41, alike_con), (43, rClosed_con)]
def geoKept_la : List (Nat × LA) := [(1000006, ⟨[4, 5, 6, 8], [.crm 8 0 48, .crm 8 1 48, .ci 8 2, .cb 8 3]⟩), (1000007, ⟨[4, 5, 6, 8], [.crm 8 0 48, .crm 8 1 48, .ci 8 2, .cb 8 3]⟩), (1000009, ⟨[4, 5, 6, 8, 9], [.crm 8 0 48, .crm 8 1 48, .ci 8 2, .cb 8 3]⟩), (1000010, ⟨[4, 5, 6, 8, 9], [.crm 8 0 48, .crm 8 1 48, .ci 8 2, .cb 8 3]⟩)]
def keepB_la : List (Nat × LA) := [(2000000, ⟨[], [.pc 1]⟩), (2000002, ⟨[], [.rm 0 1]⟩), (3000002, ⟨[], [.hr 0 0]⟩), (3, ⟨[0], [.crm 0 0 48, .crm 0 1 48, .ci 0 2, .cb 0 3]⟩), (2000004, ⟨[], [.tr 0 0 (.const (.int .i64 0)), .tr 0 1 (.const (.int .i64 0))]⟩), (2000006, ⟨[], [.hr 0 0, .hr 0 1]⟩)]
def staysB_la : List (Nat × LA) := [(2, ⟨[0], [.i 3, .crm 0 0 48, .crm 0 1 48, .cb 0 3]⟩), (2000004, ⟨[], [.tr 0 0 (.tmp 3), .tr 0 1 (.tmp 3)]⟩), (2000003, ⟨[], [.hr 0 0, .hr 0 1]⟩)]
def apartB_la : List (Nat × LA) := [(4, ⟨[0, 1], [.i 5, .crm 0 0 48]⟩), (2000006, ⟨[], [.tr 0 0 (.tmp 5)]⟩), (8, ⟨[0, 1, 5, 6], [.i 7, .pr 6 .int]⟩), (2000005, ⟨[], [.hr 0 0]⟩),
  (12, ⟨[0, 1], [.i 8, .crm 0 0 48]⟩), (2000014, ⟨[], [.tr 0 0 (.tmp 8)]⟩), (16, ⟨[0, 1, 8, 9], [.i 10]⟩), (2000013, ⟨[], [.hr 0 0]⟩)]
noncomputable def geoKept_in : Inls := [(45, ⟨Try.f45, keepB_la⟩), (46, ⟨Try.f46, apartB_la⟩), (49, ⟨Try.f49, staysB_la⟩)]
end Go.Eng

/- The conditions of functions, as print.. of the engine told them. -/
set_option linter.unusedVariables false
namespace Go.Eng
open Go Go.Proofs
def ints_vc : Prop :=
  ∀ (x x_1 : Int), wrap ((-1000 : Int) - x) = wrap ((-1000 : Int) - x)
theorem ints_told (hc : CsOk Try.prog ints_cs) (h : ints_vc) : Told Try.prog 47 ints_con := told (A := ints_la) tabOk mixed hc Try.func47 (by kernel_rfl) (by kernel_rfl) h
def geoKept_vc : Prop :=
  ∀ (x : Int) (x_1 : List Int), LenOk x_1.length → Given (pA (AV.c (AC.i x)) ∧ pA (AV.c (AC.a (K.f FK.int) x_1))) → (newE x x_1 ≠ (0 : Int) → ((!true) = false → (true = true → true = true) ∧ (true = !true → false = true)) ∧ ((!true) = !false
  → (true = true → true = true) ∧ (true = !true → false = true))) ∧ (newE x x_1 = (0 : Int) → ((!true) = false → ∃ (inv : List RoomR → List RoomR → Int → Bool → Prop), ((∀ (x_6 : MapD), some (MapD.mk x x_1) = some x_6 → MapOk x_6) ∧ ∀ (c :
  Nat), (times (some (MapD.mk x x_1))).length ≤ c → LenOk c → ((times (some (MapD.mk x x_1))).length ≤ (times (some (MapD.mk x x_1))).length ∧ (times (some (MapD.mk x x_1))).length * ((8 : Nat) * (1 : Nat)) ≤ (140737488355328 : Nat)) ∧
  [List.take (times (some (MapD.mk x x_1))).length (times (some (MapD.mk x x_1)))].length * (K.rows FK.int).byt ≤ (140737488355328 : Nat) ∧ ∃ (inv_1 : List RoomR → List RoomR → Int → Bool → Prop), ∃ (μ : List RoomR → List RoomR → Int → Bool →
  Nat), (((x = x ∧ x = x ∧ wrap (wrap ((0 : Int) + (↑c : Int)) + (1 : Int)) = wrap (wrap ((0 : Int) + (↑c : Int)) + (1 : Int)) ∧ false = false) ∧ List.map (fun (y : List Int) => RoomR.mk y y.length false) [List.take (times (some (MapD.mk x
  x_1))).length (times (some (MapD.mk x x_1)))] = List.map (fun (y : List Int) => RoomR.mk y y.length false) [List.take (times (some (MapD.mk x x_1))).length (times (some (MapD.mk x x_1)))] ∧ [RoomR.mk [] (times (some (MapD.mk x x_1))).length
  false].set (0 : Nat) (RoomR.mk (times (some (MapD.mk x x_1))) (times (some (MapD.mk x x_1))).length (decide ((times (some (MapD.mk x x_1))).length = c))) = [RoomR.mk [] (times (some (MapD.mk x x_1))).length false].set (0 : Nat) (RoomR.mk
  (times (some (MapD.mk x x_1))) (times (some (MapD.mk x x_1))).length (decide ((times (some (MapD.mk x x_1))).length = c))) ∧ x_1 = x_1 ∧ x_1 = x_1 ∧ x_1 = x_1) ∧ inv_1 ([RoomR.mk [] (times (some (MapD.mk x x_1))).length false].set (0 : Nat)
  (RoomR.mk (times (some (MapD.mk x x_1))) (times (some (MapD.mk x x_1))).length (decide ((times (some (MapD.mk x x_1))).length = c)))) (List.map (fun (y : List Int) => RoomR.mk y y.length false) [List.take (times (some (MapD.mk x
  x_1))).length (times (some (MapD.mk x x_1)))]) (wrap (wrap ((0 : Int) + (↑c : Int)) + (1 : Int))) false) ∧ ∀ (x_8 x_9 : List RoomR) (x_10 : Int) (x_11 : Bool), inv_1 x_8 x_9 x_10 x_11 → (decide ((↑x_8.length : Int) > (1 : Int)) = true →
  (decide (x_10 > (1000000 : Int)) = false → (decide ((↑x_8.length : Int) > (4000 : Int)) = true → ((0 : Int) ≤ (0 : Int) ∧ (0 : Int) < (↑x_8.length : Int)) ∧ ∀ (c : Nat), (x_8.getD (Int.toNat (0 : Int)) (RoomR.mk [] (0 : Nat) false)).m ≤ c →
  (x_8.getD (Int.toNat (0 : Int)) (RoomR.mk [] (0 : Nat) false)).ys.length ≤ c → LenOk c → ((x_8.getD (Int.toNat (0 : Int)) (RoomR.mk [] (0 : Nat) false)).full = true → (x_8.getD (Int.toNat (0 : Int)) (RoomR.mk [] (0 : Nat) false)).ys.length
  = c) → ((0 : Int) ≤ (0 : Int) ∧ (0 : Int) < (↑x_9.length : Int)) ∧ ∀ (c_1 : Nat), (x_9.getD (Int.toNat (0 : Int)) (RoomR.mk [] (0 : Nat) false)).m ≤ c_1 → (x_9.getD (Int.toNat (0 : Int)) (RoomR.mk [] (0 : Nat) false)).ys.length ≤ c_1 →
  LenOk c_1 → ((x_9.getD (Int.toNat (0 : Int)) (RoomR.mk [] (0 : Nat) false)).full = true → (x_9.getD (Int.toNat (0 : Int)) (RoomR.mk [] (0 : Nat) false)).ys.length = c_1) → (x_11 = false → ((0 : Int) ≤ (0 : Int) ∧ (0 : Int) < (↑x_8.length :
  Int)) ∧ Int.toNat (0 : Int) = Int.toNat (0 : Int) ∧ ((0 : Int) ≤ (0 : Int) ∧ (0 : Int) < (↑x_9.length : Int)) ∧ Int.toNat (0 : Int) = Int.toNat (0 : Int) ∧ ((x_8.getD (Int.toNat (0 : Int)) (RoomR.mk [] (0 : Nat) false)).m ≤ (x_8.getD
  (Int.toNat (0 : Int)) (RoomR.mk [] (0 : Nat) false)).ys.length ∧ (x_9.getD (Int.toNat (0 : Int)) (RoomR.mk [] (0 : Nat) false)).m ≤ (x_9.getD (Int.toNat (0 : Int)) (RoomR.mk [] (0 : Nat) false)).ys.length) ∧ ((0 : Int) ≤ (0 : Int) ∧ (0 :
  Int) < (↑x_8.length : Int)) ∧ Int.toNat (0 : Int) = Int.toNat (0 : Int) ∧ ((0 : Int) ≤ (1 : Int) ∧ (1 : Int) < (↑(x_8.set (Int.toNat (0 : Int)) (RoomR.mk (x_8.getD (Int.toNat (0 : Int)) (RoomR.mk [] (0 : Nat) false)).ys (x_8.getD (Int.toNat
  (0 : Int)) (RoomR.mk [] (0 : Nat) false)).m (decide ((x_8.getD (Int.toNat (0 : Int)) (RoomR.mk [] (0 : Nat) false)).ys.length = c)))).length : Int)) ∧ ((0 : Int) ≤ (1 : Int) ∧ (1 : Int) < (↑(x_9.set (Int.toNat (0 : Int)) (RoomR.mk (x_9.getD
  (Int.toNat (0 : Int)) (RoomR.mk [] (0 : Nat) false)).ys (x_9.getD (Int.toNat (0 : Int)) (RoomR.mk [] (0 : Nat) false)).m (decide ((x_9.getD (Int.toNat (0 : Int)) (RoomR.mk [] (0 : Nat) false)).ys.length = c_1)))).length : Int)) ∧ ((x = x ∧
  x = x ∧ wrap (wrap (x_10 - (↑c : Int)) - (1 : Int)) = wrap (wrap (x_10 - (↑c : Int)) - (1 : Int)) ∧ (!same (List.take (x_8.getD (Int.toNat (0 : Int)) (RoomR.mk [] (0 : Nat) false)).m (x_8.getD (Int.toNat (0 : Int)) (RoomR.mk [] (0 : Nat)
  false)).ys) (List.take (x_9.getD (Int.toNat (0 : Int)) (RoomR.mk [] (0 : Nat) false)).m (x_9.getD (Int.toNat (0 : Int)) (RoomR.mk [] (0 : Nat) false)).ys)) = !same (List.take (x_8.getD (Int.toNat (0 : Int)) (RoomR.mk [] (0 : Nat) false)).m
  (x_8.getD (Int.toNat (0 : Int)) (RoomR.mk [] (0 : Nat) false)).ys) (List.take (x_9.getD (Int.toNat (0 : Int)) (RoomR.mk [] (0 : Nat) false)).m (x_9.getD (Int.toNat (0 : Int)) (RoomR.mk [] (0 : Nat) false)).ys)) ∧ List.drop (Int.toNat (1 :
  Int)) (x_9.set (Int.toNat (0 : Int)) (RoomR.mk (x_9.getD (Int.toNat (0 : Int)) (RoomR.mk [] (0 : Nat) false)).ys (x_9.getD (Int.toNat (0 : Int)) (RoomR.mk [] (0 : Nat) false)).m (decide ((x_9.getD (Int.toNat (0 : Int)) (RoomR.mk [] (0 :
  Nat) false)).ys.length = c_1)))) = List.drop (Int.toNat (1 : Int)) (x_9.set (Int.toNat (0 : Int)) (RoomR.mk (x_9.getD (Int.toNat (0 : Int)) (RoomR.mk [] (0 : Nat) false)).ys (x_9.getD (Int.toNat (0 : Int)) (RoomR.mk [] (0 : Nat) false)).m
  (decide ((x_9.getD (Int.toNat (0 : Int)) (RoomR.mk [] (0 : Nat) false)).ys.length = c_1)))) ∧ List.drop (Int.toNat (1 : Int)) (x_8.set (Int.toNat (0 : Int)) (RoomR.mk (x_8.getD (Int.toNat (0 : Int)) (RoomR.mk [] (0 : Nat) false)).ys
  (x_8.getD (Int.toNat (0 : Int)) (RoomR.mk [] (0 : Nat) false)).m (decide ((x_8.getD (Int.toNat (0 : Int)) (RoomR.mk [] (0 : Nat) false)).ys.length = c)))) = List.drop (Int.toNat (1 : Int)) (x_8.set (Int.toNat (0 : Int)) (RoomR.mk (x_8.getD
  (Int.toNat (0 : Int)) (RoomR.mk [] (0 : Nat) false)).ys (x_8.getD (Int.toNat (0 : Int)) (RoomR.mk [] (0 : Nat) false)).m (decide ((x_8.getD (Int.toNat (0 : Int)) (RoomR.mk [] (0 : Nat) false)).ys.length = c)))) ∧ x_1 = x_1 ∧ x_1 = x_1 ∧ x_1
  = x_1) ∧ inv_1 (List.drop (Int.toNat (1 : Int)) (x_8.set (Int.toNat (0 : Int)) (RoomR.mk (x_8.getD (Int.toNat (0 : Int)) (RoomR.mk [] (0 : Nat) false)).ys (x_8.getD (Int.toNat (0 : Int)) (RoomR.mk [] (0 : Nat) false)).m (decide ((x_8.getD
  (Int.toNat (0 : Int)) (RoomR.mk [] (0 : Nat) false)).ys.length = c))))) (List.drop (Int.toNat (1 : Int)) (x_9.set (Int.toNat (0 : Int)) (RoomR.mk (x_9.getD (Int.toNat (0 : Int)) (RoomR.mk [] (0 : Nat) false)).ys (x_9.getD (Int.toNat (0 :
  Int)) (RoomR.mk [] (0 : Nat) false)).m (decide ((x_9.getD (Int.toNat (0 : Int)) (RoomR.mk [] (0 : Nat) false)).ys.length = c_1))))) (wrap (wrap (x_10 - (↑c : Int)) - (1 : Int))) !same (List.take (x_8.getD (Int.toNat (0 : Int)) (RoomR.mk []
  (0 : Nat) false)).m (x_8.getD (Int.toNat (0 : Int)) (RoomR.mk [] (0 : Nat) false)).ys) (List.take (x_9.getD (Int.toNat (0 : Int)) (RoomR.mk [] (0 : Nat) false)).m (x_9.getD (Int.toNat (0 : Int)) (RoomR.mk [] (0 : Nat) false)).ys) ∧ (μ
  (List.drop (Int.toNat (1 : Int)) (x_8.set (Int.toNat (0 : Int)) (RoomR.mk (x_8.getD (Int.toNat (0 : Int)) (RoomR.mk [] (0 : Nat) false)).ys (x_8.getD (Int.toNat (0 : Int)) (RoomR.mk [] (0 : Nat) false)).m (decide ((x_8.getD (Int.toNat (0 :
  Int)) (RoomR.mk [] (0 : Nat) false)).ys.length = c))))) (List.drop (Int.toNat (1 : Int)) (x_9.set (Int.toNat (0 : Int)) (RoomR.mk (x_9.getD (Int.toNat (0 : Int)) (RoomR.mk [] (0 : Nat) false)).ys (x_9.getD (Int.toNat (0 : Int)) (RoomR.mk []
  (0 : Nat) false)).m (decide ((x_9.getD (Int.toNat (0 : Int)) (RoomR.mk [] (0 : Nat) false)).ys.length = c_1))))) (wrap (wrap (x_10 - (↑c : Int)) - (1 : Int))) !same (List.take (x_8.getD (Int.toNat (0 : Int)) (RoomR.mk [] (0 : Nat) false)).m
  (x_8.getD (Int.toNat (0 : Int)) (RoomR.mk [] (0 : Nat) false)).ys) (List.take (x_9.getD (Int.toNat (0 : Int)) (RoomR.mk [] (0 : Nat) false)).m (x_9.getD (Int.toNat (0 : Int)) (RoomR.mk [] (0 : Nat) false)).ys)) < μ x_8 x_9 x_10 x_11) ∧
  (x_11 = !false → ((0 : Int) ≤ (0 : Int) ∧ (0 : Int) < (↑x_8.length : Int)) ∧ Int.toNat (0 : Int) = Int.toNat (0 : Int) ∧ ((0 : Int) ≤ (1 : Int) ∧ (1 : Int) < (↑(x_8.set (Int.toNat (0 : Int)) (RoomR.mk (x_8.getD (Int.toNat (0 : Int))
  (RoomR.mk [] (0 : Nat) false)).ys (x_8.getD (Int.toNat (0 : Int)) (RoomR.mk [] (0 : Nat) false)).m (decide ((x_8.getD (Int.toNat (0 : Int)) (RoomR.mk [] (0 : Nat) false)).ys.length = c)))).length : Int)) ∧ ((0 : Int) ≤ (1 : Int) ∧ (1 : Int)
  < (↑(x_9.set (Int.toNat (0 : Int)) (RoomR.mk (x_9.getD (Int.toNat (0 : Int)) (RoomR.mk [] (0 : Nat) false)).ys (x_9.getD (Int.toNat (0 : Int)) (RoomR.mk [] (0 : Nat) false)).m (decide ((x_9.getD (Int.toNat (0 : Int)) (RoomR.mk [] (0 : Nat)
  false)).ys.length = c_1)))).length : Int)) ∧ ((x = x ∧ x = x ∧ wrap (wrap (x_10 - (↑c : Int)) - (1 : Int)) = wrap (wrap (x_10 - (↑c : Int)) - (1 : Int)) ∧ true = true) ∧ List.drop (Int.toNat (1 : Int)) (x_9.set (Int.toNat (0 : Int))
  (RoomR.mk (x_9.getD (Int.toNat (0 : Int)) (RoomR.mk [] (0 : Nat) false)).ys (x_9.getD (Int.toNat (0 : Int)) (RoomR.mk [] (0 : Nat) false)).m (decide ((x_9.getD (Int.toNat (0 : Int)) (RoomR.mk [] (0 : Nat) false)).ys.length = c_1)))) =
  List.drop (Int.toNat (1 : Int)) (x_9.set (Int.toNat (0 : Int)) (RoomR.mk (x_9.getD (Int.toNat (0 : Int)) (RoomR.mk [] (0 : Nat) false)).ys (x_9.getD (Int.toNat (0 : Int)) (RoomR.mk [] (0 : Nat) false)).m (decide ((x_9.getD (Int.toNat (0 :
  Int)) (RoomR.mk [] (0 : Nat) false)).ys.length = c_1)))) ∧ List.drop (Int.toNat (1 : Int)) (x_8.set (Int.toNat (0 : Int)) (RoomR.mk (x_8.getD (Int.toNat (0 : Int)) (RoomR.mk [] (0 : Nat) false)).ys (x_8.getD (Int.toNat (0 : Int)) (RoomR.mk
  [] (0 : Nat) false)).m (decide ((x_8.getD (Int.toNat (0 : Int)) (RoomR.mk [] (0 : Nat) false)).ys.length = c)))) = List.drop (Int.toNat (1 : Int)) (x_8.set (Int.toNat (0 : Int)) (RoomR.mk (x_8.getD (Int.toNat (0 : Int)) (RoomR.mk [] (0 :
  Nat) false)).ys (x_8.getD (Int.toNat (0 : Int)) (RoomR.mk [] (0 : Nat) false)).m (decide ((x_8.getD (Int.toNat (0 : Int)) (RoomR.mk [] (0 : Nat) false)).ys.length = c)))) ∧ x_1 = x_1 ∧ x_1 = x_1 ∧ x_1 = x_1) ∧ inv_1 (List.drop (Int.toNat (1
  : Int)) (x_8.set (Int.toNat (0 : Int)) (RoomR.mk (x_8.getD (Int.toNat (0 : Int)) (RoomR.mk [] (0 : Nat) false)).ys (x_8.getD (Int.toNat (0 : Int)) (RoomR.mk [] (0 : Nat) false)).m (decide ((x_8.getD (Int.toNat (0 : Int)) (RoomR.mk [] (0 :
  Nat) false)).ys.length = c))))) (List.drop (Int.toNat (1 : Int)) (x_9.set (Int.toNat (0 : Int)) (RoomR.mk (x_9.getD (Int.toNat (0 : Int)) (RoomR.mk [] (0 : Nat) false)).ys (x_9.getD (Int.toNat (0 : Int)) (RoomR.mk [] (0 : Nat) false)).m
  (decide ((x_9.getD (Int.toNat (0 : Int)) (RoomR.mk [] (0 : Nat) false)).ys.length = c_1))))) (wrap (wrap (x_10 - (↑c : Int)) - (1 : Int))) true ∧ μ (List.drop (Int.toNat (1 : Int)) (x_8.set (Int.toNat (0 : Int)) (RoomR.mk (x_8.getD
  (Int.toNat (0 : Int)) (RoomR.mk [] (0 : Nat) false)).ys (x_8.getD (Int.toNat (0 : Int)) (RoomR.mk [] (0 : Nat) false)).m (decide ((x_8.getD (Int.toNat (0 : Int)) (RoomR.mk [] (0 : Nat) false)).ys.length = c))))) (List.drop (Int.toNat (1 :
  Int)) (x_9.set (Int.toNat (0 : Int)) (RoomR.mk (x_9.getD (Int.toNat (0 : Int)) (RoomR.mk [] (0 : Nat) false)).ys (x_9.getD (Int.toNat (0 : Int)) (RoomR.mk [] (0 : Nat) false)).m (decide ((x_9.getD (Int.toNat (0 : Int)) (RoomR.mk [] (0 :
  Nat) false)).ys.length = c_1))))) (wrap (wrap (x_10 - (↑c : Int)) - (1 : Int))) true < μ x_8 x_9 x_10 x_11)) ∧ (decide ((↑x_8.length : Int) > (4000 : Int)) = false → ((x = x ∧ x = x ∧ x_10 = x_10 ∧ x_11 = x_11) ∧ x_9 = x_9 ∧ x_8 = x_8 ∧ x_1
  = x_1 ∧ x_1 = x_1) ∧ inv x_8 x_9 x_10 x_11)) ∧ (decide (x_10 > (1000000 : Int)) = !false → ((0 : Int) ≤ (0 : Int) ∧ (0 : Int) < (↑x_8.length : Int)) ∧ ∀ (c : Nat), (x_8.getD (Int.toNat (0 : Int)) (RoomR.mk [] (0 : Nat) false)).m ≤ c →
  (x_8.getD (Int.toNat (0 : Int)) (RoomR.mk [] (0 : Nat) false)).ys.length ≤ c → LenOk c → ((x_8.getD (Int.toNat (0 : Int)) (RoomR.mk [] (0 : Nat) false)).full = true → (x_8.getD (Int.toNat (0 : Int)) (RoomR.mk [] (0 : Nat) false)).ys.length
  = c) → ((0 : Int) ≤ (0 : Int) ∧ (0 : Int) < (↑x_9.length : Int)) ∧ ∀ (c_1 : Nat), (x_9.getD (Int.toNat (0 : Int)) (RoomR.mk [] (0 : Nat) false)).m ≤ c_1 → (x_9.getD (Int.toNat (0 : Int)) (RoomR.mk [] (0 : Nat) false)).ys.length ≤ c_1 →
  LenOk c_1 → ((x_9.getD (Int.toNat (0 : Int)) (RoomR.mk [] (0 : Nat) false)).full = true → (x_9.getD (Int.toNat (0 : Int)) (RoomR.mk [] (0 : Nat) false)).ys.length = c_1) → (x_11 = false → ((0 : Int) ≤ (0 : Int) ∧ (0 : Int) < (↑x_8.length :
  Int)) ∧ Int.toNat (0 : Int) = Int.toNat (0 : Int) ∧ ((0 : Int) ≤ (0 : Int) ∧ (0 : Int) < (↑x_9.length : Int)) ∧ Int.toNat (0 : Int) = Int.toNat (0 : Int) ∧ ((x_8.getD (Int.toNat (0 : Int)) (RoomR.mk [] (0 : Nat) false)).m ≤ (x_8.getD
  (Int.toNat (0 : Int)) (RoomR.mk [] (0 : Nat) false)).ys.length ∧ (x_9.getD (Int.toNat (0 : Int)) (RoomR.mk [] (0 : Nat) false)).m ≤ (x_9.getD (Int.toNat (0 : Int)) (RoomR.mk [] (0 : Nat) false)).ys.length) ∧ ((0 : Int) ≤ (0 : Int) ∧ (0 :
  Int) < (↑x_8.length : Int)) ∧ Int.toNat (0 : Int) = Int.toNat (0 : Int) ∧ ((0 : Int) ≤ (1 : Int) ∧ (1 : Int) < (↑(x_8.set (Int.toNat (0 : Int)) (RoomR.mk (x_8.getD (Int.toNat (0 : Int)) (RoomR.mk [] (0 : Nat) false)).ys (x_8.getD (Int.toNat
  (0 : Int)) (RoomR.mk [] (0 : Nat) false)).m (decide ((x_8.getD (Int.toNat (0 : Int)) (RoomR.mk [] (0 : Nat) false)).ys.length = c)))).length : Int)) ∧ ((0 : Int) ≤ (1 : Int) ∧ (1 : Int) < (↑(x_9.set (Int.toNat (0 : Int)) (RoomR.mk (x_9.getD
  (Int.toNat (0 : Int)) (RoomR.mk [] (0 : Nat) false)).ys (x_9.getD (Int.toNat (0 : Int)) (RoomR.mk [] (0 : Nat) false)).m (decide ((x_9.getD (Int.toNat (0 : Int)) (RoomR.mk [] (0 : Nat) false)).ys.length = c_1)))).length : Int)) ∧ ((x = x ∧
  x = x ∧ wrap (wrap (x_10 - (↑c : Int)) - (1 : Int)) = wrap (wrap (x_10 - (↑c : Int)) - (1 : Int)) ∧ (!same (List.take (x_8.getD (Int.toNat (0 : Int)) (RoomR.mk [] (0 : Nat) false)).m (x_8.getD (Int.toNat (0 : Int)) (RoomR.mk [] (0 : Nat)
  false)).ys) (List.take (x_9.getD (Int.toNat (0 : Int)) (RoomR.mk [] (0 : Nat) false)).m (x_9.getD (Int.toNat (0 : Int)) (RoomR.mk [] (0 : Nat) false)).ys)) = !same (List.take (x_8.getD (Int.toNat (0 : Int)) (RoomR.mk [] (0 : Nat) false)).m
  (x_8.getD (Int.toNat (0 : Int)) (RoomR.mk [] (0 : Nat) false)).ys) (List.take (x_9.getD (Int.toNat (0 : Int)) (RoomR.mk [] (0 : Nat) false)).m (x_9.getD (Int.toNat (0 : Int)) (RoomR.mk [] (0 : Nat) false)).ys)) ∧ List.drop (Int.toNat (1 :
  Int)) (x_9.set (Int.toNat (0 : Int)) (RoomR.mk (x_9.getD (Int.toNat (0 : Int)) (RoomR.mk [] (0 : Nat) false)).ys (x_9.getD (Int.toNat (0 : Int)) (RoomR.mk [] (0 : Nat) false)).m (decide ((x_9.getD (Int.toNat (0 : Int)) (RoomR.mk [] (0 :
  Nat) false)).ys.length = c_1)))) = List.drop (Int.toNat (1 : Int)) (x_9.set (Int.toNat (0 : Int)) (RoomR.mk (x_9.getD (Int.toNat (0 : Int)) (RoomR.mk [] (0 : Nat) false)).ys (x_9.getD (Int.toNat (0 : Int)) (RoomR.mk [] (0 : Nat) false)).m
  (decide ((x_9.getD (Int.toNat (0 : Int)) (RoomR.mk [] (0 : Nat) false)).ys.length = c_1)))) ∧ List.drop (Int.toNat (1 : Int)) (x_8.set (Int.toNat (0 : Int)) (RoomR.mk (x_8.getD (Int.toNat (0 : Int)) (RoomR.mk [] (0 : Nat) false)).ys
  (x_8.getD (Int.toNat (0 : Int)) (RoomR.mk [] (0 : Nat) false)).m (decide ((x_8.getD (Int.toNat (0 : Int)) (RoomR.mk [] (0 : Nat) false)).ys.length = c)))) = List.drop (Int.toNat (1 : Int)) (x_8.set (Int.toNat (0 : Int)) (RoomR.mk (x_8.getD
  (Int.toNat (0 : Int)) (RoomR.mk [] (0 : Nat) false)).ys (x_8.getD (Int.toNat (0 : Int)) (RoomR.mk [] (0 : Nat) false)).m (decide ((x_8.getD (Int.toNat (0 : Int)) (RoomR.mk [] (0 : Nat) false)).ys.length = c)))) ∧ x_1 = x_1 ∧ x_1 = x_1 ∧ x_1
  = x_1) ∧ inv_1 (List.drop (Int.toNat (1 : Int)) (x_8.set (Int.toNat (0 : Int)) (RoomR.mk (x_8.getD (Int.toNat (0 : Int)) (RoomR.mk [] (0 : Nat) false)).ys (x_8.getD (Int.toNat (0 : Int)) (RoomR.mk [] (0 : Nat) false)).m (decide ((x_8.getD
  (Int.toNat (0 : Int)) (RoomR.mk [] (0 : Nat) false)).ys.length = c))))) (List.drop (Int.toNat (1 : Int)) (x_9.set (Int.toNat (0 : Int)) (RoomR.mk (x_9.getD (Int.toNat (0 : Int)) (RoomR.mk [] (0 : Nat) false)).ys (x_9.getD (Int.toNat (0 :
  Int)) (RoomR.mk [] (0 : Nat) false)).m (decide ((x_9.getD (Int.toNat (0 : Int)) (RoomR.mk [] (0 : Nat) false)).ys.length = c_1))))) (wrap (wrap (x_10 - (↑c : Int)) - (1 : Int))) !same (List.take (x_8.getD (Int.toNat (0 : Int)) (RoomR.mk []
  (0 : Nat) false)).m (x_8.getD (Int.toNat (0 : Int)) (RoomR.mk [] (0 : Nat) false)).ys) (List.take (x_9.getD (Int.toNat (0 : Int)) (RoomR.mk [] (0 : Nat) false)).m (x_9.getD (Int.toNat (0 : Int)) (RoomR.mk [] (0 : Nat) false)).ys) ∧ (μ
  (List.drop (Int.toNat (1 : Int)) (x_8.set (Int.toNat (0 : Int)) (RoomR.mk (x_8.getD (Int.toNat (0 : Int)) (RoomR.mk [] (0 : Nat) false)).ys (x_8.getD (Int.toNat (0 : Int)) (RoomR.mk [] (0 : Nat) false)).m (decide ((x_8.getD (Int.toNat (0 :
  Int)) (RoomR.mk [] (0 : Nat) false)).ys.length = c))))) (List.drop (Int.toNat (1 : Int)) (x_9.set (Int.toNat (0 : Int)) (RoomR.mk (x_9.getD (Int.toNat (0 : Int)) (RoomR.mk [] (0 : Nat) false)).ys (x_9.getD (Int.toNat (0 : Int)) (RoomR.mk []
  (0 : Nat) false)).m (decide ((x_9.getD (Int.toNat (0 : Int)) (RoomR.mk [] (0 : Nat) false)).ys.length = c_1))))) (wrap (wrap (x_10 - (↑c : Int)) - (1 : Int))) !same (List.take (x_8.getD (Int.toNat (0 : Int)) (RoomR.mk [] (0 : Nat) false)).m
  (x_8.getD (Int.toNat (0 : Int)) (RoomR.mk [] (0 : Nat) false)).ys) (List.take (x_9.getD (Int.toNat (0 : Int)) (RoomR.mk [] (0 : Nat) false)).m (x_9.getD (Int.toNat (0 : Int)) (RoomR.mk [] (0 : Nat) false)).ys)) < μ x_8 x_9 x_10 x_11) ∧
  (x_11 = !false → ((0 : Int) ≤ (0 : Int) ∧ (0 : Int) < (↑x_8.length : Int)) ∧ Int.toNat (0 : Int) = Int.toNat (0 : Int) ∧ ((0 : Int) ≤ (1 : Int) ∧ (1 : Int) < (↑(x_8.set (Int.toNat (0 : Int)) (RoomR.mk (x_8.getD (Int.toNat (0 : Int))
  (RoomR.mk [] (0 : Nat) false)).ys (x_8.getD (Int.toNat (0 : Int)) (RoomR.mk [] (0 : Nat) false)).m (decide ((x_8.getD (Int.toNat (0 : Int)) (RoomR.mk [] (0 : Nat) false)).ys.length = c)))).length : Int)) ∧ ((0 : Int) ≤ (1 : Int) ∧ (1 : Int)
  < (↑(x_9.set (Int.toNat (0 : Int)) (RoomR.mk (x_9.getD (Int.toNat (0 : Int)) (RoomR.mk [] (0 : Nat) false)).ys (x_9.getD (Int.toNat (0 : Int)) (RoomR.mk [] (0 : Nat) false)).m (decide ((x_9.getD (Int.toNat (0 : Int)) (RoomR.mk [] (0 : Nat)
  false)).ys.length = c_1)))).length : Int)) ∧ ((x = x ∧ x = x ∧ wrap (wrap (x_10 - (↑c : Int)) - (1 : Int)) = wrap (wrap (x_10 - (↑c : Int)) - (1 : Int)) ∧ true = true) ∧ List.drop (Int.toNat (1 : Int)) (x_9.set (Int.toNat (0 : Int))
  (RoomR.mk (x_9.getD (Int.toNat (0 : Int)) (RoomR.mk [] (0 : Nat) false)).ys (x_9.getD (Int.toNat (0 : Int)) (RoomR.mk [] (0 : Nat) false)).m (decide ((x_9.getD (Int.toNat (0 : Int)) (RoomR.mk [] (0 : Nat) false)).ys.length = c_1)))) =
  List.drop (Int.toNat (1 : Int)) (x_9.set (Int.toNat (0 : Int)) (RoomR.mk (x_9.getD (Int.toNat (0 : Int)) (RoomR.mk [] (0 : Nat) false)).ys (x_9.getD (Int.toNat (0 : Int)) (RoomR.mk [] (0 : Nat) false)).m (decide ((x_9.getD (Int.toNat (0 :
  Int)) (RoomR.mk [] (0 : Nat) false)).ys.length = c_1)))) ∧ List.drop (Int.toNat (1 : Int)) (x_8.set (Int.toNat (0 : Int)) (RoomR.mk (x_8.getD (Int.toNat (0 : Int)) (RoomR.mk [] (0 : Nat) false)).ys (x_8.getD (Int.toNat (0 : Int)) (RoomR.mk
  [] (0 : Nat) false)).m (decide ((x_8.getD (Int.toNat (0 : Int)) (RoomR.mk [] (0 : Nat) false)).ys.length = c)))) = List.drop (Int.toNat (1 : Int)) (x_8.set (Int.toNat (0 : Int)) (RoomR.mk (x_8.getD (Int.toNat (0 : Int)) (RoomR.mk [] (0 :
  Nat) false)).ys (x_8.getD (Int.toNat (0 : Int)) (RoomR.mk [] (0 : Nat) false)).m (decide ((x_8.getD (Int.toNat (0 : Int)) (RoomR.mk [] (0 : Nat) false)).ys.length = c)))) ∧ x_1 = x_1 ∧ x_1 = x_1 ∧ x_1 = x_1) ∧ inv_1 (List.drop (Int.toNat (1
  : Int)) (x_8.set (Int.toNat (0 : Int)) (RoomR.mk (x_8.getD (Int.toNat (0 : Int)) (RoomR.mk [] (0 : Nat) false)).ys (x_8.getD (Int.toNat (0 : Int)) (RoomR.mk [] (0 : Nat) false)).m (decide ((x_8.getD (Int.toNat (0 : Int)) (RoomR.mk [] (0 :
  Nat) false)).ys.length = c))))) (List.drop (Int.toNat (1 : Int)) (x_9.set (Int.toNat (0 : Int)) (RoomR.mk (x_9.getD (Int.toNat (0 : Int)) (RoomR.mk [] (0 : Nat) false)).ys (x_9.getD (Int.toNat (0 : Int)) (RoomR.mk [] (0 : Nat) false)).m
  (decide ((x_9.getD (Int.toNat (0 : Int)) (RoomR.mk [] (0 : Nat) false)).ys.length = c_1))))) (wrap (wrap (x_10 - (↑c : Int)) - (1 : Int))) true ∧ μ (List.drop (Int.toNat (1 : Int)) (x_8.set (Int.toNat (0 : Int)) (RoomR.mk (x_8.getD
  (Int.toNat (0 : Int)) (RoomR.mk [] (0 : Nat) false)).ys (x_8.getD (Int.toNat (0 : Int)) (RoomR.mk [] (0 : Nat) false)).m (decide ((x_8.getD (Int.toNat (0 : Int)) (RoomR.mk [] (0 : Nat) false)).ys.length = c))))) (List.drop (Int.toNat (1 :
  Int)) (x_9.set (Int.toNat (0 : Int)) (RoomR.mk (x_9.getD (Int.toNat (0 : Int)) (RoomR.mk [] (0 : Nat) false)).ys (x_9.getD (Int.toNat (0 : Int)) (RoomR.mk [] (0 : Nat) false)).m (decide ((x_9.getD (Int.toNat (0 : Int)) (RoomR.mk [] (0 :
  Nat) false)).ys.length = c_1))))) (wrap (wrap (x_10 - (↑c : Int)) - (1 : Int))) true < μ x_8 x_9 x_10 x_11))) ∧ (decide ((↑x_8.length : Int) > (1 : Int)) = !true → ((x = x ∧ x = x ∧ x_10 = x_10 ∧ x_11 = x_11) ∧ x_9 = x_9 ∧ x_8 = x_8 ∧ x_1 =
  x_1 ∧ x_1 = x_1) ∧ inv x_8 x_9 x_10 x_11)) ∧ ∀ (x_6 x_7 : List RoomR) (x_8 : Int) (x_9 : Bool), inv x_6 x_7 x_8 x_9 → ∃ (inv : List RoomR → List RoomR → Int → Bool → Prop), ((∀ (x_11 : MapD), some (MapD.mk x x_1) = some x_11 → MapOk x_11) ∧
  ∀ (c : Nat), (times (some (MapD.mk x x_1))).length ≤ c → LenOk c → (x_6.length + (1 : Nat)) * (24 : Nat) ≤ (140737488355328 : Nat) ∧ ((times (some (MapD.mk x x_1))).length ≤ (times (some (MapD.mk x x_1))).length ∧ (times (some (MapD.mk x
  x_1))).length * ((8 : Nat) * (1 : Nat)) ≤ (140737488355328 : Nat)) ∧ (x_7.length + (1 : Nat)) * (24 : Nat) ≤ (140737488355328 : Nat) ∧ ∃ (inv_1 : List RoomR → List RoomR → Int → Bool → Prop), ∃ (μ : List RoomR → List RoomR → Int → Bool →
  Nat), (((x = x ∧ x = x ∧ wrap (wrap (x_8 + (↑c : Int)) + (1 : Int)) = wrap (wrap (x_8 + (↑c : Int)) + (1 : Int)) ∧ x_9 = x_9) ∧ x_7 ++ [RoomR.mk (List.take (times (some (MapD.mk x x_1))).length (times (some (MapD.mk x x_1)))) (List.take
  (times (some (MapD.mk x x_1))).length (times (some (MapD.mk x x_1)))).length false] = x_7 ++ [RoomR.mk (List.take (times (some (MapD.mk x x_1))).length (times (some (MapD.mk x x_1)))) (List.take (times (some (MapD.mk x x_1))).length (times
  (some (MapD.mk x x_1)))).length false] ∧ (x_6 ++ [RoomR.mk [] (times (some (MapD.mk x x_1))).length false]).set x_6.length (RoomR.mk (times (some (MapD.mk x x_1))) (times (some (MapD.mk x x_1))).length (decide ((times (some (MapD.mk x
  x_1))).length = c))) = (x_6 ++ [RoomR.mk [] (times (some (MapD.mk x x_1))).length false]).set x_6.length (RoomR.mk (times (some (MapD.mk x x_1))) (times (some (MapD.mk x x_1))).length (decide ((times (some (MapD.mk x x_1))).length = c))) ∧
  x_1 = x_1 ∧ x_1 = x_1) ∧ inv_1 ((x_6 ++ [RoomR.mk [] (times (some (MapD.mk x x_1))).length false]).set x_6.length (RoomR.mk (times (some (MapD.mk x x_1))) (times (some (MapD.mk x x_1))).length (decide ((times (some (MapD.mk x x_1))).length
  = c)))) (x_7 ++ [RoomR.mk (List.take (times (some (MapD.mk x x_1))).length (times (some (MapD.mk x x_1)))) (List.take (times (some (MapD.mk x x_1))).length (times (some (MapD.mk x x_1)))).length false]) (wrap (wrap (x_8 + (↑c : Int)) + (1 :
  Int))) x_9) ∧ ∀ (x_13 x_14 : List RoomR) (x_15 : Int) (x_16 : Bool), inv_1 x_13 x_14 x_15 x_16 → (decide ((↑x_13.length : Int) > (1 : Int)) = true → (decide (x_15 > (1000000 : Int)) = false → (decide ((↑x_13.length : Int) > (4000 : Int)) =
  true → ((0 : Int) ≤ (0 : Int) ∧ (0 : Int) < (↑x_13.length : Int)) ∧ ∀ (c : Nat), (x_13.getD (Int.toNat (0 : Int)) (RoomR.mk [] (0 : Nat) false)).m ≤ c → (x_13.getD (Int.toNat (0 : Int)) (RoomR.mk [] (0 : Nat) false)).ys.length ≤ c → LenOk c
  → ((x_13.getD (Int.toNat (0 : Int)) (RoomR.mk [] (0 : Nat) false)).full = true → (x_13.getD (Int.toNat (0 : Int)) (RoomR.mk [] (0 : Nat) false)).ys.length = c) → ((0 : Int) ≤ (0 : Int) ∧ (0 : Int) < (↑x_14.length : Int)) ∧ ∀ (c_1 : Nat),
  (x_14.getD (Int.toNat (0 : Int)) (RoomR.mk [] (0 : Nat) false)).m ≤ c_1 → (x_14.getD (Int.toNat (0 : Int)) (RoomR.mk [] (0 : Nat) false)).ys.length ≤ c_1 → LenOk c_1 → ((x_14.getD (Int.toNat (0 : Int)) (RoomR.mk [] (0 : Nat) false)).full =
  true → (x_14.getD (Int.toNat (0 : Int)) (RoomR.mk [] (0 : Nat) false)).ys.length = c_1) → (x_16 = false → ((0 : Int) ≤ (0 : Int) ∧ (0 : Int) < (↑x_13.length : Int)) ∧ Int.toNat (0 : Int) = Int.toNat (0 : Int) ∧ ((0 : Int) ≤ (0 : Int) ∧ (0 :
  Int) < (↑x_14.length : Int)) ∧ Int.toNat (0 : Int) = Int.toNat (0 : Int) ∧ ((x_13.getD (Int.toNat (0 : Int)) (RoomR.mk [] (0 : Nat) false)).m ≤ (x_13.getD (Int.toNat (0 : Int)) (RoomR.mk [] (0 : Nat) false)).ys.length ∧ (x_14.getD
  (Int.toNat (0 : Int)) (RoomR.mk [] (0 : Nat) false)).m ≤ (x_14.getD (Int.toNat (0 : Int)) (RoomR.mk [] (0 : Nat) false)).ys.length) ∧ ((0 : Int) ≤ (0 : Int) ∧ (0 : Int) < (↑x_13.length : Int)) ∧ Int.toNat (0 : Int) = Int.toNat (0 : Int) ∧
  ((0 : Int) ≤ (1 : Int) ∧ (1 : Int) < (↑(x_13.set (Int.toNat (0 : Int)) (RoomR.mk (x_13.getD (Int.toNat (0 : Int)) (RoomR.mk [] (0 : Nat) false)).ys (x_13.getD (Int.toNat (0 : Int)) (RoomR.mk [] (0 : Nat) false)).m (decide ((x_13.getD
  (Int.toNat (0 : Int)) (RoomR.mk [] (0 : Nat) false)).ys.length = c)))).length : Int)) ∧ ((0 : Int) ≤ (1 : Int) ∧ (1 : Int) < (↑(x_14.set (Int.toNat (0 : Int)) (RoomR.mk (x_14.getD (Int.toNat (0 : Int)) (RoomR.mk [] (0 : Nat) false)).ys
  (x_14.getD (Int.toNat (0 : Int)) (RoomR.mk [] (0 : Nat) false)).m (decide ((x_14.getD (Int.toNat (0 : Int)) (RoomR.mk [] (0 : Nat) false)).ys.length = c_1)))).length : Int)) ∧ ((x = x ∧ x = x ∧ wrap (wrap (x_15 - (↑c : Int)) - (1 : Int)) =
  wrap (wrap (x_15 - (↑c : Int)) - (1 : Int)) ∧ (!same (List.take (x_13.getD (Int.toNat (0 : Int)) (RoomR.mk [] (0 : Nat) false)).m (x_13.getD (Int.toNat (0 : Int)) (RoomR.mk [] (0 : Nat) false)).ys) (List.take (x_14.getD (Int.toNat (0 :
  Int)) (RoomR.mk [] (0 : Nat) false)).m (x_14.getD (Int.toNat (0 : Int)) (RoomR.mk [] (0 : Nat) false)).ys)) = !same (List.take (x_13.getD (Int.toNat (0 : Int)) (RoomR.mk [] (0 : Nat) false)).m (x_13.getD (Int.toNat (0 : Int)) (RoomR.mk []
  (0 : Nat) false)).ys) (List.take (x_14.getD (Int.toNat (0 : Int)) (RoomR.mk [] (0 : Nat) false)).m (x_14.getD (Int.toNat (0 : Int)) (RoomR.mk [] (0 : Nat) false)).ys)) ∧ List.drop (Int.toNat (1 : Int)) (x_14.set (Int.toNat (0 : Int))
  (RoomR.mk (x_14.getD (Int.toNat (0 : Int)) (RoomR.mk [] (0 : Nat) false)).ys (x_14.getD (Int.toNat (0 : Int)) (RoomR.mk [] (0 : Nat) false)).m (decide ((x_14.getD (Int.toNat (0 : Int)) (RoomR.mk [] (0 : Nat) false)).ys.length = c_1)))) =
  List.drop (Int.toNat (1 : Int)) (x_14.set (Int.toNat (0 : Int)) (RoomR.mk (x_14.getD (Int.toNat (0 : Int)) (RoomR.mk [] (0 : Nat) false)).ys (x_14.getD (Int.toNat (0 : Int)) (RoomR.mk [] (0 : Nat) false)).m (decide ((x_14.getD (Int.toNat (0
  : Int)) (RoomR.mk [] (0 : Nat) false)).ys.length = c_1)))) ∧ List.drop (Int.toNat (1 : Int)) (x_13.set (Int.toNat (0 : Int)) (RoomR.mk (x_13.getD (Int.toNat (0 : Int)) (RoomR.mk [] (0 : Nat) false)).ys (x_13.getD (Int.toNat (0 : Int))
  (RoomR.mk [] (0 : Nat) false)).m (decide ((x_13.getD (Int.toNat (0 : Int)) (RoomR.mk [] (0 : Nat) false)).ys.length = c)))) = List.drop (Int.toNat (1 : Int)) (x_13.set (Int.toNat (0 : Int)) (RoomR.mk (x_13.getD (Int.toNat (0 : Int))
  (RoomR.mk [] (0 : Nat) false)).ys (x_13.getD (Int.toNat (0 : Int)) (RoomR.mk [] (0 : Nat) false)).m (decide ((x_13.getD (Int.toNat (0 : Int)) (RoomR.mk [] (0 : Nat) false)).ys.length = c)))) ∧ x_1 = x_1 ∧ x_1 = x_1) ∧ inv_1 (List.drop
  (Int.toNat (1 : Int)) (x_13.set (Int.toNat (0 : Int)) (RoomR.mk (x_13.getD (Int.toNat (0 : Int)) (RoomR.mk [] (0 : Nat) false)).ys (x_13.getD (Int.toNat (0 : Int)) (RoomR.mk [] (0 : Nat) false)).m (decide ((x_13.getD (Int.toNat (0 : Int))
  (RoomR.mk [] (0 : Nat) false)).ys.length = c))))) (List.drop (Int.toNat (1 : Int)) (x_14.set (Int.toNat (0 : Int)) (RoomR.mk (x_14.getD (Int.toNat (0 : Int)) (RoomR.mk [] (0 : Nat) false)).ys (x_14.getD (Int.toNat (0 : Int)) (RoomR.mk [] (0
  : Nat) false)).m (decide ((x_14.getD (Int.toNat (0 : Int)) (RoomR.mk [] (0 : Nat) false)).ys.length = c_1))))) (wrap (wrap (x_15 - (↑c : Int)) - (1 : Int))) !same (List.take (x_13.getD (Int.toNat (0 : Int)) (RoomR.mk [] (0 : Nat) false)).m
  (x_13.getD (Int.toNat (0 : Int)) (RoomR.mk [] (0 : Nat) false)).ys) (List.take (x_14.getD (Int.toNat (0 : Int)) (RoomR.mk [] (0 : Nat) false)).m (x_14.getD (Int.toNat (0 : Int)) (RoomR.mk [] (0 : Nat) false)).ys) ∧ (μ (List.drop (Int.toNat
  (1 : Int)) (x_13.set (Int.toNat (0 : Int)) (RoomR.mk (x_13.getD (Int.toNat (0 : Int)) (RoomR.mk [] (0 : Nat) false)).ys (x_13.getD (Int.toNat (0 : Int)) (RoomR.mk [] (0 : Nat) false)).m (decide ((x_13.getD (Int.toNat (0 : Int)) (RoomR.mk []
  (0 : Nat) false)).ys.length = c))))) (List.drop (Int.toNat (1 : Int)) (x_14.set (Int.toNat (0 : Int)) (RoomR.mk (x_14.getD (Int.toNat (0 : Int)) (RoomR.mk [] (0 : Nat) false)).ys (x_14.getD (Int.toNat (0 : Int)) (RoomR.mk [] (0 : Nat)
  false)).m (decide ((x_14.getD (Int.toNat (0 : Int)) (RoomR.mk [] (0 : Nat) false)).ys.length = c_1))))) (wrap (wrap (x_15 - (↑c : Int)) - (1 : Int))) !same (List.take (x_13.getD (Int.toNat (0 : Int)) (RoomR.mk [] (0 : Nat) false)).m
  (x_13.getD (Int.toNat (0 : Int)) (RoomR.mk [] (0 : Nat) false)).ys) (List.take (x_14.getD (Int.toNat (0 : Int)) (RoomR.mk [] (0 : Nat) false)).m (x_14.getD (Int.toNat (0 : Int)) (RoomR.mk [] (0 : Nat) false)).ys)) < μ x_13 x_14 x_15 x_16) ∧
  (x_16 = !false → ((0 : Int) ≤ (0 : Int) ∧ (0 : Int) < (↑x_13.length : Int)) ∧ Int.toNat (0 : Int) = Int.toNat (0 : Int) ∧ ((0 : Int) ≤ (1 : Int) ∧ (1 : Int) < (↑(x_13.set (Int.toNat (0 : Int)) (RoomR.mk (x_13.getD (Int.toNat (0 : Int))
  (RoomR.mk [] (0 : Nat) false)).ys (x_13.getD (Int.toNat (0 : Int)) (RoomR.mk [] (0 : Nat) false)).m (decide ((x_13.getD (Int.toNat (0 : Int)) (RoomR.mk [] (0 : Nat) false)).ys.length = c)))).length : Int)) ∧ ((0 : Int) ≤ (1 : Int) ∧ (1 :
  Int) < (↑(x_14.set (Int.toNat (0 : Int)) (RoomR.mk (x_14.getD (Int.toNat (0 : Int)) (RoomR.mk [] (0 : Nat) false)).ys (x_14.getD (Int.toNat (0 : Int)) (RoomR.mk [] (0 : Nat) false)).m (decide ((x_14.getD (Int.toNat (0 : Int)) (RoomR.mk []
  (0 : Nat) false)).ys.length = c_1)))).length : Int)) ∧ ((x = x ∧ x = x ∧ wrap (wrap (x_15 - (↑c : Int)) - (1 : Int)) = wrap (wrap (x_15 - (↑c : Int)) - (1 : Int)) ∧ true = true) ∧ List.drop (Int.toNat (1 : Int)) (x_14.set (Int.toNat (0 :
  Int)) (RoomR.mk (x_14.getD (Int.toNat (0 : Int)) (RoomR.mk [] (0 : Nat) false)).ys (x_14.getD (Int.toNat (0 : Int)) (RoomR.mk [] (0 : Nat) false)).m (decide ((x_14.getD (Int.toNat (0 : Int)) (RoomR.mk [] (0 : Nat) false)).ys.length =
  c_1)))) = List.drop (Int.toNat (1 : Int)) (x_14.set (Int.toNat (0 : Int)) (RoomR.mk (x_14.getD (Int.toNat (0 : Int)) (RoomR.mk [] (0 : Nat) false)).ys (x_14.getD (Int.toNat (0 : Int)) (RoomR.mk [] (0 : Nat) false)).m (decide ((x_14.getD
  (Int.toNat (0 : Int)) (RoomR.mk [] (0 : Nat) false)).ys.length = c_1)))) ∧ List.drop (Int.toNat (1 : Int)) (x_13.set (Int.toNat (0 : Int)) (RoomR.mk (x_13.getD (Int.toNat (0 : Int)) (RoomR.mk [] (0 : Nat) false)).ys (x_13.getD (Int.toNat (0
  : Int)) (RoomR.mk [] (0 : Nat) false)).m (decide ((x_13.getD (Int.toNat (0 : Int)) (RoomR.mk [] (0 : Nat) false)).ys.length = c)))) = List.drop (Int.toNat (1 : Int)) (x_13.set (Int.toNat (0 : Int)) (RoomR.mk (x_13.getD (Int.toNat (0 : Int))
  (RoomR.mk [] (0 : Nat) false)).ys (x_13.getD (Int.toNat (0 : Int)) (RoomR.mk [] (0 : Nat) false)).m (decide ((x_13.getD (Int.toNat (0 : Int)) (RoomR.mk [] (0 : Nat) false)).ys.length = c)))) ∧ x_1 = x_1 ∧ x_1 = x_1) ∧ inv_1 (List.drop
  (Int.toNat (1 : Int)) (x_13.set (Int.toNat (0 : Int)) (RoomR.mk (x_13.getD (Int.toNat (0 : Int)) (RoomR.mk [] (0 : Nat) false)).ys (x_13.getD (Int.toNat (0 : Int)) (RoomR.mk [] (0 : Nat) false)).m (decide ((x_13.getD (Int.toNat (0 : Int))
  (RoomR.mk [] (0 : Nat) false)).ys.length = c))))) (List.drop (Int.toNat (1 : Int)) (x_14.set (Int.toNat (0 : Int)) (RoomR.mk (x_14.getD (Int.toNat (0 : Int)) (RoomR.mk [] (0 : Nat) false)).ys (x_14.getD (Int.toNat (0 : Int)) (RoomR.mk [] (0
  : Nat) false)).m (decide ((x_14.getD (Int.toNat (0 : Int)) (RoomR.mk [] (0 : Nat) false)).ys.length = c_1))))) (wrap (wrap (x_15 - (↑c : Int)) - (1 : Int))) true ∧ μ (List.drop (Int.toNat (1 : Int)) (x_13.set (Int.toNat (0 : Int)) (RoomR.mk
  (x_13.getD (Int.toNat (0 : Int)) (RoomR.mk [] (0 : Nat) false)).ys (x_13.getD (Int.toNat (0 : Int)) (RoomR.mk [] (0 : Nat) false)).m (decide ((x_13.getD (Int.toNat (0 : Int)) (RoomR.mk [] (0 : Nat) false)).ys.length = c))))) (List.drop
  (Int.toNat (1 : Int)) (x_14.set (Int.toNat (0 : Int)) (RoomR.mk (x_14.getD (Int.toNat (0 : Int)) (RoomR.mk [] (0 : Nat) false)).ys (x_14.getD (Int.toNat (0 : Int)) (RoomR.mk [] (0 : Nat) false)).m (decide ((x_14.getD (Int.toNat (0 : Int))
  (RoomR.mk [] (0 : Nat) false)).ys.length = c_1))))) (wrap (wrap (x_15 - (↑c : Int)) - (1 : Int))) true < μ x_13 x_14 x_15 x_16)) ∧ (decide ((↑x_13.length : Int) > (4000 : Int)) = false → ((x = x ∧ x = x ∧ x_15 = x_15 ∧ x_16 = x_16) ∧ x_14 =
  x_14 ∧ x_13 = x_13 ∧ x_1 = x_1 ∧ x_1 = x_1) ∧ inv x_13 x_14 x_15 x_16)) ∧ (decide (x_15 > (1000000 : Int)) = !false → ((0 : Int) ≤ (0 : Int) ∧ (0 : Int) < (↑x_13.length : Int)) ∧ ∀ (c : Nat), (x_13.getD (Int.toNat (0 : Int)) (RoomR.mk [] (0
  : Nat) false)).m ≤ c → (x_13.getD (Int.toNat (0 : Int)) (RoomR.mk [] (0 : Nat) false)).ys.length ≤ c → LenOk c → ((x_13.getD (Int.toNat (0 : Int)) (RoomR.mk [] (0 : Nat) false)).full = true → (x_13.getD (Int.toNat (0 : Int)) (RoomR.mk [] (0
  : Nat) false)).ys.length = c) → ((0 : Int) ≤ (0 : Int) ∧ (0 : Int) < (↑x_14.length : Int)) ∧ ∀ (c_1 : Nat), (x_14.getD (Int.toNat (0 : Int)) (RoomR.mk [] (0 : Nat) false)).m ≤ c_1 → (x_14.getD (Int.toNat (0 : Int)) (RoomR.mk [] (0 : Nat)
  false)).ys.length ≤ c_1 → LenOk c_1 → ((x_14.getD (Int.toNat (0 : Int)) (RoomR.mk [] (0 : Nat) false)).full = true → (x_14.getD (Int.toNat (0 : Int)) (RoomR.mk [] (0 : Nat) false)).ys.length = c_1) → (x_16 = false → ((0 : Int) ≤ (0 : Int) ∧
  (0 : Int) < (↑x_13.length : Int)) ∧ Int.toNat (0 : Int) = Int.toNat (0 : Int) ∧ ((0 : Int) ≤ (0 : Int) ∧ (0 : Int) < (↑x_14.length : Int)) ∧ Int.toNat (0 : Int) = Int.toNat (0 : Int) ∧ ((x_13.getD (Int.toNat (0 : Int)) (RoomR.mk [] (0 :
  Nat) false)).m ≤ (x_13.getD (Int.toNat (0 : Int)) (RoomR.mk [] (0 : Nat) false)).ys.length ∧ (x_14.getD (Int.toNat (0 : Int)) (RoomR.mk [] (0 : Nat) false)).m ≤ (x_14.getD (Int.toNat (0 : Int)) (RoomR.mk [] (0 : Nat) false)).ys.length) ∧
  ((0 : Int) ≤ (0 : Int) ∧ (0 : Int) < (↑x_13.length : Int)) ∧ Int.toNat (0 : Int) = Int.toNat (0 : Int) ∧ ((0 : Int) ≤ (1 : Int) ∧ (1 : Int) < (↑(x_13.set (Int.toNat (0 : Int)) (RoomR.mk (x_13.getD (Int.toNat (0 : Int)) (RoomR.mk [] (0 :
  Nat) false)).ys (x_13.getD (Int.toNat (0 : Int)) (RoomR.mk [] (0 : Nat) false)).m (decide ((x_13.getD (Int.toNat (0 : Int)) (RoomR.mk [] (0 : Nat) false)).ys.length = c)))).length : Int)) ∧ ((0 : Int) ≤ (1 : Int) ∧ (1 : Int) < (↑(x_14.set
  (Int.toNat (0 : Int)) (RoomR.mk (x_14.getD (Int.toNat (0 : Int)) (RoomR.mk [] (0 : Nat) false)).ys (x_14.getD (Int.toNat (0 : Int)) (RoomR.mk [] (0 : Nat) false)).m (decide ((x_14.getD (Int.toNat (0 : Int)) (RoomR.mk [] (0 : Nat)
  false)).ys.length = c_1)))).length : Int)) ∧ ((x = x ∧ x = x ∧ wrap (wrap (x_15 - (↑c : Int)) - (1 : Int)) = wrap (wrap (x_15 - (↑c : Int)) - (1 : Int)) ∧ (!same (List.take (x_13.getD (Int.toNat (0 : Int)) (RoomR.mk [] (0 : Nat) false)).m
  (x_13.getD (Int.toNat (0 : Int)) (RoomR.mk [] (0 : Nat) false)).ys) (List.take (x_14.getD (Int.toNat (0 : Int)) (RoomR.mk [] (0 : Nat) false)).m (x_14.getD (Int.toNat (0 : Int)) (RoomR.mk [] (0 : Nat) false)).ys)) = !same (List.take
  (x_13.getD (Int.toNat (0 : Int)) (RoomR.mk [] (0 : Nat) false)).m (x_13.getD (Int.toNat (0 : Int)) (RoomR.mk [] (0 : Nat) false)).ys) (List.take (x_14.getD (Int.toNat (0 : Int)) (RoomR.mk [] (0 : Nat) false)).m (x_14.getD (Int.toNat (0 :
  Int)) (RoomR.mk [] (0 : Nat) false)).ys)) ∧ List.drop (Int.toNat (1 : Int)) (x_14.set (Int.toNat (0 : Int)) (RoomR.mk (x_14.getD (Int.toNat (0 : Int)) (RoomR.mk [] (0 : Nat) false)).ys (x_14.getD (Int.toNat (0 : Int)) (RoomR.mk [] (0 : Nat)
  false)).m (decide ((x_14.getD (Int.toNat (0 : Int)) (RoomR.mk [] (0 : Nat) false)).ys.length = c_1)))) = List.drop (Int.toNat (1 : Int)) (x_14.set (Int.toNat (0 : Int)) (RoomR.mk (x_14.getD (Int.toNat (0 : Int)) (RoomR.mk [] (0 : Nat)
  false)).ys (x_14.getD (Int.toNat (0 : Int)) (RoomR.mk [] (0 : Nat) false)).m (decide ((x_14.getD (Int.toNat (0 : Int)) (RoomR.mk [] (0 : Nat) false)).ys.length = c_1)))) ∧ List.drop (Int.toNat (1 : Int)) (x_13.set (Int.toNat (0 : Int))
  (RoomR.mk (x_13.getD (Int.toNat (0 : Int)) (RoomR.mk [] (0 : Nat) false)).ys (x_13.getD (Int.toNat (0 : Int)) (RoomR.mk [] (0 : Nat) false)).m (decide ((x_13.getD (Int.toNat (0 : Int)) (RoomR.mk [] (0 : Nat) false)).ys.length = c)))) =
  List.drop (Int.toNat (1 : Int)) (x_13.set (Int.toNat (0 : Int)) (RoomR.mk (x_13.getD (Int.toNat (0 : Int)) (RoomR.mk [] (0 : Nat) false)).ys (x_13.getD (Int.toNat (0 : Int)) (RoomR.mk [] (0 : Nat) false)).m (decide ((x_13.getD (Int.toNat (0
  : Int)) (RoomR.mk [] (0 : Nat) false)).ys.length = c)))) ∧ x_1 = x_1 ∧ x_1 = x_1) ∧ inv_1 (List.drop (Int.toNat (1 : Int)) (x_13.set (Int.toNat (0 : Int)) (RoomR.mk (x_13.getD (Int.toNat (0 : Int)) (RoomR.mk [] (0 : Nat) false)).ys
  (x_13.getD (Int.toNat (0 : Int)) (RoomR.mk [] (0 : Nat) false)).m (decide ((x_13.getD (Int.toNat (0 : Int)) (RoomR.mk [] (0 : Nat) false)).ys.length = c))))) (List.drop (Int.toNat (1 : Int)) (x_14.set (Int.toNat (0 : Int)) (RoomR.mk
  (x_14.getD (Int.toNat (0 : Int)) (RoomR.mk [] (0 : Nat) false)).ys (x_14.getD (Int.toNat (0 : Int)) (RoomR.mk [] (0 : Nat) false)).m (decide ((x_14.getD (Int.toNat (0 : Int)) (RoomR.mk [] (0 : Nat) false)).ys.length = c_1))))) (wrap (wrap
  (x_15 - (↑c : Int)) - (1 : Int))) !same (List.take (x_13.getD (Int.toNat (0 : Int)) (RoomR.mk [] (0 : Nat) false)).m (x_13.getD (Int.toNat (0 : Int)) (RoomR.mk [] (0 : Nat) false)).ys) (List.take (x_14.getD (Int.toNat (0 : Int)) (RoomR.mk
  [] (0 : Nat) false)).m (x_14.getD (Int.toNat (0 : Int)) (RoomR.mk [] (0 : Nat) false)).ys) ∧ (μ (List.drop (Int.toNat (1 : Int)) (x_13.set (Int.toNat (0 : Int)) (RoomR.mk (x_13.getD (Int.toNat (0 : Int)) (RoomR.mk [] (0 : Nat) false)).ys
  (x_13.getD (Int.toNat (0 : Int)) (RoomR.mk [] (0 : Nat) false)).m (decide ((x_13.getD (Int.toNat (0 : Int)) (RoomR.mk [] (0 : Nat) false)).ys.length = c))))) (List.drop (Int.toNat (1 : Int)) (x_14.set (Int.toNat (0 : Int)) (RoomR.mk
  (x_14.getD (Int.toNat (0 : Int)) (RoomR.mk [] (0 : Nat) false)).ys (x_14.getD (Int.toNat (0 : Int)) (RoomR.mk [] (0 : Nat) false)).m (decide ((x_14.getD (Int.toNat (0 : Int)) (RoomR.mk [] (0 : Nat) false)).ys.length = c_1))))) (wrap (wrap
  (x_15 - (↑c : Int)) - (1 : Int))) !same (List.take (x_13.getD (Int.toNat (0 : Int)) (RoomR.mk [] (0 : Nat) false)).m (x_13.getD (Int.toNat (0 : Int)) (RoomR.mk [] (0 : Nat) false)).ys) (List.take (x_14.getD (Int.toNat (0 : Int)) (RoomR.mk
  [] (0 : Nat) false)).m (x_14.getD (Int.toNat (0 : Int)) (RoomR.mk [] (0 : Nat) false)).ys)) < μ x_13 x_14 x_15 x_16) ∧ (x_16 = !false → ((0 : Int) ≤ (0 : Int) ∧ (0 : Int) < (↑x_13.length : Int)) ∧ Int.toNat (0 : Int) = Int.toNat (0 : Int) ∧
  ((0 : Int) ≤ (1 : Int) ∧ (1 : Int) < (↑(x_13.set (Int.toNat (0 : Int)) (RoomR.mk (x_13.getD (Int.toNat (0 : Int)) (RoomR.mk [] (0 : Nat) false)).ys (x_13.getD (Int.toNat (0 : Int)) (RoomR.mk [] (0 : Nat) false)).m (decide ((x_13.getD
  (Int.toNat (0 : Int)) (RoomR.mk [] (0 : Nat) false)).ys.length = c)))).length : Int)) ∧ ((0 : Int) ≤ (1 : Int) ∧ (1 : Int) < (↑(x_14.set (Int.toNat (0 : Int)) (RoomR.mk (x_14.getD (Int.toNat (0 : Int)) (RoomR.mk [] (0 : Nat) false)).ys
  (x_14.getD (Int.toNat (0 : Int)) (RoomR.mk [] (0 : Nat) false)).m (decide ((x_14.getD (Int.toNat (0 : Int)) (RoomR.mk [] (0 : Nat) false)).ys.length = c_1)))).length : Int)) ∧ ((x = x ∧ x = x ∧ wrap (wrap (x_15 - (↑c : Int)) - (1 : Int)) =
  wrap (wrap (x_15 - (↑c : Int)) - (1 : Int)) ∧ true = true) ∧ List.drop (Int.toNat (1 : Int)) (x_14.set (Int.toNat (0 : Int)) (RoomR.mk (x_14.getD (Int.toNat (0 : Int)) (RoomR.mk [] (0 : Nat) false)).ys (x_14.getD (Int.toNat (0 : Int))
  (RoomR.mk [] (0 : Nat) false)).m (decide ((x_14.getD (Int.toNat (0 : Int)) (RoomR.mk [] (0 : Nat) false)).ys.length = c_1)))) = List.drop (Int.toNat (1 : Int)) (x_14.set (Int.toNat (0 : Int)) (RoomR.mk (x_14.getD (Int.toNat (0 : Int))
  (RoomR.mk [] (0 : Nat) false)).ys (x_14.getD (Int.toNat (0 : Int)) (RoomR.mk [] (0 : Nat) false)).m (decide ((x_14.getD (Int.toNat (0 : Int)) (RoomR.mk [] (0 : Nat) false)).ys.length = c_1)))) ∧ List.drop (Int.toNat (1 : Int)) (x_13.set
  (Int.toNat (0 : Int)) (RoomR.mk (x_13.getD (Int.toNat (0 : Int)) (RoomR.mk [] (0 : Nat) false)).ys (x_13.getD (Int.toNat (0 : Int)) (RoomR.mk [] (0 : Nat) false)).m (decide ((x_13.getD (Int.toNat (0 : Int)) (RoomR.mk [] (0 : Nat)
  false)).ys.length = c)))) = List.drop (Int.toNat (1 : Int)) (x_13.set (Int.toNat (0 : Int)) (RoomR.mk (x_13.getD (Int.toNat (0 : Int)) (RoomR.mk [] (0 : Nat) false)).ys (x_13.getD (Int.toNat (0 : Int)) (RoomR.mk [] (0 : Nat) false)).m
  (decide ((x_13.getD (Int.toNat (0 : Int)) (RoomR.mk [] (0 : Nat) false)).ys.length = c)))) ∧ x_1 = x_1 ∧ x_1 = x_1) ∧ inv_1 (List.drop (Int.toNat (1 : Int)) (x_13.set (Int.toNat (0 : Int)) (RoomR.mk (x_13.getD (Int.toNat (0 : Int))
  (RoomR.mk [] (0 : Nat) false)).ys (x_13.getD (Int.toNat (0 : Int)) (RoomR.mk [] (0 : Nat) false)).m (decide ((x_13.getD (Int.toNat (0 : Int)) (RoomR.mk [] (0 : Nat) false)).ys.length = c))))) (List.drop (Int.toNat (1 : Int)) (x_14.set
  (Int.toNat (0 : Int)) (RoomR.mk (x_14.getD (Int.toNat (0 : Int)) (RoomR.mk [] (0 : Nat) false)).ys (x_14.getD (Int.toNat (0 : Int)) (RoomR.mk [] (0 : Nat) false)).m (decide ((x_14.getD (Int.toNat (0 : Int)) (RoomR.mk [] (0 : Nat)
  false)).ys.length = c_1))))) (wrap (wrap (x_15 - (↑c : Int)) - (1 : Int))) true ∧ μ (List.drop (Int.toNat (1 : Int)) (x_13.set (Int.toNat (0 : Int)) (RoomR.mk (x_13.getD (Int.toNat (0 : Int)) (RoomR.mk [] (0 : Nat) false)).ys (x_13.getD
  (Int.toNat (0 : Int)) (RoomR.mk [] (0 : Nat) false)).m (decide ((x_13.getD (Int.toNat (0 : Int)) (RoomR.mk [] (0 : Nat) false)).ys.length = c))))) (List.drop (Int.toNat (1 : Int)) (x_14.set (Int.toNat (0 : Int)) (RoomR.mk (x_14.getD
  (Int.toNat (0 : Int)) (RoomR.mk [] (0 : Nat) false)).ys (x_14.getD (Int.toNat (0 : Int)) (RoomR.mk [] (0 : Nat) false)).m (decide ((x_14.getD (Int.toNat (0 : Int)) (RoomR.mk [] (0 : Nat) false)).ys.length = c_1))))) (wrap (wrap (x_15 - (↑c
  : Int)) - (1 : Int))) true < μ x_13 x_14 x_15 x_16))) ∧ (decide ((↑x_13.length : Int) > (1 : Int)) = !true → ((x = x ∧ x = x ∧ x_15 = x_15 ∧ x_16 = x_16) ∧ x_14 = x_14 ∧ x_13 = x_13 ∧ x_1 = x_1 ∧ x_1 = x_1) ∧ inv x_13 x_14 x_15 x_16)) ∧ ∀
  (x_11 x_12 : List RoomR) (x_13 : Int) (x_14 : Bool), inv x_11 x_12 x_13 x_14 → (∀ (x_16 : MapD), some (MapD.mk x x_1) = some x_16 → MapOk x_16) ∧ ∃ (inv : List RoomR → List RoomR → Int → Bool → Prop), ((∀ (x_16 : MapD), some (MapD.mk x (fw
  x.toNat x_1)) = some x_16 → MapOk x_16) ∧ ∀ (c : Nat), (times (some (MapD.mk x (fw x.toNat x_1)))).length ≤ c → LenOk c → (x_11.length + (1 : Nat)) * (24 : Nat) ≤ (140737488355328 : Nat) ∧ ((times (some (MapD.mk x (fw x.toNat x_1)))).length
  ≤ (times (some (MapD.mk x (fw x.toNat x_1)))).length ∧ (times (some (MapD.mk x (fw x.toNat x_1)))).length * ((8 : Nat) * (1 : Nat)) ≤ (140737488355328 : Nat)) ∧ (x_12.length + (1 : Nat)) * (24 : Nat) ≤ (140737488355328 : Nat) ∧ ∃ (inv_1 :
  List RoomR → List RoomR → Int → Bool → Prop), ∃ (μ : List RoomR → List RoomR → Int → Bool → Nat), (((x = x ∧ x = x ∧ (wrap (wrap (x_13 + (↑c : Int)) + (1 : Int)) = wrap (wrap (x_13 + (↑c : Int)) + (1 : Int)) ∧ x_14 = x_14) ∧ x = x) ∧ fw
  x.toNat x_1 = fw x.toNat x_1 ∧ x_12 ++ [RoomR.mk (List.take (times (some (MapD.mk x (fw x.toNat x_1)))).length (times (some (MapD.mk x (fw x.toNat x_1))))) (List.take (times (some (MapD.mk x (fw x.toNat x_1)))).length (times (some (MapD.mk
  x (fw x.toNat x_1))))).length false] = x_12 ++ [RoomR.mk (List.take (times (some (MapD.mk x (fw x.toNat x_1)))).length (times (some (MapD.mk x (fw x.toNat x_1))))) (List.take (times (some (MapD.mk x (fw x.toNat x_1)))).length (times (some
  (MapD.mk x (fw x.toNat x_1))))).length false] ∧ (x_11 ++ [RoomR.mk [] (times (some (MapD.mk x (fw x.toNat x_1)))).length false]).set x_11.length (RoomR.mk (times (some (MapD.mk x (fw x.toNat x_1)))) (times (some (MapD.mk x (fw x.toNat
  x_1)))).length (decide ((times (some (MapD.mk x (fw x.toNat x_1)))).length = c))) = (x_11 ++ [RoomR.mk [] (times (some (MapD.mk x (fw x.toNat x_1)))).length false]).set x_11.length (RoomR.mk (times (some (MapD.mk x (fw x.toNat x_1))))
  (times (some (MapD.mk x (fw x.toNat x_1)))).length (decide ((times (some (MapD.mk x (fw x.toNat x_1)))).length = c))) ∧ x_1 = x_1 ∧ x_1 = x_1) ∧ inv_1 ((x_11 ++ [RoomR.mk [] (times (some (MapD.mk x (fw x.toNat x_1)))).length false]).set
  x_11.length (RoomR.mk (times (some (MapD.mk x (fw x.toNat x_1)))) (times (some (MapD.mk x (fw x.toNat x_1)))).length (decide ((times (some (MapD.mk x (fw x.toNat x_1)))).length = c)))) (x_12 ++ [RoomR.mk (List.take (times (some (MapD.mk x
  (fw x.toNat x_1)))).length (times (some (MapD.mk x (fw x.toNat x_1))))) (List.take (times (some (MapD.mk x (fw x.toNat x_1)))).length (times (some (MapD.mk x (fw x.toNat x_1))))).length false]) (wrap (wrap (x_13 + (↑c : Int)) + (1 : Int)))
  x_14) ∧ ∀ (x_18 x_19 : List RoomR) (x_20 : Int) (x_21 : Bool), inv_1 x_18 x_19 x_20 x_21 → (decide ((↑x_18.length : Int) > (1 : Int)) = true → (decide (x_20 > (1000000 : Int)) = false → (decide ((↑x_18.length : Int) > (4000 : Int)) = true →
  ((0 : Int) ≤ (0 : Int) ∧ (0 : Int) < (↑x_18.length : Int)) ∧ ∀ (c : Nat), (x_18.getD (Int.toNat (0 : Int)) (RoomR.mk [] (0 : Nat) false)).m ≤ c → (x_18.getD (Int.toNat (0 : Int)) (RoomR.mk [] (0 : Nat) false)).ys.length ≤ c → LenOk c →
  ((x_18.getD (Int.toNat (0 : Int)) (RoomR.mk [] (0 : Nat) false)).full = true → (x_18.getD (Int.toNat (0 : Int)) (RoomR.mk [] (0 : Nat) false)).ys.length = c) → ((0 : Int) ≤ (0 : Int) ∧ (0 : Int) < (↑x_19.length : Int)) ∧ ∀ (c_1 : Nat),
  (x_19.getD (Int.toNat (0 : Int)) (RoomR.mk [] (0 : Nat) false)).m ≤ c_1 → (x_19.getD (Int.toNat (0 : Int)) (RoomR.mk [] (0 : Nat) false)).ys.length ≤ c_1 → LenOk c_1 → ((x_19.getD (Int.toNat (0 : Int)) (RoomR.mk [] (0 : Nat) false)).full =
  true → (x_19.getD (Int.toNat (0 : Int)) (RoomR.mk [] (0 : Nat) false)).ys.length = c_1) → (x_21 = false → ((0 : Int) ≤ (0 : Int) ∧ (0 : Int) < (↑x_18.length : Int)) ∧ Int.toNat (0 : Int) = Int.toNat (0 : Int) ∧ ((0 : Int) ≤ (0 : Int) ∧ (0 :
  Int) < (↑x_19.length : Int)) ∧ Int.toNat (0 : Int) = Int.toNat (0 : Int) ∧ ((x_18.getD (Int.toNat (0 : Int)) (RoomR.mk [] (0 : Nat) false)).m ≤ (x_18.getD (Int.toNat (0 : Int)) (RoomR.mk [] (0 : Nat) false)).ys.length ∧ (x_19.getD
  (Int.toNat (0 : Int)) (RoomR.mk [] (0 : Nat) false)).m ≤ (x_19.getD (Int.toNat (0 : Int)) (RoomR.mk [] (0 : Nat) false)).ys.length) ∧ ((0 : Int) ≤ (0 : Int) ∧ (0 : Int) < (↑x_18.length : Int)) ∧ Int.toNat (0 : Int) = Int.toNat (0 : Int) ∧
  ((0 : Int) ≤ (1 : Int) ∧ (1 : Int) < (↑(x_18.set (Int.toNat (0 : Int)) (RoomR.mk (x_18.getD (Int.toNat (0 : Int)) (RoomR.mk [] (0 : Nat) false)).ys (x_18.getD (Int.toNat (0 : Int)) (RoomR.mk [] (0 : Nat) false)).m (decide ((x_18.getD
  (Int.toNat (0 : Int)) (RoomR.mk [] (0 : Nat) false)).ys.length = c)))).length : Int)) ∧ ((0 : Int) ≤ (1 : Int) ∧ (1 : Int) < (↑(x_19.set (Int.toNat (0 : Int)) (RoomR.mk (x_19.getD (Int.toNat (0 : Int)) (RoomR.mk [] (0 : Nat) false)).ys
  (x_19.getD (Int.toNat (0 : Int)) (RoomR.mk [] (0 : Nat) false)).m (decide ((x_19.getD (Int.toNat (0 : Int)) (RoomR.mk [] (0 : Nat) false)).ys.length = c_1)))).length : Int)) ∧ ((x = x ∧ x = x ∧ (wrap (wrap (x_20 - (↑c : Int)) - (1 : Int)) =
  wrap (wrap (x_20 - (↑c : Int)) - (1 : Int)) ∧ (!same (List.take (x_18.getD (Int.toNat (0 : Int)) (RoomR.mk [] (0 : Nat) false)).m (x_18.getD (Int.toNat (0 : Int)) (RoomR.mk [] (0 : Nat) false)).ys) (List.take (x_19.getD (Int.toNat (0 :
  Int)) (RoomR.mk [] (0 : Nat) false)).m (x_19.getD (Int.toNat (0 : Int)) (RoomR.mk [] (0 : Nat) false)).ys)) = !same (List.take (x_18.getD (Int.toNat (0 : Int)) (RoomR.mk [] (0 : Nat) false)).m (x_18.getD (Int.toNat (0 : Int)) (RoomR.mk []
  (0 : Nat) false)).ys) (List.take (x_19.getD (Int.toNat (0 : Int)) (RoomR.mk [] (0 : Nat) false)).m (x_19.getD (Int.toNat (0 : Int)) (RoomR.mk [] (0 : Nat) false)).ys)) ∧ x = x) ∧ fw x.toNat x_1 = fw x.toNat x_1 ∧ List.drop (Int.toNat (1 :
  Int)) (x_19.set (Int.toNat (0 : Int)) (RoomR.mk (x_19.getD (Int.toNat (0 : Int)) (RoomR.mk [] (0 : Nat) false)).ys (x_19.getD (Int.toNat (0 : Int)) (RoomR.mk [] (0 : Nat) false)).m (decide ((x_19.getD (Int.toNat (0 : Int)) (RoomR.mk [] (0 :
  Nat) false)).ys.length = c_1)))) = List.drop (Int.toNat (1 : Int)) (x_19.set (Int.toNat (0 : Int)) (RoomR.mk (x_19.getD (Int.toNat (0 : Int)) (RoomR.mk [] (0 : Nat) false)).ys (x_19.getD (Int.toNat (0 : Int)) (RoomR.mk [] (0 : Nat)
  false)).m (decide ((x_19.getD (Int.toNat (0 : Int)) (RoomR.mk [] (0 : Nat) false)).ys.length = c_1)))) ∧ List.drop (Int.toNat (1 : Int)) (x_18.set (Int.toNat (0 : Int)) (RoomR.mk (x_18.getD (Int.toNat (0 : Int)) (RoomR.mk [] (0 : Nat)
  false)).ys (x_18.getD (Int.toNat (0 : Int)) (RoomR.mk [] (0 : Nat) false)).m (decide ((x_18.getD (Int.toNat (0 : Int)) (RoomR.mk [] (0 : Nat) false)).ys.length = c)))) = List.drop (Int.toNat (1 : Int)) (x_18.set (Int.toNat (0 : Int))
  (RoomR.mk (x_18.getD (Int.toNat (0 : Int)) (RoomR.mk [] (0 : Nat) false)).ys (x_18.getD (Int.toNat (0 : Int)) (RoomR.mk [] (0 : Nat) false)).m (decide ((x_18.getD (Int.toNat (0 : Int)) (RoomR.mk [] (0 : Nat) false)).ys.length = c)))) ∧ x_1
  = x_1 ∧ x_1 = x_1) ∧ inv_1 (List.drop (Int.toNat (1 : Int)) (x_18.set (Int.toNat (0 : Int)) (RoomR.mk (x_18.getD (Int.toNat (0 : Int)) (RoomR.mk [] (0 : Nat) false)).ys (x_18.getD (Int.toNat (0 : Int)) (RoomR.mk [] (0 : Nat) false)).m
  (decide ((x_18.getD (Int.toNat (0 : Int)) (RoomR.mk [] (0 : Nat) false)).ys.length = c))))) (List.drop (Int.toNat (1 : Int)) (x_19.set (Int.toNat (0 : Int)) (RoomR.mk (x_19.getD (Int.toNat (0 : Int)) (RoomR.mk [] (0 : Nat) false)).ys
  (x_19.getD (Int.toNat (0 : Int)) (RoomR.mk [] (0 : Nat) false)).m (decide ((x_19.getD (Int.toNat (0 : Int)) (RoomR.mk [] (0 : Nat) false)).ys.length = c_1))))) (wrap (wrap (x_20 - (↑c : Int)) - (1 : Int))) !same (List.take (x_18.getD
  (Int.toNat (0 : Int)) (RoomR.mk [] (0 : Nat) false)).m (x_18.getD (Int.toNat (0 : Int)) (RoomR.mk [] (0 : Nat) false)).ys) (List.take (x_19.getD (Int.toNat (0 : Int)) (RoomR.mk [] (0 : Nat) false)).m (x_19.getD (Int.toNat (0 : Int))
  (RoomR.mk [] (0 : Nat) false)).ys) ∧ (μ (List.drop (Int.toNat (1 : Int)) (x_18.set (Int.toNat (0 : Int)) (RoomR.mk (x_18.getD (Int.toNat (0 : Int)) (RoomR.mk [] (0 : Nat) false)).ys (x_18.getD (Int.toNat (0 : Int)) (RoomR.mk [] (0 : Nat)
  false)).m (decide ((x_18.getD (Int.toNat (0 : Int)) (RoomR.mk [] (0 : Nat) false)).ys.length = c))))) (List.drop (Int.toNat (1 : Int)) (x_19.set (Int.toNat (0 : Int)) (RoomR.mk (x_19.getD (Int.toNat (0 : Int)) (RoomR.mk [] (0 : Nat)
  false)).ys (x_19.getD (Int.toNat (0 : Int)) (RoomR.mk [] (0 : Nat) false)).m (decide ((x_19.getD (Int.toNat (0 : Int)) (RoomR.mk [] (0 : Nat) false)).ys.length = c_1))))) (wrap (wrap (x_20 - (↑c : Int)) - (1 : Int))) !same (List.take
  (x_18.getD (Int.toNat (0 : Int)) (RoomR.mk [] (0 : Nat) false)).m (x_18.getD (Int.toNat (0 : Int)) (RoomR.mk [] (0 : Nat) false)).ys) (List.take (x_19.getD (Int.toNat (0 : Int)) (RoomR.mk [] (0 : Nat) false)).m (x_19.getD (Int.toNat (0 :
  Int)) (RoomR.mk [] (0 : Nat) false)).ys)) < μ x_18 x_19 x_20 x_21) ∧ (x_21 = !false → ((0 : Int) ≤ (0 : Int) ∧ (0 : Int) < (↑x_18.length : Int)) ∧ Int.toNat (0 : Int) = Int.toNat (0 : Int) ∧ ((0 : Int) ≤ (1 : Int) ∧ (1 : Int) < (↑(x_18.set
  (Int.toNat (0 : Int)) (RoomR.mk (x_18.getD (Int.toNat (0 : Int)) (RoomR.mk [] (0 : Nat) false)).ys (x_18.getD (Int.toNat (0 : Int)) (RoomR.mk [] (0 : Nat) false)).m (decide ((x_18.getD (Int.toNat (0 : Int)) (RoomR.mk [] (0 : Nat)
  false)).ys.length = c)))).length : Int)) ∧ ((0 : Int) ≤ (1 : Int) ∧ (1 : Int) < (↑(x_19.set (Int.toNat (0 : Int)) (RoomR.mk (x_19.getD (Int.toNat (0 : Int)) (RoomR.mk [] (0 : Nat) false)).ys (x_19.getD (Int.toNat (0 : Int)) (RoomR.mk [] (0
  : Nat) false)).m (decide ((x_19.getD (Int.toNat (0 : Int)) (RoomR.mk [] (0 : Nat) false)).ys.length = c_1)))).length : Int)) ∧ ((x = x ∧ x = x ∧ (wrap (wrap (x_20 - (↑c : Int)) - (1 : Int)) = wrap (wrap (x_20 - (↑c : Int)) - (1 : Int)) ∧
  true = true) ∧ x = x) ∧ fw x.toNat x_1 = fw x.toNat x_1 ∧ List.drop (Int.toNat (1 : Int)) (x_19.set (Int.toNat (0 : Int)) (RoomR.mk (x_19.getD (Int.toNat (0 : Int)) (RoomR.mk [] (0 : Nat) false)).ys (x_19.getD (Int.toNat (0 : Int))
  (RoomR.mk [] (0 : Nat) false)).m (decide ((x_19.getD (Int.toNat (0 : Int)) (RoomR.mk [] (0 : Nat) false)).ys.length = c_1)))) = List.drop (Int.toNat (1 : Int)) (x_19.set (Int.toNat (0 : Int)) (RoomR.mk (x_19.getD (Int.toNat (0 : Int))
  (RoomR.mk [] (0 : Nat) false)).ys (x_19.getD (Int.toNat (0 : Int)) (RoomR.mk [] (0 : Nat) false)).m (decide ((x_19.getD (Int.toNat (0 : Int)) (RoomR.mk [] (0 : Nat) false)).ys.length = c_1)))) ∧ List.drop (Int.toNat (1 : Int)) (x_18.set
  (Int.toNat (0 : Int)) (RoomR.mk (x_18.getD (Int.toNat (0 : Int)) (RoomR.mk [] (0 : Nat) false)).ys (x_18.getD (Int.toNat (0 : Int)) (RoomR.mk [] (0 : Nat) false)).m (decide ((x_18.getD (Int.toNat (0 : Int)) (RoomR.mk [] (0 : Nat)
  false)).ys.length = c)))) = List.drop (Int.toNat (1 : Int)) (x_18.set (Int.toNat (0 : Int)) (RoomR.mk (x_18.getD (Int.toNat (0 : Int)) (RoomR.mk [] (0 : Nat) false)).ys (x_18.getD (Int.toNat (0 : Int)) (RoomR.mk [] (0 : Nat) false)).m
  (decide ((x_18.getD (Int.toNat (0 : Int)) (RoomR.mk [] (0 : Nat) false)).ys.length = c)))) ∧ x_1 = x_1 ∧ x_1 = x_1) ∧ inv_1 (List.drop (Int.toNat (1 : Int)) (x_18.set (Int.toNat (0 : Int)) (RoomR.mk (x_18.getD (Int.toNat (0 : Int))
  (RoomR.mk [] (0 : Nat) false)).ys (x_18.getD (Int.toNat (0 : Int)) (RoomR.mk [] (0 : Nat) false)).m (decide ((x_18.getD (Int.toNat (0 : Int)) (RoomR.mk [] (0 : Nat) false)).ys.length = c))))) (List.drop (Int.toNat (1 : Int)) (x_19.set
  (Int.toNat (0 : Int)) (RoomR.mk (x_19.getD (Int.toNat (0 : Int)) (RoomR.mk [] (0 : Nat) false)).ys (x_19.getD (Int.toNat (0 : Int)) (RoomR.mk [] (0 : Nat) false)).m (decide ((x_19.getD (Int.toNat (0 : Int)) (RoomR.mk [] (0 : Nat)
  false)).ys.length = c_1))))) (wrap (wrap (x_20 - (↑c : Int)) - (1 : Int))) true ∧ μ (List.drop (Int.toNat (1 : Int)) (x_18.set (Int.toNat (0 : Int)) (RoomR.mk (x_18.getD (Int.toNat (0 : Int)) (RoomR.mk [] (0 : Nat) false)).ys (x_18.getD
  (Int.toNat (0 : Int)) (RoomR.mk [] (0 : Nat) false)).m (decide ((x_18.getD (Int.toNat (0 : Int)) (RoomR.mk [] (0 : Nat) false)).ys.length = c))))) (List.drop (Int.toNat (1 : Int)) (x_19.set (Int.toNat (0 : Int)) (RoomR.mk (x_19.getD
  (Int.toNat (0 : Int)) (RoomR.mk [] (0 : Nat) false)).ys (x_19.getD (Int.toNat (0 : Int)) (RoomR.mk [] (0 : Nat) false)).m (decide ((x_19.getD (Int.toNat (0 : Int)) (RoomR.mk [] (0 : Nat) false)).ys.length = c_1))))) (wrap (wrap (x_20 - (↑c
  : Int)) - (1 : Int))) true < μ x_18 x_19 x_20 x_21)) ∧ (decide ((↑x_18.length : Int) > (4000 : Int)) = false → ((x = x ∧ x = x ∧ (x_20 = x_20 ∧ x_21 = x_21) ∧ x = x) ∧ fw x.toNat x_1 = fw x.toNat x_1 ∧ x_19 = x_19 ∧ x_18 = x_18 ∧ x_1 = x_1
  ∧ x_1 = x_1) ∧ inv x_18 x_19 x_20 x_21)) ∧ (decide (x_20 > (1000000 : Int)) = !false → ((0 : Int) ≤ (0 : Int) ∧ (0 : Int) < (↑x_18.length : Int)) ∧ ∀ (c : Nat), (x_18.getD (Int.toNat (0 : Int)) (RoomR.mk [] (0 : Nat) false)).m ≤ c →
  (x_18.getD (Int.toNat (0 : Int)) (RoomR.mk [] (0 : Nat) false)).ys.length ≤ c → LenOk c → ((x_18.getD (Int.toNat (0 : Int)) (RoomR.mk [] (0 : Nat) false)).full = true → (x_18.getD (Int.toNat (0 : Int)) (RoomR.mk [] (0 : Nat)
  false)).ys.length = c) → ((0 : Int) ≤ (0 : Int) ∧ (0 : Int) < (↑x_19.length : Int)) ∧ ∀ (c_1 : Nat), (x_19.getD (Int.toNat (0 : Int)) (RoomR.mk [] (0 : Nat) false)).m ≤ c_1 → (x_19.getD (Int.toNat (0 : Int)) (RoomR.mk [] (0 : Nat)
  false)).ys.length ≤ c_1 → LenOk c_1 → ((x_19.getD (Int.toNat (0 : Int)) (RoomR.mk [] (0 : Nat) false)).full = true → (x_19.getD (Int.toNat (0 : Int)) (RoomR.mk [] (0 : Nat) false)).ys.length = c_1) → (x_21 = false → ((0 : Int) ≤ (0 : Int) ∧
  (0 : Int) < (↑x_18.length : Int)) ∧ Int.toNat (0 : Int) = Int.toNat (0 : Int) ∧ ((0 : Int) ≤ (0 : Int) ∧ (0 : Int) < (↑x_19.length : Int)) ∧ Int.toNat (0 : Int) = Int.toNat (0 : Int) ∧ ((x_18.getD (Int.toNat (0 : Int)) (RoomR.mk [] (0 :
  Nat) false)).m ≤ (x_18.getD (Int.toNat (0 : Int)) (RoomR.mk [] (0 : Nat) false)).ys.length ∧ (x_19.getD (Int.toNat (0 : Int)) (RoomR.mk [] (0 : Nat) false)).m ≤ (x_19.getD (Int.toNat (0 : Int)) (RoomR.mk [] (0 : Nat) false)).ys.length) ∧
  ((0 : Int) ≤ (0 : Int) ∧ (0 : Int) < (↑x_18.length : Int)) ∧ Int.toNat (0 : Int) = Int.toNat (0 : Int) ∧ ((0 : Int) ≤ (1 : Int) ∧ (1 : Int) < (↑(x_18.set (Int.toNat (0 : Int)) (RoomR.mk (x_18.getD (Int.toNat (0 : Int)) (RoomR.mk [] (0 :
  Nat) false)).ys (x_18.getD (Int.toNat (0 : Int)) (RoomR.mk [] (0 : Nat) false)).m (decide ((x_18.getD (Int.toNat (0 : Int)) (RoomR.mk [] (0 : Nat) false)).ys.length = c)))).length : Int)) ∧ ((0 : Int) ≤ (1 : Int) ∧ (1 : Int) < (↑(x_19.set
  (Int.toNat (0 : Int)) (RoomR.mk (x_19.getD (Int.toNat (0 : Int)) (RoomR.mk [] (0 : Nat) false)).ys (x_19.getD (Int.toNat (0 : Int)) (RoomR.mk [] (0 : Nat) false)).m (decide ((x_19.getD (Int.toNat (0 : Int)) (RoomR.mk [] (0 : Nat)
  false)).ys.length = c_1)))).length : Int)) ∧ ((x = x ∧ x = x ∧ (wrap (wrap (x_20 - (↑c : Int)) - (1 : Int)) = wrap (wrap (x_20 - (↑c : Int)) - (1 : Int)) ∧ (!same (List.take (x_18.getD (Int.toNat (0 : Int)) (RoomR.mk [] (0 : Nat) false)).m
  (x_18.getD (Int.toNat (0 : Int)) (RoomR.mk [] (0 : Nat) false)).ys) (List.take (x_19.getD (Int.toNat (0 : Int)) (RoomR.mk [] (0 : Nat) false)).m (x_19.getD (Int.toNat (0 : Int)) (RoomR.mk [] (0 : Nat) false)).ys)) = !same (List.take
  (x_18.getD (Int.toNat (0 : Int)) (RoomR.mk [] (0 : Nat) false)).m (x_18.getD (Int.toNat (0 : Int)) (RoomR.mk [] (0 : Nat) false)).ys) (List.take (x_19.getD (Int.toNat (0 : Int)) (RoomR.mk [] (0 : Nat) false)).m (x_19.getD (Int.toNat (0 :
  Int)) (RoomR.mk [] (0 : Nat) false)).ys)) ∧ x = x) ∧ fw x.toNat x_1 = fw x.toNat x_1 ∧ List.drop (Int.toNat (1 : Int)) (x_19.set (Int.toNat (0 : Int)) (RoomR.mk (x_19.getD (Int.toNat (0 : Int)) (RoomR.mk [] (0 : Nat) false)).ys (x_19.getD
  (Int.toNat (0 : Int)) (RoomR.mk [] (0 : Nat) false)).m (decide ((x_19.getD (Int.toNat (0 : Int)) (RoomR.mk [] (0 : Nat) false)).ys.length = c_1)))) = List.drop (Int.toNat (1 : Int)) (x_19.set (Int.toNat (0 : Int)) (RoomR.mk (x_19.getD
  (Int.toNat (0 : Int)) (RoomR.mk [] (0 : Nat) false)).ys (x_19.getD (Int.toNat (0 : Int)) (RoomR.mk [] (0 : Nat) false)).m (decide ((x_19.getD (Int.toNat (0 : Int)) (RoomR.mk [] (0 : Nat) false)).ys.length = c_1)))) ∧ List.drop (Int.toNat (1
  : Int)) (x_18.set (Int.toNat (0 : Int)) (RoomR.mk (x_18.getD (Int.toNat (0 : Int)) (RoomR.mk [] (0 : Nat) false)).ys (x_18.getD (Int.toNat (0 : Int)) (RoomR.mk [] (0 : Nat) false)).m (decide ((x_18.getD (Int.toNat (0 : Int)) (RoomR.mk [] (0
  : Nat) false)).ys.length = c)))) = List.drop (Int.toNat (1 : Int)) (x_18.set (Int.toNat (0 : Int)) (RoomR.mk (x_18.getD (Int.toNat (0 : Int)) (RoomR.mk [] (0 : Nat) false)).ys (x_18.getD (Int.toNat (0 : Int)) (RoomR.mk [] (0 : Nat)
  false)).m (decide ((x_18.getD (Int.toNat (0 : Int)) (RoomR.mk [] (0 : Nat) false)).ys.length = c)))) ∧ x_1 = x_1 ∧ x_1 = x_1) ∧ inv_1 (List.drop (Int.toNat (1 : Int)) (x_18.set (Int.toNat (0 : Int)) (RoomR.mk (x_18.getD (Int.toNat (0 :
  Int)) (RoomR.mk [] (0 : Nat) false)).ys (x_18.getD (Int.toNat (0 : Int)) (RoomR.mk [] (0 : Nat) false)).m (decide ((x_18.getD (Int.toNat (0 : Int)) (RoomR.mk [] (0 : Nat) false)).ys.length = c))))) (List.drop (Int.toNat (1 : Int)) (x_19.set
  (Int.toNat (0 : Int)) (RoomR.mk (x_19.getD (Int.toNat (0 : Int)) (RoomR.mk [] (0 : Nat) false)).ys (x_19.getD (Int.toNat (0 : Int)) (RoomR.mk [] (0 : Nat) false)).m (decide ((x_19.getD (Int.toNat (0 : Int)) (RoomR.mk [] (0 : Nat)
  false)).ys.length = c_1))))) (wrap (wrap (x_20 - (↑c : Int)) - (1 : Int))) !same (List.take (x_18.getD (Int.toNat (0 : Int)) (RoomR.mk [] (0 : Nat) false)).m (x_18.getD (Int.toNat (0 : Int)) (RoomR.mk [] (0 : Nat) false)).ys) (List.take
  (x_19.getD (Int.toNat (0 : Int)) (RoomR.mk [] (0 : Nat) false)).m (x_19.getD (Int.toNat (0 : Int)) (RoomR.mk [] (0 : Nat) false)).ys) ∧ (μ (List.drop (Int.toNat (1 : Int)) (x_18.set (Int.toNat (0 : Int)) (RoomR.mk (x_18.getD (Int.toNat (0 :
  Int)) (RoomR.mk [] (0 : Nat) false)).ys (x_18.getD (Int.toNat (0 : Int)) (RoomR.mk [] (0 : Nat) false)).m (decide ((x_18.getD (Int.toNat (0 : Int)) (RoomR.mk [] (0 : Nat) false)).ys.length = c))))) (List.drop (Int.toNat (1 : Int)) (x_19.set
  (Int.toNat (0 : Int)) (RoomR.mk (x_19.getD (Int.toNat (0 : Int)) (RoomR.mk [] (0 : Nat) false)).ys (x_19.getD (Int.toNat (0 : Int)) (RoomR.mk [] (0 : Nat) false)).m (decide ((x_19.getD (Int.toNat (0 : Int)) (RoomR.mk [] (0 : Nat)
  false)).ys.length = c_1))))) (wrap (wrap (x_20 - (↑c : Int)) - (1 : Int))) !same (List.take (x_18.getD (Int.toNat (0 : Int)) (RoomR.mk [] (0 : Nat) false)).m (x_18.getD (Int.toNat (0 : Int)) (RoomR.mk [] (0 : Nat) false)).ys) (List.take
  (x_19.getD (Int.toNat (0 : Int)) (RoomR.mk [] (0 : Nat) false)).m (x_19.getD (Int.toNat (0 : Int)) (RoomR.mk [] (0 : Nat) false)).ys)) < μ x_18 x_19 x_20 x_21) ∧ (x_21 = !false → ((0 : Int) ≤ (0 : Int) ∧ (0 : Int) < (↑x_18.length : Int)) ∧
  Int.toNat (0 : Int) = Int.toNat (0 : Int) ∧ ((0 : Int) ≤ (1 : Int) ∧ (1 : Int) < (↑(x_18.set (Int.toNat (0 : Int)) (RoomR.mk (x_18.getD (Int.toNat (0 : Int)) (RoomR.mk [] (0 : Nat) false)).ys (x_18.getD (Int.toNat (0 : Int)) (RoomR.mk [] (0
  : Nat) false)).m (decide ((x_18.getD (Int.toNat (0 : Int)) (RoomR.mk [] (0 : Nat) false)).ys.length = c)))).length : Int)) ∧ ((0 : Int) ≤ (1 : Int) ∧ (1 : Int) < (↑(x_19.set (Int.toNat (0 : Int)) (RoomR.mk (x_19.getD (Int.toNat (0 : Int))
  (RoomR.mk [] (0 : Nat) false)).ys (x_19.getD (Int.toNat (0 : Int)) (RoomR.mk [] (0 : Nat) false)).m (decide ((x_19.getD (Int.toNat (0 : Int)) (RoomR.mk [] (0 : Nat) false)).ys.length = c_1)))).length : Int)) ∧ ((x = x ∧ x = x ∧ (wrap (wrap
  (x_20 - (↑c : Int)) - (1 : Int)) = wrap (wrap (x_20 - (↑c : Int)) - (1 : Int)) ∧ true = true) ∧ x = x) ∧ fw x.toNat x_1 = fw x.toNat x_1 ∧ List.drop (Int.toNat (1 : Int)) (x_19.set (Int.toNat (0 : Int)) (RoomR.mk (x_19.getD (Int.toNat (0 :
  Int)) (RoomR.mk [] (0 : Nat) false)).ys (x_19.getD (Int.toNat (0 : Int)) (RoomR.mk [] (0 : Nat) false)).m (decide ((x_19.getD (Int.toNat (0 : Int)) (RoomR.mk [] (0 : Nat) false)).ys.length = c_1)))) = List.drop (Int.toNat (1 : Int))
  (x_19.set (Int.toNat (0 : Int)) (RoomR.mk (x_19.getD (Int.toNat (0 : Int)) (RoomR.mk [] (0 : Nat) false)).ys (x_19.getD (Int.toNat (0 : Int)) (RoomR.mk [] (0 : Nat) false)).m (decide ((x_19.getD (Int.toNat (0 : Int)) (RoomR.mk [] (0 : Nat)
  false)).ys.length = c_1)))) ∧ List.drop (Int.toNat (1 : Int)) (x_18.set (Int.toNat (0 : Int)) (RoomR.mk (x_18.getD (Int.toNat (0 : Int)) (RoomR.mk [] (0 : Nat) false)).ys (x_18.getD (Int.toNat (0 : Int)) (RoomR.mk [] (0 : Nat) false)).m
  (decide ((x_18.getD (Int.toNat (0 : Int)) (RoomR.mk [] (0 : Nat) false)).ys.length = c)))) = List.drop (Int.toNat (1 : Int)) (x_18.set (Int.toNat (0 : Int)) (RoomR.mk (x_18.getD (Int.toNat (0 : Int)) (RoomR.mk [] (0 : Nat) false)).ys
  (x_18.getD (Int.toNat (0 : Int)) (RoomR.mk [] (0 : Nat) false)).m (decide ((x_18.getD (Int.toNat (0 : Int)) (RoomR.mk [] (0 : Nat) false)).ys.length = c)))) ∧ x_1 = x_1 ∧ x_1 = x_1) ∧ inv_1 (List.drop (Int.toNat (1 : Int)) (x_18.set
  (Int.toNat (0 : Int)) (RoomR.mk (x_18.getD (Int.toNat (0 : Int)) (RoomR.mk [] (0 : Nat) false)).ys (x_18.getD (Int.toNat (0 : Int)) (RoomR.mk [] (0 : Nat) false)).m (decide ((x_18.getD (Int.toNat (0 : Int)) (RoomR.mk [] (0 : Nat)
  false)).ys.length = c))))) (List.drop (Int.toNat (1 : Int)) (x_19.set (Int.toNat (0 : Int)) (RoomR.mk (x_19.getD (Int.toNat (0 : Int)) (RoomR.mk [] (0 : Nat) false)).ys (x_19.getD (Int.toNat (0 : Int)) (RoomR.mk [] (0 : Nat) false)).m
  (decide ((x_19.getD (Int.toNat (0 : Int)) (RoomR.mk [] (0 : Nat) false)).ys.length = c_1))))) (wrap (wrap (x_20 - (↑c : Int)) - (1 : Int))) true ∧ μ (List.drop (Int.toNat (1 : Int)) (x_18.set (Int.toNat (0 : Int)) (RoomR.mk (x_18.getD
  (Int.toNat (0 : Int)) (RoomR.mk [] (0 : Nat) false)).ys (x_18.getD (Int.toNat (0 : Int)) (RoomR.mk [] (0 : Nat) false)).m (decide ((x_18.getD (Int.toNat (0 : Int)) (RoomR.mk [] (0 : Nat) false)).ys.length = c))))) (List.drop (Int.toNat (1 :
  Int)) (x_19.set (Int.toNat (0 : Int)) (RoomR.mk (x_19.getD (Int.toNat (0 : Int)) (RoomR.mk [] (0 : Nat) false)).ys (x_19.getD (Int.toNat (0 : Int)) (RoomR.mk [] (0 : Nat) false)).m (decide ((x_19.getD (Int.toNat (0 : Int)) (RoomR.mk [] (0 :
  Nat) false)).ys.length = c_1))))) (wrap (wrap (x_20 - (↑c : Int)) - (1 : Int))) true < μ x_18 x_19 x_20 x_21))) ∧ (decide ((↑x_18.length : Int) > (1 : Int)) = !true → ((x = x ∧ x = x ∧ (x_20 = x_20 ∧ x_21 = x_21) ∧ x = x) ∧ fw x.toNat x_1 =
  fw x.toNat x_1 ∧ x_19 = x_19 ∧ x_18 = x_18 ∧ x_1 = x_1 ∧ x_1 = x_1) ∧ inv x_18 x_19 x_20 x_21)) ∧ ∀ (x_16 x_17 : List RoomR) (x_18 : Int) (x_19 : Bool), inv x_16 x_17 x_18 x_19 → ∃ (inv : List RoomR → List RoomR → Int → Bool → Prop), ((∀
  (x_21 : MapD), some (MapD.mk x (fw x.toNat x_1)) = some x_21 → MapOk x_21) ∧ ∀ (c : Nat), (times (some (MapD.mk x (fw x.toNat x_1)))).length ≤ c → LenOk c → (x_16.length + (1 : Nat)) * (24 : Nat) ≤ (140737488355328 : Nat) ∧ ((times (some
  (MapD.mk x (fw x.toNat x_1)))).length ≤ (times (some (MapD.mk x (fw x.toNat x_1)))).length ∧ (times (some (MapD.mk x (fw x.toNat x_1)))).length * ((8 : Nat) * (1 : Nat)) ≤ (140737488355328 : Nat)) ∧ (x_17.length + (1 : Nat)) * (24 : Nat) ≤
  (140737488355328 : Nat) ∧ ∃ (inv_1 : List RoomR → List RoomR → Int → Bool → Prop), ∃ (μ : List RoomR → List RoomR → Int → Bool → Nat), (((x = x ∧ x = x ∧ (wrap (wrap (x_18 + (↑c : Int)) + (1 : Int)) = wrap (wrap (x_18 + (↑c : Int)) + (1 :
  Int)) ∧ x_19 = x_19) ∧ x = x) ∧ fw x.toNat x_1 = fw x.toNat x_1 ∧ x_17 ++ [RoomR.mk (List.take (times (some (MapD.mk x (fw x.toNat x_1)))).length (times (some (MapD.mk x (fw x.toNat x_1))))) (List.take (times (some (MapD.mk x (fw x.toNat
  x_1)))).length (times (some (MapD.mk x (fw x.toNat x_1))))).length false] = x_17 ++ [RoomR.mk (List.take (times (some (MapD.mk x (fw x.toNat x_1)))).length (times (some (MapD.mk x (fw x.toNat x_1))))) (List.take (times (some (MapD.mk x (fw
  x.toNat x_1)))).length (times (some (MapD.mk x (fw x.toNat x_1))))).length false] ∧ (x_16 ++ [RoomR.mk [] (times (some (MapD.mk x (fw x.toNat x_1)))).length false]).set x_16.length (RoomR.mk (times (some (MapD.mk x (fw x.toNat x_1))))
  (times (some (MapD.mk x (fw x.toNat x_1)))).length (decide ((times (some (MapD.mk x (fw x.toNat x_1)))).length = c))) = (x_16 ++ [RoomR.mk [] (times (some (MapD.mk x (fw x.toNat x_1)))).length false]).set x_16.length (RoomR.mk (times (some
  (MapD.mk x (fw x.toNat x_1)))) (times (some (MapD.mk x (fw x.toNat x_1)))).length (decide ((times (some (MapD.mk x (fw x.toNat x_1)))).length = c))) ∧ x_1 = x_1 ∧ x_1 = x_1) ∧ inv_1 ((x_16 ++ [RoomR.mk [] (times (some (MapD.mk x (fw x.toNat
  x_1)))).length false]).set x_16.length (RoomR.mk (times (some (MapD.mk x (fw x.toNat x_1)))) (times (some (MapD.mk x (fw x.toNat x_1)))).length (decide ((times (some (MapD.mk x (fw x.toNat x_1)))).length = c)))) (x_17 ++ [RoomR.mk
  (List.take (times (some (MapD.mk x (fw x.toNat x_1)))).length (times (some (MapD.mk x (fw x.toNat x_1))))) (List.take (times (some (MapD.mk x (fw x.toNat x_1)))).length (times (some (MapD.mk x (fw x.toNat x_1))))).length false]) (wrap (wrap
  (x_18 + (↑c : Int)) + (1 : Int))) x_19) ∧ ∀ (x_23 x_24 : List RoomR) (x_25 : Int) (x_26 : Bool), inv_1 x_23 x_24 x_25 x_26 → (decide ((↑x_23.length : Int) > (1 : Int)) = true → (decide (x_25 > (1000000 : Int)) = false → (decide
  ((↑x_23.length : Int) > (4000 : Int)) = true → ((0 : Int) ≤ (0 : Int) ∧ (0 : Int) < (↑x_23.length : Int)) ∧ ∀ (c : Nat), (x_23.getD (Int.toNat (0 : Int)) (RoomR.mk [] (0 : Nat) false)).m ≤ c → (x_23.getD (Int.toNat (0 : Int)) (RoomR.mk []
  (0 : Nat) false)).ys.length ≤ c → LenOk c → ((x_23.getD (Int.toNat (0 : Int)) (RoomR.mk [] (0 : Nat) false)).full = true → (x_23.getD (Int.toNat (0 : Int)) (RoomR.mk [] (0 : Nat) false)).ys.length = c) → ((0 : Int) ≤ (0 : Int) ∧ (0 : Int) <
  (↑x_24.length : Int)) ∧ ∀ (c_1 : Nat), (x_24.getD (Int.toNat (0 : Int)) (RoomR.mk [] (0 : Nat) false)).m ≤ c_1 → (x_24.getD (Int.toNat (0 : Int)) (RoomR.mk [] (0 : Nat) false)).ys.length ≤ c_1 → LenOk c_1 → ((x_24.getD (Int.toNat (0 : Int))
  (RoomR.mk [] (0 : Nat) false)).full = true → (x_24.getD (Int.toNat (0 : Int)) (RoomR.mk [] (0 : Nat) false)).ys.length = c_1) → (x_26 = false → ((0 : Int) ≤ (0 : Int) ∧ (0 : Int) < (↑x_23.length : Int)) ∧ Int.toNat (0 : Int) = Int.toNat (0
  : Int) ∧ ((0 : Int) ≤ (0 : Int) ∧ (0 : Int) < (↑x_24.length : Int)) ∧ Int.toNat (0 : Int) = Int.toNat (0 : Int) ∧ ((x_23.getD (Int.toNat (0 : Int)) (RoomR.mk [] (0 : Nat) false)).m ≤ (x_23.getD (Int.toNat (0 : Int)) (RoomR.mk [] (0 : Nat)
  false)).ys.length ∧ (x_24.getD (Int.toNat (0 : Int)) (RoomR.mk [] (0 : Nat) false)).m ≤ (x_24.getD (Int.toNat (0 : Int)) (RoomR.mk [] (0 : Nat) false)).ys.length) ∧ ((0 : Int) ≤ (0 : Int) ∧ (0 : Int) < (↑x_23.length : Int)) ∧ Int.toNat (0 :
  Int) = Int.toNat (0 : Int) ∧ ((0 : Int) ≤ (1 : Int) ∧ (1 : Int) < (↑(x_23.set (Int.toNat (0 : Int)) (RoomR.mk (x_23.getD (Int.toNat (0 : Int)) (RoomR.mk [] (0 : Nat) false)).ys (x_23.getD (Int.toNat (0 : Int)) (RoomR.mk [] (0 : Nat)
  false)).m (decide ((x_23.getD (Int.toNat (0 : Int)) (RoomR.mk [] (0 : Nat) false)).ys.length = c)))).length : Int)) ∧ ((0 : Int) ≤ (1 : Int) ∧ (1 : Int) < (↑(x_24.set (Int.toNat (0 : Int)) (RoomR.mk (x_24.getD (Int.toNat (0 : Int))
  (RoomR.mk [] (0 : Nat) false)).ys (x_24.getD (Int.toNat (0 : Int)) (RoomR.mk [] (0 : Nat) false)).m (decide ((x_24.getD (Int.toNat (0 : Int)) (RoomR.mk [] (0 : Nat) false)).ys.length = c_1)))).length : Int)) ∧ ((x = x ∧ x = x ∧ (wrap (wrap
  (x_25 - (↑c : Int)) - (1 : Int)) = wrap (wrap (x_25 - (↑c : Int)) - (1 : Int)) ∧ (!same (List.take (x_23.getD (Int.toNat (0 : Int)) (RoomR.mk [] (0 : Nat) false)).m (x_23.getD (Int.toNat (0 : Int)) (RoomR.mk [] (0 : Nat) false)).ys)
  (List.take (x_24.getD (Int.toNat (0 : Int)) (RoomR.mk [] (0 : Nat) false)).m (x_24.getD (Int.toNat (0 : Int)) (RoomR.mk [] (0 : Nat) false)).ys)) = !same (List.take (x_23.getD (Int.toNat (0 : Int)) (RoomR.mk [] (0 : Nat) false)).m
  (x_23.getD (Int.toNat (0 : Int)) (RoomR.mk [] (0 : Nat) false)).ys) (List.take (x_24.getD (Int.toNat (0 : Int)) (RoomR.mk [] (0 : Nat) false)).m (x_24.getD (Int.toNat (0 : Int)) (RoomR.mk [] (0 : Nat) false)).ys)) ∧ x = x) ∧ fw x.toNat x_1
  = fw x.toNat x_1 ∧ List.drop (Int.toNat (1 : Int)) (x_24.set (Int.toNat (0 : Int)) (RoomR.mk (x_24.getD (Int.toNat (0 : Int)) (RoomR.mk [] (0 : Nat) false)).ys (x_24.getD (Int.toNat (0 : Int)) (RoomR.mk [] (0 : Nat) false)).m (decide
  ((x_24.getD (Int.toNat (0 : Int)) (RoomR.mk [] (0 : Nat) false)).ys.length = c_1)))) = List.drop (Int.toNat (1 : Int)) (x_24.set (Int.toNat (0 : Int)) (RoomR.mk (x_24.getD (Int.toNat (0 : Int)) (RoomR.mk [] (0 : Nat) false)).ys (x_24.getD
  (Int.toNat (0 : Int)) (RoomR.mk [] (0 : Nat) false)).m (decide ((x_24.getD (Int.toNat (0 : Int)) (RoomR.mk [] (0 : Nat) false)).ys.length = c_1)))) ∧ List.drop (Int.toNat (1 : Int)) (x_23.set (Int.toNat (0 : Int)) (RoomR.mk (x_23.getD
  (Int.toNat (0 : Int)) (RoomR.mk [] (0 : Nat) false)).ys (x_23.getD (Int.toNat (0 : Int)) (RoomR.mk [] (0 : Nat) false)).m (decide ((x_23.getD (Int.toNat (0 : Int)) (RoomR.mk [] (0 : Nat) false)).ys.length = c)))) = List.drop (Int.toNat (1 :
  Int)) (x_23.set (Int.toNat (0 : Int)) (RoomR.mk (x_23.getD (Int.toNat (0 : Int)) (RoomR.mk [] (0 : Nat) false)).ys (x_23.getD (Int.toNat (0 : Int)) (RoomR.mk [] (0 : Nat) false)).m (decide ((x_23.getD (Int.toNat (0 : Int)) (RoomR.mk [] (0 :
  Nat) false)).ys.length = c)))) ∧ x_1 = x_1 ∧ x_1 = x_1) ∧ inv_1 (List.drop (Int.toNat (1 : Int)) (x_23.set (Int.toNat (0 : Int)) (RoomR.mk (x_23.getD (Int.toNat (0 : Int)) (RoomR.mk [] (0 : Nat) false)).ys (x_23.getD (Int.toNat (0 : Int))
  (RoomR.mk [] (0 : Nat) false)).m (decide ((x_23.getD (Int.toNat (0 : Int)) (RoomR.mk [] (0 : Nat) false)).ys.length = c))))) (List.drop (Int.toNat (1 : Int)) (x_24.set (Int.toNat (0 : Int)) (RoomR.mk (x_24.getD (Int.toNat (0 : Int))
  (RoomR.mk [] (0 : Nat) false)).ys (x_24.getD (Int.toNat (0 : Int)) (RoomR.mk [] (0 : Nat) false)).m (decide ((x_24.getD (Int.toNat (0 : Int)) (RoomR.mk [] (0 : Nat) false)).ys.length = c_1))))) (wrap (wrap (x_25 - (↑c : Int)) - (1 : Int)))
  !same (List.take (x_23.getD (Int.toNat (0 : Int)) (RoomR.mk [] (0 : Nat) false)).m (x_23.getD (Int.toNat (0 : Int)) (RoomR.mk [] (0 : Nat) false)).ys) (List.take (x_24.getD (Int.toNat (0 : Int)) (RoomR.mk [] (0 : Nat) false)).m (x_24.getD
  (Int.toNat (0 : Int)) (RoomR.mk [] (0 : Nat) false)).ys) ∧ (μ (List.drop (Int.toNat (1 : Int)) (x_23.set (Int.toNat (0 : Int)) (RoomR.mk (x_23.getD (Int.toNat (0 : Int)) (RoomR.mk [] (0 : Nat) false)).ys (x_23.getD (Int.toNat (0 : Int))
  (RoomR.mk [] (0 : Nat) false)).m (decide ((x_23.getD (Int.toNat (0 : Int)) (RoomR.mk [] (0 : Nat) false)).ys.length = c))))) (List.drop (Int.toNat (1 : Int)) (x_24.set (Int.toNat (0 : Int)) (RoomR.mk (x_24.getD (Int.toNat (0 : Int))
  (RoomR.mk [] (0 : Nat) false)).ys (x_24.getD (Int.toNat (0 : Int)) (RoomR.mk [] (0 : Nat) false)).m (decide ((x_24.getD (Int.toNat (0 : Int)) (RoomR.mk [] (0 : Nat) false)).ys.length = c_1))))) (wrap (wrap (x_25 - (↑c : Int)) - (1 : Int)))
  !same (List.take (x_23.getD (Int.toNat (0 : Int)) (RoomR.mk [] (0 : Nat) false)).m (x_23.getD (Int.toNat (0 : Int)) (RoomR.mk [] (0 : Nat) false)).ys) (List.take (x_24.getD (Int.toNat (0 : Int)) (RoomR.mk [] (0 : Nat) false)).m (x_24.getD
  (Int.toNat (0 : Int)) (RoomR.mk [] (0 : Nat) false)).ys)) < μ x_23 x_24 x_25 x_26) ∧ (x_26 = !false → ((0 : Int) ≤ (0 : Int) ∧ (0 : Int) < (↑x_23.length : Int)) ∧ Int.toNat (0 : Int) = Int.toNat (0 : Int) ∧ ((0 : Int) ≤ (1 : Int) ∧ (1 :
  Int) < (↑(x_23.set (Int.toNat (0 : Int)) (RoomR.mk (x_23.getD (Int.toNat (0 : Int)) (RoomR.mk [] (0 : Nat) false)).ys (x_23.getD (Int.toNat (0 : Int)) (RoomR.mk [] (0 : Nat) false)).m (decide ((x_23.getD (Int.toNat (0 : Int)) (RoomR.mk []
  (0 : Nat) false)).ys.length = c)))).length : Int)) ∧ ((0 : Int) ≤ (1 : Int) ∧ (1 : Int) < (↑(x_24.set (Int.toNat (0 : Int)) (RoomR.mk (x_24.getD (Int.toNat (0 : Int)) (RoomR.mk [] (0 : Nat) false)).ys (x_24.getD (Int.toNat (0 : Int))
  (RoomR.mk [] (0 : Nat) false)).m (decide ((x_24.getD (Int.toNat (0 : Int)) (RoomR.mk [] (0 : Nat) false)).ys.length = c_1)))).length : Int)) ∧ ((x = x ∧ x = x ∧ (wrap (wrap (x_25 - (↑c : Int)) - (1 : Int)) = wrap (wrap (x_25 - (↑c : Int)) -
  (1 : Int)) ∧ true = true) ∧ x = x) ∧ fw x.toNat x_1 = fw x.toNat x_1 ∧ List.drop (Int.toNat (1 : Int)) (x_24.set (Int.toNat (0 : Int)) (RoomR.mk (x_24.getD (Int.toNat (0 : Int)) (RoomR.mk [] (0 : Nat) false)).ys (x_24.getD (Int.toNat (0 :
  Int)) (RoomR.mk [] (0 : Nat) false)).m (decide ((x_24.getD (Int.toNat (0 : Int)) (RoomR.mk [] (0 : Nat) false)).ys.length = c_1)))) = List.drop (Int.toNat (1 : Int)) (x_24.set (Int.toNat (0 : Int)) (RoomR.mk (x_24.getD (Int.toNat (0 : Int))
  (RoomR.mk [] (0 : Nat) false)).ys (x_24.getD (Int.toNat (0 : Int)) (RoomR.mk [] (0 : Nat) false)).m (decide ((x_24.getD (Int.toNat (0 : Int)) (RoomR.mk [] (0 : Nat) false)).ys.length = c_1)))) ∧ List.drop (Int.toNat (1 : Int)) (x_23.set
  (Int.toNat (0 : Int)) (RoomR.mk (x_23.getD (Int.toNat (0 : Int)) (RoomR.mk [] (0 : Nat) false)).ys (x_23.getD (Int.toNat (0 : Int)) (RoomR.mk [] (0 : Nat) false)).m (decide ((x_23.getD (Int.toNat (0 : Int)) (RoomR.mk [] (0 : Nat)
  false)).ys.length = c)))) = List.drop (Int.toNat (1 : Int)) (x_23.set (Int.toNat (0 : Int)) (RoomR.mk (x_23.getD (Int.toNat (0 : Int)) (RoomR.mk [] (0 : Nat) false)).ys (x_23.getD (Int.toNat (0 : Int)) (RoomR.mk [] (0 : Nat) false)).m
  (decide ((x_23.getD (Int.toNat (0 : Int)) (RoomR.mk [] (0 : Nat) false)).ys.length = c)))) ∧ x_1 = x_1 ∧ x_1 = x_1) ∧ inv_1 (List.drop (Int.toNat (1 : Int)) (x_23.set (Int.toNat (0 : Int)) (RoomR.mk (x_23.getD (Int.toNat (0 : Int))
  (RoomR.mk [] (0 : Nat) false)).ys (x_23.getD (Int.toNat (0 : Int)) (RoomR.mk [] (0 : Nat) false)).m (decide ((x_23.getD (Int.toNat (0 : Int)) (RoomR.mk [] (0 : Nat) false)).ys.length = c))))) (List.drop (Int.toNat (1 : Int)) (x_24.set
  (Int.toNat (0 : Int)) (RoomR.mk (x_24.getD (Int.toNat (0 : Int)) (RoomR.mk [] (0 : Nat) false)).ys (x_24.getD (Int.toNat (0 : Int)) (RoomR.mk [] (0 : Nat) false)).m (decide ((x_24.getD (Int.toNat (0 : Int)) (RoomR.mk [] (0 : Nat)
  false)).ys.length = c_1))))) (wrap (wrap (x_25 - (↑c : Int)) - (1 : Int))) true ∧ μ (List.drop (Int.toNat (1 : Int)) (x_23.set (Int.toNat (0 : Int)) (RoomR.mk (x_23.getD (Int.toNat (0 : Int)) (RoomR.mk [] (0 : Nat) false)).ys (x_23.getD
  (Int.toNat (0 : Int)) (RoomR.mk [] (0 : Nat) false)).m (decide ((x_23.getD (Int.toNat (0 : Int)) (RoomR.mk [] (0 : Nat) false)).ys.length = c))))) (List.drop (Int.toNat (1 : Int)) (x_24.set (Int.toNat (0 : Int)) (RoomR.mk (x_24.getD
  (Int.toNat (0 : Int)) (RoomR.mk [] (0 : Nat) false)).ys (x_24.getD (Int.toNat (0 : Int)) (RoomR.mk [] (0 : Nat) false)).m (decide ((x_24.getD (Int.toNat (0 : Int)) (RoomR.mk [] (0 : Nat) false)).ys.length = c_1))))) (wrap (wrap (x_25 - (↑c
  : Int)) - (1 : Int))) true < μ x_23 x_24 x_25 x_26)) ∧ (decide ((↑x_23.length : Int) > (4000 : Int)) = false → ((x = x ∧ x = x ∧ (x_25 = x_25 ∧ x_26 = x_26) ∧ x = x) ∧ fw x.toNat x_1 = fw x.toNat x_1 ∧ x_24 = x_24 ∧ x_23 = x_23 ∧ x_1 = x_1
  ∧ x_1 = x_1) ∧ inv x_23 x_24 x_25 x_26)) ∧ (decide (x_25 > (1000000 : Int)) = !false → ((0 : Int) ≤ (0 : Int) ∧ (0 : Int) < (↑x_23.length : Int)) ∧ ∀ (c : Nat), (x_23.getD (Int.toNat (0 : Int)) (RoomR.mk [] (0 : Nat) false)).m ≤ c →
  (x_23.getD (Int.toNat (0 : Int)) (RoomR.mk [] (0 : Nat) false)).ys.length ≤ c → LenOk c → ((x_23.getD (Int.toNat (0 : Int)) (RoomR.mk [] (0 : Nat) false)).full = true → (x_23.getD (Int.toNat (0 : Int)) (RoomR.mk [] (0 : Nat)
  false)).ys.length = c) → ((0 : Int) ≤ (0 : Int) ∧ (0 : Int) < (↑x_24.length : Int)) ∧ ∀ (c_1 : Nat), (x_24.getD (Int.toNat (0 : Int)) (RoomR.mk [] (0 : Nat) false)).m ≤ c_1 → (x_24.getD (Int.toNat (0 : Int)) (RoomR.mk [] (0 : Nat)
  false)).ys.length ≤ c_1 → LenOk c_1 → ((x_24.getD (Int.toNat (0 : Int)) (RoomR.mk [] (0 : Nat) false)).full = true → (x_24.getD (Int.toNat (0 : Int)) (RoomR.mk [] (0 : Nat) false)).ys.length = c_1) → (x_26 = false → ((0 : Int) ≤ (0 : Int) ∧
  (0 : Int) < (↑x_23.length : Int)) ∧ Int.toNat (0 : Int) = Int.toNat (0 : Int) ∧ ((0 : Int) ≤ (0 : Int) ∧ (0 : Int) < (↑x_24.length : Int)) ∧ Int.toNat (0 : Int) = Int.toNat (0 : Int) ∧ ((x_23.getD (Int.toNat (0 : Int)) (RoomR.mk [] (0 :
  Nat) false)).m ≤ (x_23.getD (Int.toNat (0 : Int)) (RoomR.mk [] (0 : Nat) false)).ys.length ∧ (x_24.getD (Int.toNat (0 : Int)) (RoomR.mk [] (0 : Nat) false)).m ≤ (x_24.getD (Int.toNat (0 : Int)) (RoomR.mk [] (0 : Nat) false)).ys.length) ∧
  ((0 : Int) ≤ (0 : Int) ∧ (0 : Int) < (↑x_23.length : Int)) ∧ Int.toNat (0 : Int) = Int.toNat (0 : Int) ∧ ((0 : Int) ≤ (1 : Int) ∧ (1 : Int) < (↑(x_23.set (Int.toNat (0 : Int)) (RoomR.mk (x_23.getD (Int.toNat (0 : Int)) (RoomR.mk [] (0 :
  Nat) false)).ys (x_23.getD (Int.toNat (0 : Int)) (RoomR.mk [] (0 : Nat) false)).m (decide ((x_23.getD (Int.toNat (0 : Int)) (RoomR.mk [] (0 : Nat) false)).ys.length = c)))).length : Int)) ∧ ((0 : Int) ≤ (1 : Int) ∧ (1 : Int) < (↑(x_24.set
  (Int.toNat (0 : Int)) (RoomR.mk (x_24.getD (Int.toNat (0 : Int)) (RoomR.mk [] (0 : Nat) false)).ys (x_24.getD (Int.toNat (0 : Int)) (RoomR.mk [] (0 : Nat) false)).m (decide ((x_24.getD (Int.toNat (0 : Int)) (RoomR.mk [] (0 : Nat)
  false)).ys.length = c_1)))).length : Int)) ∧ ((x = x ∧ x = x ∧ (wrap (wrap (x_25 - (↑c : Int)) - (1 : Int)) = wrap (wrap (x_25 - (↑c : Int)) - (1 : Int)) ∧ (!same (List.take (x_23.getD (Int.toNat (0 : Int)) (RoomR.mk [] (0 : Nat) false)).m
  (x_23.getD (Int.toNat (0 : Int)) (RoomR.mk [] (0 : Nat) false)).ys) (List.take (x_24.getD (Int.toNat (0 : Int)) (RoomR.mk [] (0 : Nat) false)).m (x_24.getD (Int.toNat (0 : Int)) (RoomR.mk [] (0 : Nat) false)).ys)) = !same (List.take
  (x_23.getD (Int.toNat (0 : Int)) (RoomR.mk [] (0 : Nat) false)).m (x_23.getD (Int.toNat (0 : Int)) (RoomR.mk [] (0 : Nat) false)).ys) (List.take (x_24.getD (Int.toNat (0 : Int)) (RoomR.mk [] (0 : Nat) false)).m (x_24.getD (Int.toNat (0 :
  Int)) (RoomR.mk [] (0 : Nat) false)).ys)) ∧ x = x) ∧ fw x.toNat x_1 = fw x.toNat x_1 ∧ List.drop (Int.toNat (1 : Int)) (x_24.set (Int.toNat (0 : Int)) (RoomR.mk (x_24.getD (Int.toNat (0 : Int)) (RoomR.mk [] (0 : Nat) false)).ys (x_24.getD
  (Int.toNat (0 : Int)) (RoomR.mk [] (0 : Nat) false)).m (decide ((x_24.getD (Int.toNat (0 : Int)) (RoomR.mk [] (0 : Nat) false)).ys.length = c_1)))) = List.drop (Int.toNat (1 : Int)) (x_24.set (Int.toNat (0 : Int)) (RoomR.mk (x_24.getD
  (Int.toNat (0 : Int)) (RoomR.mk [] (0 : Nat) false)).ys (x_24.getD (Int.toNat (0 : Int)) (RoomR.mk [] (0 : Nat) false)).m (decide ((x_24.getD (Int.toNat (0 : Int)) (RoomR.mk [] (0 : Nat) false)).ys.length = c_1)))) ∧ List.drop (Int.toNat (1
  : Int)) (x_23.set (Int.toNat (0 : Int)) (RoomR.mk (x_23.getD (Int.toNat (0 : Int)) (RoomR.mk [] (0 : Nat) false)).ys (x_23.getD (Int.toNat (0 : Int)) (RoomR.mk [] (0 : Nat) false)).m (decide ((x_23.getD (Int.toNat (0 : Int)) (RoomR.mk [] (0
  : Nat) false)).ys.length = c)))) = List.drop (Int.toNat (1 : Int)) (x_23.set (Int.toNat (0 : Int)) (RoomR.mk (x_23.getD (Int.toNat (0 : Int)) (RoomR.mk [] (0 : Nat) false)).ys (x_23.getD (Int.toNat (0 : Int)) (RoomR.mk [] (0 : Nat)
  false)).m (decide ((x_23.getD (Int.toNat (0 : Int)) (RoomR.mk [] (0 : Nat) false)).ys.length = c)))) ∧ x_1 = x_1 ∧ x_1 = x_1) ∧ inv_1 (List.drop (Int.toNat (1 : Int)) (x_23.set (Int.toNat (0 : Int)) (RoomR.mk (x_23.getD (Int.toNat (0 :
  Int)) (RoomR.mk [] (0 : Nat) false)).ys (x_23.getD (Int.toNat (0 : Int)) (RoomR.mk [] (0 : Nat) false)).m (decide ((x_23.getD (Int.toNat (0 : Int)) (RoomR.mk [] (0 : Nat) false)).ys.length = c))))) (List.drop (Int.toNat (1 : Int)) (x_24.set
  (Int.toNat (0 : Int)) (RoomR.mk (x_24.getD (Int.toNat (0 : Int)) (RoomR.mk [] (0 : Nat) false)).ys (x_24.getD (Int.toNat (0 : Int)) (RoomR.mk [] (0 : Nat) false)).m (decide ((x_24.getD (Int.toNat (0 : Int)) (RoomR.mk [] (0 : Nat)
  false)).ys.length = c_1))))) (wrap (wrap (x_25 - (↑c : Int)) - (1 : Int))) !same (List.take (x_23.getD (Int.toNat (0 : Int)) (RoomR.mk [] (0 : Nat) false)).m (x_23.getD (Int.toNat (0 : Int)) (RoomR.mk [] (0 : Nat) false)).ys) (List.take
  (x_24.getD (Int.toNat (0 : Int)) (RoomR.mk [] (0 : Nat) false)).m (x_24.getD (Int.toNat (0 : Int)) (RoomR.mk [] (0 : Nat) false)).ys) ∧ (μ (List.drop (Int.toNat (1 : Int)) (x_23.set (Int.toNat (0 : Int)) (RoomR.mk (x_23.getD (Int.toNat (0 :
  Int)) (RoomR.mk [] (0 : Nat) false)).ys (x_23.getD (Int.toNat (0 : Int)) (RoomR.mk [] (0 : Nat) false)).m (decide ((x_23.getD (Int.toNat (0 : Int)) (RoomR.mk [] (0 : Nat) false)).ys.length = c))))) (List.drop (Int.toNat (1 : Int)) (x_24.set
  (Int.toNat (0 : Int)) (RoomR.mk (x_24.getD (Int.toNat (0 : Int)) (RoomR.mk [] (0 : Nat) false)).ys (x_24.getD (Int.toNat (0 : Int)) (RoomR.mk [] (0 : Nat) false)).m (decide ((x_24.getD (Int.toNat (0 : Int)) (RoomR.mk [] (0 : Nat)
  false)).ys.length = c_1))))) (wrap (wrap (x_25 - (↑c : Int)) - (1 : Int))) !same (List.take (x_23.getD (Int.toNat (0 : Int)) (RoomR.mk [] (0 : Nat) false)).m (x_23.getD (Int.toNat (0 : Int)) (RoomR.mk [] (0 : Nat) false)).ys) (List.take
  (x_24.getD (Int.toNat (0 : Int)) (RoomR.mk [] (0 : Nat) false)).m (x_24.getD (Int.toNat (0 : Int)) (RoomR.mk [] (0 : Nat) false)).ys)) < μ x_23 x_24 x_25 x_26) ∧ (x_26 = !false → ((0 : Int) ≤ (0 : Int) ∧ (0 : Int) < (↑x_23.length : Int)) ∧
  Int.toNat (0 : Int) = Int.toNat (0 : Int) ∧ ((0 : Int) ≤ (1 : Int) ∧ (1 : Int) < (↑(x_23.set (Int.toNat (0 : Int)) (RoomR.mk (x_23.getD (Int.toNat (0 : Int)) (RoomR.mk [] (0 : Nat) false)).ys (x_23.getD (Int.toNat (0 : Int)) (RoomR.mk [] (0
  : Nat) false)).m (decide ((x_23.getD (Int.toNat (0 : Int)) (RoomR.mk [] (0 : Nat) false)).ys.length = c)))).length : Int)) ∧ ((0 : Int) ≤ (1 : Int) ∧ (1 : Int) < (↑(x_24.set (Int.toNat (0 : Int)) (RoomR.mk (x_24.getD (Int.toNat (0 : Int))
  (RoomR.mk [] (0 : Nat) false)).ys (x_24.getD (Int.toNat (0 : Int)) (RoomR.mk [] (0 : Nat) false)).m (decide ((x_24.getD (Int.toNat (0 : Int)) (RoomR.mk [] (0 : Nat) false)).ys.length = c_1)))).length : Int)) ∧ ((x = x ∧ x = x ∧ (wrap (wrap
  (x_25 - (↑c : Int)) - (1 : Int)) = wrap (wrap (x_25 - (↑c : Int)) - (1 : Int)) ∧ true = true) ∧ x = x) ∧ fw x.toNat x_1 = fw x.toNat x_1 ∧ List.drop (Int.toNat (1 : Int)) (x_24.set (Int.toNat (0 : Int)) (RoomR.mk (x_24.getD (Int.toNat (0 :
  Int)) (RoomR.mk [] (0 : Nat) false)).ys (x_24.getD (Int.toNat (0 : Int)) (RoomR.mk [] (0 : Nat) false)).m (decide ((x_24.getD (Int.toNat (0 : Int)) (RoomR.mk [] (0 : Nat) false)).ys.length = c_1)))) = List.drop (Int.toNat (1 : Int))
  (x_24.set (Int.toNat (0 : Int)) (RoomR.mk (x_24.getD (Int.toNat (0 : Int)) (RoomR.mk [] (0 : Nat) false)).ys (x_24.getD (Int.toNat (0 : Int)) (RoomR.mk [] (0 : Nat) false)).m (decide ((x_24.getD (Int.toNat (0 : Int)) (RoomR.mk [] (0 : Nat)
  false)).ys.length = c_1)))) ∧ List.drop (Int.toNat (1 : Int)) (x_23.set (Int.toNat (0 : Int)) (RoomR.mk (x_23.getD (Int.toNat (0 : Int)) (RoomR.mk [] (0 : Nat) false)).ys (x_23.getD (Int.toNat (0 : Int)) (RoomR.mk [] (0 : Nat) false)).m
  (decide ((x_23.getD (Int.toNat (0 : Int)) (RoomR.mk [] (0 : Nat) false)).ys.length = c)))) = List.drop (Int.toNat (1 : Int)) (x_23.set (Int.toNat (0 : Int)) (RoomR.mk (x_23.getD (Int.toNat (0 : Int)) (RoomR.mk [] (0 : Nat) false)).ys
  (x_23.getD (Int.toNat (0 : Int)) (RoomR.mk [] (0 : Nat) false)).m (decide ((x_23.getD (Int.toNat (0 : Int)) (RoomR.mk [] (0 : Nat) false)).ys.length = c)))) ∧ x_1 = x_1 ∧ x_1 = x_1) ∧ inv_1 (List.drop (Int.toNat (1 : Int)) (x_23.set
  (Int.toNat (0 : Int)) (RoomR.mk (x_23.getD (Int.toNat (0 : Int)) (RoomR.mk [] (0 : Nat) false)).ys (x_23.getD (Int.toNat (0 : Int)) (RoomR.mk [] (0 : Nat) false)).m (decide ((x_23.getD (Int.toNat (0 : Int)) (RoomR.mk [] (0 : Nat)
  false)).ys.length = c))))) (List.drop (Int.toNat (1 : Int)) (x_24.set (Int.toNat (0 : Int)) (RoomR.mk (x_24.getD (Int.toNat (0 : Int)) (RoomR.mk [] (0 : Nat) false)).ys (x_24.getD (Int.toNat (0 : Int)) (RoomR.mk [] (0 : Nat) false)).m
  (decide ((x_24.getD (Int.toNat (0 : Int)) (RoomR.mk [] (0 : Nat) false)).ys.length = c_1))))) (wrap (wrap (x_25 - (↑c : Int)) - (1 : Int))) true ∧ μ (List.drop (Int.toNat (1 : Int)) (x_23.set (Int.toNat (0 : Int)) (RoomR.mk (x_23.getD
  (Int.toNat (0 : Int)) (RoomR.mk [] (0 : Nat) false)).ys (x_23.getD (Int.toNat (0 : Int)) (RoomR.mk [] (0 : Nat) false)).m (decide ((x_23.getD (Int.toNat (0 : Int)) (RoomR.mk [] (0 : Nat) false)).ys.length = c))))) (List.drop (Int.toNat (1 :
  Int)) (x_24.set (Int.toNat (0 : Int)) (RoomR.mk (x_24.getD (Int.toNat (0 : Int)) (RoomR.mk [] (0 : Nat) false)).ys (x_24.getD (Int.toNat (0 : Int)) (RoomR.mk [] (0 : Nat) false)).m (decide ((x_24.getD (Int.toNat (0 : Int)) (RoomR.mk [] (0 :
  Nat) false)).ys.length = c_1))))) (wrap (wrap (x_25 - (↑c : Int)) - (1 : Int))) true < μ x_23 x_24 x_25 x_26))) ∧ (decide ((↑x_23.length : Int) > (1 : Int)) = !true → ((x = x ∧ x = x ∧ (x_25 = x_25 ∧ x_26 = x_26) ∧ x = x) ∧ fw x.toNat x_1 =
  fw x.toNat x_1 ∧ x_24 = x_24 ∧ x_23 = x_23 ∧ x_1 = x_1 ∧ x_1 = x_1) ∧ inv x_23 x_24 x_25 x_26)) ∧ ∀ (x_21 x_22 : List RoomR) (x_23 : Int) (x_24 : Bool), inv x_21 x_22 x_23 x_24 → ∃ (inv : Int → List RoomR → List RoomR → Bool → Prop), ∃ (μ :
  Int → List RoomR → List RoomR → Bool → Nat), (((0 : Int) = (0 : Int) ∧ (x = x ∧ x = x ∧ (x_23 = x_23 ∧ x_24 = x_24) ∧ x = x) ∧ fw x.toNat x_1 = fw x.toNat x_1 ∧ x_22 = x_22 ∧ x_21 = x_21 ∧ x_1 = x_1 ∧ x_1 = x_1) ∧ inv (0 : Int) x_21 x_22
  x_24) ∧ ∀ (x_26 : Int) (x_27 x_28 : List RoomR) (x_29 : Bool), inv x_26 x_27 x_28 x_29 → (decide (x_26 < (↑x_27.length : Int)) = true → ((0 : Int) ≤ x_26 ∧ x_26 < (↑x_27.length : Int)) ∧ ∀ (c : Nat), (x_27.getD x_26.toNat (RoomR.mk [] (0 :
  Nat) false)).m ≤ c → (x_27.getD x_26.toNat (RoomR.mk [] (0 : Nat) false)).ys.length ≤ c → LenOk c → ((x_27.getD x_26.toNat (RoomR.mk [] (0 : Nat) false)).full = true → (x_27.getD x_26.toNat (RoomR.mk [] (0 : Nat) false)).ys.length = c) →
  ((0 : Int) ≤ x_26 ∧ x_26 < (↑x_28.length : Int)) ∧ ∀ (c_1 : Nat), (x_28.getD x_26.toNat (RoomR.mk [] (0 : Nat) false)).m ≤ c_1 → (x_28.getD x_26.toNat (RoomR.mk [] (0 : Nat) false)).ys.length ≤ c_1 → LenOk c_1 → ((x_28.getD x_26.toNat
  (RoomR.mk [] (0 : Nat) false)).full = true → (x_28.getD x_26.toNat (RoomR.mk [] (0 : Nat) false)).ys.length = c_1) → (x_29 = false → ((0 : Int) ≤ x_26 ∧ x_26 < (↑x_27.length : Int)) ∧ x_26.toNat = x_26.toNat ∧ ((0 : Int) ≤ x_26 ∧ x_26 <
  (↑x_28.length : Int)) ∧ x_26.toNat = x_26.toNat ∧ ((x_27.getD x_26.toNat (RoomR.mk [] (0 : Nat) false)).m ≤ (x_27.getD x_26.toNat (RoomR.mk [] (0 : Nat) false)).ys.length ∧ (x_28.getD x_26.toNat (RoomR.mk [] (0 : Nat) false)).m ≤ (x_28.getD
  x_26.toNat (RoomR.mk [] (0 : Nat) false)).ys.length) ∧ (wrap (x_26 + (1 : Int)) = wrap (x_26 + (1 : Int)) ∧ (x = x ∧ x = x ∧ (x_23 = x_23 ∧ (!same (List.take (x_27.getD x_26.toNat (RoomR.mk [] (0 : Nat) false)).m (x_27.getD x_26.toNat
  (RoomR.mk [] (0 : Nat) false)).ys) (List.take (x_28.getD x_26.toNat (RoomR.mk [] (0 : Nat) false)).m (x_28.getD x_26.toNat (RoomR.mk [] (0 : Nat) false)).ys)) = !same (List.take (x_27.getD x_26.toNat (RoomR.mk [] (0 : Nat) false)).m
  (x_27.getD x_26.toNat (RoomR.mk [] (0 : Nat) false)).ys) (List.take (x_28.getD x_26.toNat (RoomR.mk [] (0 : Nat) false)).m (x_28.getD x_26.toNat (RoomR.mk [] (0 : Nat) false)).ys)) ∧ x = x) ∧ fw x.toNat x_1 = fw x.toNat x_1 ∧ x_28.set
  x_26.toNat (RoomR.mk (x_28.getD x_26.toNat (RoomR.mk [] (0 : Nat) false)).ys (x_28.getD x_26.toNat (RoomR.mk [] (0 : Nat) false)).m (decide ((x_28.getD x_26.toNat (RoomR.mk [] (0 : Nat) false)).ys.length = c_1))) = x_28.set x_26.toNat
  (RoomR.mk (x_28.getD x_26.toNat (RoomR.mk [] (0 : Nat) false)).ys (x_28.getD x_26.toNat (RoomR.mk [] (0 : Nat) false)).m (decide ((x_28.getD x_26.toNat (RoomR.mk [] (0 : Nat) false)).ys.length = c_1))) ∧ x_27.set x_26.toNat (RoomR.mk
  (x_27.getD x_26.toNat (RoomR.mk [] (0 : Nat) false)).ys (x_27.getD x_26.toNat (RoomR.mk [] (0 : Nat) false)).m (decide ((x_27.getD x_26.toNat (RoomR.mk [] (0 : Nat) false)).ys.length = c))) = x_27.set x_26.toNat (RoomR.mk (x_27.getD
  x_26.toNat (RoomR.mk [] (0 : Nat) false)).ys (x_27.getD x_26.toNat (RoomR.mk [] (0 : Nat) false)).m (decide ((x_27.getD x_26.toNat (RoomR.mk [] (0 : Nat) false)).ys.length = c))) ∧ x_1 = x_1 ∧ x_1 = x_1) ∧ inv (wrap (x_26 + (1 : Int)))
  (x_27.set x_26.toNat (RoomR.mk (x_27.getD x_26.toNat (RoomR.mk [] (0 : Nat) false)).ys (x_27.getD x_26.toNat (RoomR.mk [] (0 : Nat) false)).m (decide ((x_27.getD x_26.toNat (RoomR.mk [] (0 : Nat) false)).ys.length = c)))) (x_28.set
  x_26.toNat (RoomR.mk (x_28.getD x_26.toNat (RoomR.mk [] (0 : Nat) false)).ys (x_28.getD x_26.toNat (RoomR.mk [] (0 : Nat) false)).m (decide ((x_28.getD x_26.toNat (RoomR.mk [] (0 : Nat) false)).ys.length = c_1)))) !same (List.take
  (x_27.getD x_26.toNat (RoomR.mk [] (0 : Nat) false)).m (x_27.getD x_26.toNat (RoomR.mk [] (0 : Nat) false)).ys) (List.take (x_28.getD x_26.toNat (RoomR.mk [] (0 : Nat) false)).m (x_28.getD x_26.toNat (RoomR.mk [] (0 : Nat) false)).ys) ∧ (μ
  (wrap (x_26 + (1 : Int))) (x_27.set x_26.toNat (RoomR.mk (x_27.getD x_26.toNat (RoomR.mk [] (0 : Nat) false)).ys (x_27.getD x_26.toNat (RoomR.mk [] (0 : Nat) false)).m (decide ((x_27.getD x_26.toNat (RoomR.mk [] (0 : Nat) false)).ys.length
  = c)))) (x_28.set x_26.toNat (RoomR.mk (x_28.getD x_26.toNat (RoomR.mk [] (0 : Nat) false)).ys (x_28.getD x_26.toNat (RoomR.mk [] (0 : Nat) false)).m (decide ((x_28.getD x_26.toNat (RoomR.mk [] (0 : Nat) false)).ys.length = c_1)))) !same
  (List.take (x_27.getD x_26.toNat (RoomR.mk [] (0 : Nat) false)).m (x_27.getD x_26.toNat (RoomR.mk [] (0 : Nat) false)).ys) (List.take (x_28.getD x_26.toNat (RoomR.mk [] (0 : Nat) false)).m (x_28.getD x_26.toNat (RoomR.mk [] (0 : Nat)
  false)).ys)) < μ x_26 x_27 x_28 x_29) ∧ (x_29 = !false → (wrap (x_26 + (1 : Int)) = wrap (x_26 + (1 : Int)) ∧ (x = x ∧ x = x ∧ (x_23 = x_23 ∧ true = true) ∧ x = x) ∧ fw x.toNat x_1 = fw x.toNat x_1 ∧ x_28.set x_26.toNat (RoomR.mk (x_28.getD
  x_26.toNat (RoomR.mk [] (0 : Nat) false)).ys (x_28.getD x_26.toNat (RoomR.mk [] (0 : Nat) false)).m (decide ((x_28.getD x_26.toNat (RoomR.mk [] (0 : Nat) false)).ys.length = c_1))) = x_28.set x_26.toNat (RoomR.mk (x_28.getD x_26.toNat
  (RoomR.mk [] (0 : Nat) false)).ys (x_28.getD x_26.toNat (RoomR.mk [] (0 : Nat) false)).m (decide ((x_28.getD x_26.toNat (RoomR.mk [] (0 : Nat) false)).ys.length = c_1))) ∧ x_27.set x_26.toNat (RoomR.mk (x_27.getD x_26.toNat (RoomR.mk [] (0
  : Nat) false)).ys (x_27.getD x_26.toNat (RoomR.mk [] (0 : Nat) false)).m (decide ((x_27.getD x_26.toNat (RoomR.mk [] (0 : Nat) false)).ys.length = c))) = x_27.set x_26.toNat (RoomR.mk (x_27.getD x_26.toNat (RoomR.mk [] (0 : Nat) false)).ys
  (x_27.getD x_26.toNat (RoomR.mk [] (0 : Nat) false)).m (decide ((x_27.getD x_26.toNat (RoomR.mk [] (0 : Nat) false)).ys.length = c))) ∧ x_1 = x_1 ∧ x_1 = x_1) ∧ inv (wrap (x_26 + (1 : Int))) (x_27.set x_26.toNat (RoomR.mk (x_27.getD
  x_26.toNat (RoomR.mk [] (0 : Nat) false)).ys (x_27.getD x_26.toNat (RoomR.mk [] (0 : Nat) false)).m (decide ((x_27.getD x_26.toNat (RoomR.mk [] (0 : Nat) false)).ys.length = c)))) (x_28.set x_26.toNat (RoomR.mk (x_28.getD x_26.toNat
  (RoomR.mk [] (0 : Nat) false)).ys (x_28.getD x_26.toNat (RoomR.mk [] (0 : Nat) false)).m (decide ((x_28.getD x_26.toNat (RoomR.mk [] (0 : Nat) false)).ys.length = c_1)))) true ∧ μ (wrap (x_26 + (1 : Int))) (x_27.set x_26.toNat (RoomR.mk
  (x_27.getD x_26.toNat (RoomR.mk [] (0 : Nat) false)).ys (x_27.getD x_26.toNat (RoomR.mk [] (0 : Nat) false)).m (decide ((x_27.getD x_26.toNat (RoomR.mk [] (0 : Nat) false)).ys.length = c)))) (x_28.set x_26.toNat (RoomR.mk (x_28.getD
  x_26.toNat (RoomR.mk [] (0 : Nat) false)).ys (x_28.getD x_26.toNat (RoomR.mk [] (0 : Nat) false)).m (decide ((x_28.getD x_26.toNat (RoomR.mk [] (0 : Nat) false)).ys.length = c_1)))) true < μ x_26 x_27 x_28 x_29)) ∧ (decide (x_26 <
  (↑x_27.length : Int)) = false → ((!!x_29) = true → false = true) ∧ ((!!x_29) = false → ∃ (inv : Int → List RoomR → Prop), ∃ (μ : Int → List RoomR → Nat), (((0 : Int) = (0 : Int) ∧ (x = x ∧ x = x ∧ (x_23 = x_23 ∧ x_29 = x_29) ∧ x = x) ∧ fw
  x.toNat x_1 = fw x.toNat x_1 ∧ x_28 = x_28 ∧ x_27 = x_27 ∧ x_1 = x_1 ∧ x_1 = x_1) ∧ inv (0 : Int) x_27) ∧ ∀ (x_33 : Int) (x_34 : List RoomR), inv x_33 x_34 → (decide (x_33 < (↑x_34.length : Int)) = true → ((0 : Int) ≤ x_33 ∧ x_33 <
  (↑x_34.length : Int)) ∧ ∀ (c : Nat), (x_34.getD x_33.toNat (RoomR.mk [] (0 : Nat) false)).m ≤ c → (x_34.getD x_33.toNat (RoomR.mk [] (0 : Nat) false)).ys.length ≤ c → LenOk c → ((x_34.getD x_33.toNat (RoomR.mk [] (0 : Nat) false)).full =
  true → (x_34.getD x_33.toNat (RoomR.mk [] (0 : Nat) false)).ys.length = c) → ((0 : Int) ≤ x_33 ∧ x_33 < (↑x_34.length : Int)) ∧ x_33.toNat = x_33.toNat ∧ ((0 : Int) ≤ x_33 ∧ x_33 < (↑x_34.length : Int)) ∧ x_33.toNat = x_33.toNat ∧ (↑c :
  Int) = (↑c : Int) ∧ ∃ (inv_1 : Int → List Int → Prop), ∃ (μ_1 : Int → List Int → Nat), (((x_33 = x_33 ∧ (0 : Int) = (0 : Int)) ∧ (x = x ∧ x = x ∧ (x_23 = x_23 ∧ x_29 = x_29) ∧ x = x) ∧ fw x.toNat x_1 = fw x.toNat x_1 ∧ x_28 = x_28 ∧ (x_34 =
  x_34 ∧ x_33.toNat = x_33.toNat ∧ (x_34.getD x_33.toNat (RoomR.mk [] (0 : Nat) false)).m = (x_34.getD x_33.toNat (RoomR.mk [] (0 : Nat) false)).m) ∧ x_1 = x_1 ∧ x_1 = x_1 ∧ (x_34.getD x_33.toNat (RoomR.mk [] (0 : Nat) false)).ys = (x_34.getD
  x_33.toNat (RoomR.mk [] (0 : Nat) false)).ys ∧ c = c) ∧ inv_1 (0 : Int) (x_34.getD x_33.toNat (RoomR.mk [] (0 : Nat) false)).ys) ∧ ∀ (x_41 : Int) (x_42 : List Int), inv_1 x_41 x_42 → (decide (x_41 < (↑c : Int)) = true → ((0 : Int) ≤ x_41 ∧
  x_41 < (↑c : Int)) ∧ (x_41.toNat ≤ x_42.length ∧ x_41.toNat < c) ∧ ((x_33 = x_33 ∧ wrap (x_41 + (1 : Int)) = wrap (x_41 + (1 : Int))) ∧ (x = x ∧ x = x ∧ (x_23 = x_23 ∧ x_29 = x_29) ∧ x = x) ∧ fw x.toNat x_1 = fw x.toNat x_1 ∧ x_28 = x_28 ∧
  (x_34 = x_34 ∧ x_33.toNat = x_33.toNat ∧ (x_34.getD x_33.toNat (RoomR.mk [] (0 : Nat) false)).m = (x_34.getD x_33.toNat (RoomR.mk [] (0 : Nat) false)).m) ∧ x_1 = x_1 ∧ x_1 = x_1 ∧ List.take x_41.toNat x_42 ++ wrap ((-1000 : Int) - x_33) ::
  List.drop (x_41.toNat + (1 : Nat)) x_42 = List.take x_41.toNat x_42 ++ wrap ((-1000 : Int) - x_33) :: List.drop (x_41.toNat + (1 : Nat)) x_42 ∧ c = c) ∧ inv_1 (wrap (x_41 + (1 : Int))) (List.take x_41.toNat x_42 ++ wrap ((-1000 : Int) -
  x_33) :: List.drop (x_41.toNat + (1 : Nat)) x_42) ∧ μ_1 (wrap (x_41 + (1 : Int))) (List.take x_41.toNat x_42 ++ wrap ((-1000 : Int) - x_33) :: List.drop (x_41.toNat + (1 : Nat)) x_42) < μ_1 x_41 x_42) ∧ (decide (x_41 < (↑c : Int)) = false →
  (wrap (x_33 + (1 : Int)) = wrap (x_33 + (1 : Int)) ∧ (x = x ∧ x = x ∧ (x_23 = x_23 ∧ x_29 = x_29) ∧ x = x) ∧ fw x.toNat x_1 = fw x.toNat x_1 ∧ x_28 = x_28 ∧ x_34.set x_33.toNat (RoomR.mk x_42 (x_34.getD x_33.toNat (RoomR.mk [] (0 : Nat)
  false)).m (decide (x_42.length = c))) = x_34.set x_33.toNat (RoomR.mk x_42 (x_34.getD x_33.toNat (RoomR.mk [] (0 : Nat) false)).m (decide (x_42.length = c))) ∧ x_1 = x_1 ∧ x_1 = x_1) ∧ inv (wrap (x_33 + (1 : Int))) (x_34.set x_33.toNat
  (RoomR.mk x_42 (x_34.getD x_33.toNat (RoomR.mk [] (0 : Nat) false)).m (decide (x_42.length = c)))) ∧ μ (wrap (x_33 + (1 : Int))) (x_34.set x_33.toNat (RoomR.mk x_42 (x_34.getD x_33.toNat (RoomR.mk [] (0 : Nat) false)).m (decide (x_42.length
  = c)))) < μ x_33 x_34)) ∧ (decide (x_33 < (↑x_34.length : Int)) = false → ∃ (inv : Int → List RoomR → Prop), ∃ (μ : Int → List RoomR → Nat), (((0 : Int) = (0 : Int) ∧ (x = x ∧ x = x ∧ (x_23 = x_23 ∧ x_29 = x_29) ∧ x = x) ∧ fw x.toNat x_1 =
  fw x.toNat x_1 ∧ x_28 = x_28 ∧ x_34 = x_34 ∧ x_1 = x_1 ∧ x_1 = x_1) ∧ inv (0 : Int) x_34) ∧ ∀ (x_37 : Int) (x_38 : List RoomR), inv x_37 x_38 → (decide (x_37 < (↑x_38.length : Int)) = true → ((0 : Int) ≤ x_37 ∧ x_37 < (↑x_38.length : Int))
  ∧ ∀ (c : Nat), (x_38.getD x_37.toNat (RoomR.mk [] (0 : Nat) false)).m ≤ c → (x_38.getD x_37.toNat (RoomR.mk [] (0 : Nat) false)).ys.length ≤ c → LenOk c → ((x_38.getD x_37.toNat (RoomR.mk [] (0 : Nat) false)).full = true → (x_38.getD
  x_37.toNat (RoomR.mk [] (0 : Nat) false)).ys.length = c) → ((0 : Int) ≤ x_37 ∧ x_37 < (↑x_38.length : Int)) ∧ x_37.toNat = x_37.toNat ∧ ((0 : Int) ≤ x_37 ∧ x_37 < (↑x_38.length : Int)) ∧ x_37.toNat = x_37.toNat ∧ (↑c : Int) = (↑c : Int) ∧ ∃
  (inv_1 : Int → Prop), ∃ (μ_1 : Int → Nat), (((x_37 = x_37 ∧ (0 : Int) = (0 : Int)) ∧ (x = x ∧ x = x ∧ (x_23 = x_23 ∧ x_29 = x_29) ∧ x = x) ∧ fw x.toNat x_1 = fw x.toNat x_1 ∧ x_28 = x_28 ∧ (x_38 = x_38 ∧ x_37.toNat = x_37.toNat ∧ (x_38.getD
  x_37.toNat (RoomR.mk [] (0 : Nat) false)).m = (x_38.getD x_37.toNat (RoomR.mk [] (0 : Nat) false)).m) ∧ x_1 = x_1 ∧ x_1 = x_1 ∧ (x_38.getD x_37.toNat (RoomR.mk [] (0 : Nat) false)).ys = (x_38.getD x_37.toNat (RoomR.mk [] (0 : Nat)
  false)).ys ∧ c = c) ∧ inv_1 (0 : Int)) ∧ ∀ (x_45 : Int), inv_1 x_45 → (decide (x_45 < (↑c : Int)) = true → ((0 : Int) ≤ x_45 ∧ x_45 < (↑c : Int)) ∧ x_45.toNat < (x_38.getD x_37.toNat (RoomR.mk [] (0 : Nat) false)).ys.length ∧ ((!decide
  ((x_38.getD x_37.toNat (RoomR.mk [] (0 : Nat) false)).ys.getD x_45.toNat (0 : Int) = wrap ((-1000 : Int) - x_37))) = true → false = true) ∧ ((!decide ((x_38.getD x_37.toNat (RoomR.mk [] (0 : Nat) false)).ys.getD x_45.toNat (0 : Int) = wrap
  ((-1000 : Int) - x_37))) = false → ((x_37 = x_37 ∧ wrap (x_45 + (1 : Int)) = wrap (x_45 + (1 : Int))) ∧ (x = x ∧ x = x ∧ (x_23 = x_23 ∧ x_29 = x_29) ∧ x = x) ∧ fw x.toNat x_1 = fw x.toNat x_1 ∧ x_28 = x_28 ∧ (x_38 = x_38 ∧ x_37.toNat =
  x_37.toNat ∧ (x_38.getD x_37.toNat (RoomR.mk [] (0 : Nat) false)).m = (x_38.getD x_37.toNat (RoomR.mk [] (0 : Nat) false)).m) ∧ x_1 = x_1 ∧ x_1 = x_1 ∧ (x_38.getD x_37.toNat (RoomR.mk [] (0 : Nat) false)).ys = (x_38.getD x_37.toNat
  (RoomR.mk [] (0 : Nat) false)).ys ∧ c = c) ∧ inv_1 (wrap (x_45 + (1 : Int))) ∧ μ_1 (wrap (x_45 + (1 : Int))) < μ_1 x_45)) ∧ (decide (x_45 < (↑c : Int)) = false → (wrap (x_37 + (1 : Int)) = wrap (x_37 + (1 : Int)) ∧ (x = x ∧ x = x ∧ (x_23 =
  x_23 ∧ x_29 = x_29) ∧ x = x) ∧ fw x.toNat x_1 = fw x.toNat x_1 ∧ x_28 = x_28 ∧ x_38.set x_37.toNat (RoomR.mk (x_38.getD x_37.toNat (RoomR.mk [] (0 : Nat) false)).ys (x_38.getD x_37.toNat (RoomR.mk [] (0 : Nat) false)).m (decide ((x_38.getD
  x_37.toNat (RoomR.mk [] (0 : Nat) false)).ys.length = c))) = x_38.set x_37.toNat (RoomR.mk (x_38.getD x_37.toNat (RoomR.mk [] (0 : Nat) false)).ys (x_38.getD x_37.toNat (RoomR.mk [] (0 : Nat) false)).m (decide ((x_38.getD x_37.toNat
  (RoomR.mk [] (0 : Nat) false)).ys.length = c))) ∧ x_1 = x_1 ∧ x_1 = x_1) ∧ inv (wrap (x_37 + (1 : Int))) (x_38.set x_37.toNat (RoomR.mk (x_38.getD x_37.toNat (RoomR.mk [] (0 : Nat) false)).ys (x_38.getD x_37.toNat (RoomR.mk [] (0 : Nat)
  false)).m (decide ((x_38.getD x_37.toNat (RoomR.mk [] (0 : Nat) false)).ys.length = c)))) ∧ μ (wrap (x_37 + (1 : Int))) (x_38.set x_37.toNat (RoomR.mk (x_38.getD x_37.toNat (RoomR.mk [] (0 : Nat) false)).ys (x_38.getD x_37.toNat (RoomR.mk
  [] (0 : Nat) false)).m (decide ((x_38.getD x_37.toNat (RoomR.mk [] (0 : Nat) false)).ys.length = c)))) < μ x_37 x_38)) ∧ (decide (x_37 < (↑x_38.length : Int)) = false → (∀ (x_41 : MapD), some (MapD.mk x x_1) = some x_41 → MapOk x_41) ∧
  ((decide (places (some (MapD.mk x x_1)) = x) && same (times (some (MapD.mk x x_1))) x_1) = true → MapOk (MapD.mk x x_1) ∧ (∀ (x_42 : MapD), some (MapD.mk x (fw x.toNat x_1)) = some x_42 → MapOk x_42) ∧ ((decide (places (some (MapD.mk x (fw
  x.toNat x_1))) = x) && same (times (some (MapD.mk x (fw x.toNat x_1)))) (fw x.toNat x_1)) = true → true = true) ∧ ((decide (places (some (MapD.mk x (fw x.toNat x_1))) = x) && same (times (some (MapD.mk x (fw x.toNat x_1)))) (fw x.toNat
  x_1)) = !true → false = true)) ∧ ((decide (places (some (MapD.mk x x_1)) = x) && same (times (some (MapD.mk x x_1))) x_1) = !true → false = true)))))) ∧ ((!true) = !false → (true = true → true = true) ∧ (true = !true → false = true)))
theorem geoKept_told (hc : CsOk Try.prog geoKept_cs) (hi : InlsOk Try.prog geoKept_in) (h : geoKept_vc) : Told Try.prog 14 geoKept_con := toldI (A := geoKept_la) tabOk mixed hc hi Try.func14 (by kernel_rfl) (by kernel_rfl) h
end Go.Eng

/- Lists of times are new memory each time. -/
set_option linter.unusedVariables false
set_option linter.unusedSimpArgs false
namespace Go.Eng
open Go Go.Proofs
theorem ints_ok : ints_vc := by
  unfold ints_vc
  simp only [bad_false, int0, nilOf, decide_eq_true_eq, decide_eq_false_iff_not, Bool.not_eq_true', Bool.not_eq_false', Bool.not_true, Bool.not_false, Bool.false_eq_true, Bool.true_eq_false, eq_self, true_and, and_true, false_or, or_false, false_implies, true_implies, implies_true, Int.not_lt, Int.not_le, gt_iff_lt, ge_iff_le, ne_eq]
  try (intro i j; rfl)
/-- A kept row, and what it was. -/
def Row2 (x y : RoomR) : Prop := x.m ≤ x.ys.length ∧ y.m ≤ y.ys.length ∧ x.ys.take x.m = y.ys.take y.m
structure RowsOk (k : Nat) (L W : List RoomR) : Prop where
  one : 1 ≤ L.length
  few : L.length ≤ k
  len : L.length = W.length
  row : ∀ i, i < L.length → Row2 (L.getD i ⟨[], 0, false⟩) (W.getD i ⟨[], 0, false⟩)
theorem set_drop {α : Type} (l : List α) (a : α) : (l.set 0 a).drop 1 = l.drop 1 := by cases l <;> rfl
theorem set_last {α : Type} (l : List α) (a b : α) : (l ++ [a]).set l.length b = l ++ [b] := by simp
theorem rows_pop {k : Nat} {L W : List RoomR} (h : RowsOk k L W) (h1 : 1 < L.length) : RowsOk k (L.drop 1) (W.drop 1) := by
  refine ⟨by simp; omega, by have := h.few; simp; omega, by simp [h.len], fun i hi => ?_⟩
  have := h.row (i + 1) (by simp at hi; omega)
  simp only [List.getD_eq_getElem?_getD, List.getElem?_drop] at this ⊢
  rwa [Nat.add_comm 1 i]
theorem rows_push {k : Nat} {L W : List RoomR} {x y : RoomR} (h : RowsOk k L W) (hxy : Row2 x y) : RowsOk (k + 1) (L ++ [x]) (W ++ [y]) := by
  refine ⟨by simp, by have := h.few; simp; omega, by simp [h.len], fun i hi => ?_⟩
  simp only [List.length_append, List.length_singleton] at hi
  have hl := h.len
  by_cases hlt : i < L.length
  · have := h.row i hlt
    simp only [List.getD_eq_getElem?_getD] at this ⊢
    rw [List.getElem?_append_left hlt, List.getElem?_append_left (by omega)]
    exact this
  · have : i = L.length := by omega
    subst this
    simp only [List.getD_eq_getElem?_getD]
    rw [List.getElem?_append_right (by omega), List.getElem?_append_right (by omega), ← hl]
    simpa using hxy
theorem rows_first {x y : RoomR} (hxy : Row2 x y) : RowsOk 1 [x] [y] := ⟨by simp, by simp, rfl, fun i hi => by
  have : i = 0 := by simp at hi; omega
  subst this
  exact hxy⟩
/-- A row looked at stays what it is. -/
theorem rows_set {k i : Nat} {L W : List RoomR} {f g : Bool} (h : RowsOk k L W) (hi : i < L.length) :
    RowsOk k (L.set i ⟨(L.getD i ⟨[], 0, false⟩).ys, (L.getD i ⟨[], 0, false⟩).m, f⟩) (W.set i ⟨(W.getD i ⟨[], 0, false⟩).ys, (W.getD i ⟨[], 0, false⟩).m, g⟩) := by
  have hl := h.len
  refine ⟨by simpa using h.one, by simpa using h.few, by simpa using h.len, fun j hj => ?_⟩
  have := h.row j (by simpa using hj)
  simp only [List.length_set] at hj
  simp only [List.getD_eq_getElem?_getD] at this ⊢
  rw [List.getElem?_set, List.getElem?_set]
  by_cases e : i = j
  · subst e
    rw [if_pos rfl, if_pos rfl, if_pos hi, if_pos (by omega)]
    exact this
  · rw [if_neg e, if_neg e]
    exact this
end Go.Eng

/- Lists of times are new memory each time: the statement's condition, and what is told of the statement. -/
set_option linter.unusedVariables false
set_option linter.unusedSimpArgs false
namespace Go.Eng
open Go Go.Proofs
theorem same_rows {x y : RoomR} (h : Row2 x y) : (!same (x.ys.take x.m) (y.ys.take y.m)) = false := by rw [same_iff.2 h.2.2]; rfl
theorem keep_body {k : Nat} {L W : List RoomR} (c c1 : Nat) (hr : RowsOk k L W) (h1 : 1 < L.length) :
    ((0 : Int) ≤ 0 ∧ (0 : Int) < (L.length : Int)) ∧ ((0 : Int) ≤ 0 ∧ (0 : Int) < (W.length : Int)) ∧ ((L.getD (Int.toNat 0) ({ ys := [], m := 0, full := false } : RoomR)).m ≤ (L.getD (Int.toNat 0) ({ ys := [], m := 0, full := false } : RoomR)).ys.length ∧ (W.getD (Int.toNat 0) ({ ys := [], m := 0, full := false } : RoomR)).m ≤ (W.getD (Int.toNat 0) ({ ys := [], m := 0, full := false } : RoomR)).ys.length) ∧ ((0 : Int) ≤ 0 ∧ (0 : Int) < (L.length : Int)) ∧
      ((0 : Int) ≤ 1 ∧ (1 : Int) < ((L.set (Int.toNat 0) { ys := (L.getD (Int.toNat 0) ({ ys := [], m := 0, full := false } : RoomR)).ys, m := (L.getD (Int.toNat 0) ({ ys := [], m := 0, full := false } : RoomR)).m, full := decide ((L.getD (Int.toNat 0) ({ ys := [], m := 0, full := false } : RoomR)).ys.length = c) }).length : Int)) ∧ ((0 : Int) ≤ 1 ∧ (1 : Int) < ((W.set (Int.toNat 0) { ys := (W.getD (Int.toNat 0) ({ ys := [], m := 0, full := false } : RoomR)).ys, m := (W.getD (Int.toNat 0) ({ ys := [], m := 0, full := false } : RoomR)).m, full := decide ((W.getD (Int.toNat 0) ({ ys := [], m := 0, full := false } : RoomR)).ys.length = c1) }).length : Int)) ∧
      ((!same (List.take (L.getD (Int.toNat 0) ({ ys := [], m := 0, full := false } : RoomR)).m (L.getD (Int.toNat 0) ({ ys := [], m := 0, full := false } : RoomR)).ys) (List.take (W.getD (Int.toNat 0) ({ ys := [], m := 0, full := false } : RoomR)).m (W.getD (Int.toNat 0) ({ ys := [], m := 0, full := false } : RoomR)).ys)) = false ∧ RowsOk k (List.drop (Int.toNat 1) (L.set (Int.toNat 0) { ys := (L.getD (Int.toNat 0) ({ ys := [], m := 0, full := false } : RoomR)).ys, m := (L.getD (Int.toNat 0) ({ ys := [], m := 0, full := false } : RoomR)).m, full := decide ((L.getD (Int.toNat 0) ({ ys := [], m := 0, full := false } : RoomR)).ys.length = c) })) (List.drop (Int.toNat 1) (W.set (Int.toNat 0) { ys := (W.getD (Int.toNat 0) ({ ys := [], m := 0, full := false } : RoomR)).ys, m := (W.getD (Int.toNat 0) ({ ys := [], m := 0, full := false } : RoomR)).m, full := decide ((W.getD (Int.toNat 0) ({ ys := [], m := 0, full := false } : RoomR)).ys.length = c1) }))) ∧ (List.drop (Int.toNat 1) (L.set (Int.toNat 0) { ys := (L.getD (Int.toNat 0) ({ ys := [], m := 0, full := false } : RoomR)).ys, m := (L.getD (Int.toNat 0) ({ ys := [], m := 0, full := false } : RoomR)).m, full := decide ((L.getD (Int.toNat 0) ({ ys := [], m := 0, full := false } : RoomR)).ys.length = c) })).length < L.length := by
  have hl := hr.len
  have r0 := hr.row 0 (by omega)
  have e1 : ∀ (l : List RoomR) (a : RoomR), List.drop (Int.toNat 1) (l.set (Int.toNat 0) a) = l.drop 1 := fun l a => set_drop l a
  rw [e1, e1]
  refine ⟨⟨by omega, by omega⟩, ⟨by omega, by omega⟩, ⟨r0.1, r0.2.1⟩, ⟨by omega, by omega⟩, ⟨by omega, by simp; omega⟩, ⟨by omega, by simp; omega⟩, ⟨same_rows r0, rows_pop hr h1⟩, by simp; omega⟩
def Marked (j : Nat) (x : RoomR) : Prop := x.full = true ∧ ∀ p, p < x.ys.length → x.ys.getD p 0 = wrap (-1000 - (j : Int))
theorem getD_set_same {L : List RoomR} {i : Nat} {x : RoomR} (h : i < L.length) : (L.set i x).getD i ⟨[], 0, false⟩ = x := by simp [List.getD_eq_getElem?_getD, h]
theorem getD_set_ne {L : List RoomR} {i j : Nat} {x : RoomR} (h : i ≠ j) : (L.set i x).getD j ⟨[], 0, false⟩ = L.getD j ⟨[], 0, false⟩ := by simp [List.getD_eq_getElem?_getD, List.getElem?_set, h]
theorem write_at {ys : List Int} {k p : Nat} {v : Int} (hk : k ≤ ys.length) (hp : p ≤ k) (hv : p < k → ys.getD p 0 = v) : (ys.take k ++ v :: ys.drop (k + 1)).getD p 0 = v := by
  simp only [List.getD_eq_getElem?_getD]
  by_cases h : p < k
  · rw [List.getElem?_append_left (by simp; omega), List.getElem?_take_of_lt h]
    have := hv h
    rwa [List.getD_eq_getElem?_getD] at this
  · have : p = k := by omega
    subst this
    rw [List.getElem?_append_right (by simp; omega)]
    simp [Nat.min_eq_left hk]
theorem write_len {ys : List Int} {k : Nat} {v : Int} (hk : k ≤ ys.length) : (ys.take k ++ v :: ys.drop (k + 1)).length = max ys.length (k + 1) := by simp; omega
theorem geoKept_ok : geoKept_vc := by
  unfold geoKept_vc
  simp only [bad_false, int0, nilOf, decide_eq_true_eq, decide_eq_false_iff_not, Bool.not_eq_true', Bool.not_eq_false', Bool.not_true, Bool.not_false, Bool.false_eq_true, Bool.true_eq_false, eq_self, true_and, and_true, false_or, or_false, false_implies, true_implies, implies_true, Int.not_lt, Int.not_le, gt_iff_lt, ge_iff_le, ne_eq, set_drop, set_last]
  intro n ts hts hg h
  have hm := mapOkO_some h
  have hmc : MapOk ⟨n, fw n.toNat ts⟩ := closed_ok' (hm ⟨n, ts⟩ rfl)
  have hmc' : ∀ (x : MapD), some ⟨n, fw n.toNat ts⟩ = some x → MapOk x := fun x hx => by injection hx with hx; subst hx; exact hmc
  have htc : (times (some ⟨n, fw n.toNat ts⟩)).length ≤ 144 := mapOk_len hmc
  have hpl : places (some ⟨n, ts⟩) = n := rfl
  have hpc : places (some ⟨n, fw n.toNat ts⟩) = n := rfl
  have htt : times (some ⟨n, ts⟩) = ts := rfl
  have htcc : times (some ⟨n, fw n.toNat ts⟩) = fw n.toNat ts := rfl
  generalize MapD.mk n ts = m at *
  generalize times (some ⟨n, fw n.toNat ts⟩) = tc at *
  have htl : (times (some m)).length ≤ 144 := mapOk_len (hm m rfl)
  generalize times (some m) = tt at *
  refine ⟨fun L W h b => b = false ∧ RowsOk 1 L W, ⟨hm, fun c hc1 hc2 => ⟨?_, ?_, fun L W h b => b = false ∧ RowsOk 1 L W, fun L _ _ _ => L.length, ?_, fun L W h b hI => ?_⟩⟩, fun L W h b hI => ?_⟩
  · exact ⟨Nat.le_refl _, by omega⟩
  · simp [K.byt]
  · refine ⟨rfl, ?_⟩
    rw [List.take_length]
    exact rows_first ⟨Nat.le_refl _, Nat.le_refl _, rfl⟩
  · obtain ⟨rfl, hr⟩ := hI
    have hlen := hr.len
    have hone := hr.one
    have hfew := hr.few
    have rw0 := hr.row 0 (by omega)
    refine ⟨fun h1 => ?_, fun _ => ⟨rfl, hr⟩⟩
    have hpop := rows_pop hr (by omega)
    have body : ∀ (h' : Int), True := fun _ => trivial
    refine ⟨fun h2 => ⟨fun h3 => (by omega), fun h3 => ⟨rfl, hr⟩⟩, fun h2 => ⟨⟨by omega, by omega⟩, fun c g1 g2 g3 g4 => ⟨⟨by omega, by omega⟩, fun c1 g5 g6 g7 g8 => ⟨fun _ => ?_, fun q => (by cases q)⟩⟩⟩⟩
    exact keep_body c c1 hr (by omega)
  · obtain ⟨rfl, hr⟩ := hI
    have hlen := hr.len
    have hfew := hr.few
    refine ⟨fun L W h b => b = false ∧ RowsOk 2 L W, ⟨hm, fun c hc1 hc2 => ⟨by omega, ⟨Nat.le_refl _, by omega⟩, by omega, fun L W h b => b = false ∧ RowsOk 2 L W, fun L _ _ _ => L.length, ?_, fun L W h b hI => ?_⟩⟩, fun L W h b hI => ?_⟩
    · refine ⟨rfl, ?_⟩
      rw [List.take_length]
      exact rows_push hr ⟨Nat.le_refl _, Nat.le_refl _, rfl⟩
    · obtain ⟨rfl, hr⟩ := hI
      have hlen := hr.len
      have hone := hr.one
      have hfew := hr.few
      refine ⟨fun h1 => ⟨fun h2 => ⟨fun h3 => (by omega), fun h3 => ⟨rfl, hr⟩⟩, fun h2 => ⟨⟨by omega, by omega⟩, fun c g1 g2 g3 g4 => ⟨⟨by omega, by omega⟩, fun c1 g5 g6 g7 g8 => ⟨fun _ => keep_body c c1 hr (by omega), fun q => (by cases q)⟩⟩⟩⟩, fun _ => ⟨rfl, hr⟩⟩
    · obtain ⟨rfl, hr⟩ := hI
      have hlen := hr.len
      have hfew := hr.few
      refine ⟨hm, ⟨fun L W h b => b = false ∧ RowsOk 3 L W, ⟨hmc', fun c hc1 hc2 => ⟨by omega, ⟨Nat.le_refl _, by omega⟩, by omega, fun L W h b => b = false ∧ RowsOk 3 L W, fun L _ _ _ => L.length, ?_, fun L W h b hI => ?_⟩⟩, fun L W h b hI => ?_⟩⟩
      · refine ⟨rfl, ?_⟩
        rw [List.take_length]
        exact rows_push hr ⟨Nat.le_refl _, Nat.le_refl _, rfl⟩
      · obtain ⟨rfl, hr⟩ := hI
        have hlen := hr.len
        have hone := hr.one
        have hfew := hr.few
        refine ⟨fun h1 => ⟨fun h2 => ⟨fun h3 => (by omega), fun h3 => ⟨rfl, hr⟩⟩, fun h2 => ⟨⟨by omega, by omega⟩, fun c g1 g2 g3 g4 => ⟨⟨by omega, by omega⟩, fun c1 g5 g6 g7 g8 => ⟨fun _ => keep_body c c1 hr (by omega), fun q => (by cases q)⟩⟩⟩⟩, fun _ => ⟨rfl, hr⟩⟩
      · obtain ⟨rfl, hr⟩ := hI
        have hlen := hr.len
        have hfew := hr.few
        refine ⟨fun L W h b => b = false ∧ RowsOk 4 L W, ⟨hmc', fun c hc1 hc2 => ⟨by omega, ⟨Nat.le_refl _, by omega⟩, by omega, fun L W h b => b = false ∧ RowsOk 4 L W, fun L _ _ _ => L.length, ?_, fun L W h b hI => ?_⟩⟩, fun L W h b hI => ?_⟩
        · refine ⟨rfl, ?_⟩
          rw [List.take_length]
          exact rows_push hr ⟨Nat.le_refl _, Nat.le_refl _, rfl⟩
        · obtain ⟨rfl, hr⟩ := hI
          have hlen := hr.len
          have hone := hr.one
          have hfew := hr.few
          refine ⟨fun h1 => ⟨fun h2 => ⟨fun h3 => (by omega), fun h3 => ⟨rfl, hr⟩⟩, fun h2 => ⟨⟨by omega, by omega⟩, fun c g1 g2 g3 g4 => ⟨⟨by omega, by omega⟩, fun c1 g5 g6 g7 g8 => ⟨fun _ => keep_body c c1 hr (by omega), fun q => (by cases q)⟩⟩⟩⟩, fun _ => ⟨rfl, hr⟩⟩
        · obtain ⟨rfl, hr⟩ := hI
          refine ⟨fun i L W b => 0 ≤ i ∧ b = false ∧ RowsOk 4 L W, fun i L _ _ => L.length - i.toNat, ⟨Int.le_refl _, rfl, hr⟩, fun i L W b hI => ⟨fun hi => ?_, fun hi => ?_⟩⟩
          · obtain ⟨i0, rfl, hr⟩ := hI
            have hlen := hr.len
            have hfew := hr.few
            have hlt : i.toNat < L.length := by omega
            have r := hr.row i.toNat hlt
            have w1 : wrap (i + 1) = i + 1 := wrap_id (by omega) (by omega)
            rw [w1]
            exact ⟨⟨i0, hi⟩, fun c g1 g2 g3 g4 => ⟨⟨i0, by omega⟩, fun c1 g5 g6 g7 g8 => ⟨fun _ => ⟨⟨i0, hi⟩, ⟨i0, by omega⟩, ⟨r.1, r.2.1⟩, ⟨by omega, same_rows r, rows_set hr hlt⟩, by simp; omega⟩, fun q => (by cases q)⟩⟩⟩
          · obtain ⟨i0, rfl, hr⟩ := hI
            have hfew := hr.few
            refine ⟨fun q => (by cases q), fun _ => ?_⟩
            refine ⟨fun i L => 0 ≤ i ∧ i ≤ L.length ∧ L.length ≤ 4 ∧ ∀ j, j < i.toNat → Marked j (L.getD j ⟨[], 0, false⟩), fun i L => L.length - i.toNat, ⟨Int.le_refl _, by omega, hfew, fun j hj => by simp at hj⟩, fun i L hI => ⟨fun hi => ?_, fun hi => ?_⟩⟩
            · obtain ⟨i0, i1, i2, hmk⟩ := hI
              have hlt : i.toNat < L.length := by omega
              have w1 : wrap (i + 1) = i + 1 := wrap_id (by omega) (by omega)
              refine ⟨⟨i0, hi⟩, fun c g1 g2 g3 g4 => ⟨⟨i0, hi⟩, ⟨i0, hi⟩, fun k ys => 0 ≤ k ∧ k ≤ c ∧ k ≤ ys.length ∧ ys.length ≤ c ∧ ∀ p, p < k.toNat → ys.getD p 0 = wrap (-1000 - i), fun k _ => c - k.toNat, ⟨Int.le_refl _, by omega, by omega, g2, fun p hp => by simp at hp⟩, fun k ys hJ => ⟨fun hk => ?_, fun hk => ?_⟩⟩⟩
              · obtain ⟨k0, k1, k2, k3, k4⟩ := hJ
                have hc := g3.le
                have w2 : wrap (k + 1) = k + 1 := wrap_id (by omega) (by omega)
                rw [w2]
                have hwl := @write_len ys k.toNat (wrap (-1000 - i)) (by omega)
                refine ⟨⟨k0, hk⟩, ⟨by omega, by omega⟩, ⟨by omega, by omega, by rw [hwl]; omega, by rw [hwl]; omega, fun p hp => write_at (by omega) (by omega) (k4 p)⟩, by dsimp only; omega⟩
              · obtain ⟨k0, k1, k2, k3, k4⟩ := hJ
                rw [w1]
                refine ⟨⟨by omega, by simp; omega, by simpa using i2, fun j hj => ?_⟩, by simp; omega⟩
                by_cases e : i.toNat = j
                · subst e
                  rw [getD_set_same hlt]
                  refine ⟨decide_eq_true (by omega), fun p hp => ?_⟩
                  have := k4 p (by dsimp only at hp; omega)
                  rw [show ((i.toNat : Nat) : Int) = i by omega]
                  exact this
                · rw [getD_set_ne e]
                  exact hmk j (by omega)
            · obtain ⟨i0, i1, i2, hmk⟩ := hI
              have hall : ∀ j, j < L.length → Marked j (L.getD j ⟨[], 0, false⟩) := fun j hj => hmk j (by omega)
              refine ⟨fun i L => 0 ≤ i ∧ L.length ≤ 4 ∧ ∀ j, j < L.length → Marked j (L.getD j ⟨[], 0, false⟩), fun i L => L.length - i.toNat, ⟨Int.le_refl _, i2, hall⟩, fun i L hI => ⟨fun hi => ?_, fun hi => ?_⟩⟩
              · obtain ⟨i0, i2, hmk⟩ := hI
                have hlt : i.toNat < L.length := by omega
                have w1 : wrap (i + 1) = i + 1 := wrap_id (by omega) (by omega)
                have hM := hmk i.toNat hlt
                refine ⟨⟨i0, hi⟩, fun c g1 g2 g3 g4 => ⟨⟨i0, hi⟩, ⟨i0, hi⟩, fun k => 0 ≤ k ∧ k ≤ c, fun k => c - k.toNat, ⟨Int.le_refl _, by omega⟩, fun k hJ => ⟨fun hk => ?_, fun hk => ?_⟩⟩⟩
                · obtain ⟨k0, k1⟩ := hJ
                  have hc := g3.le
                  have w2 : wrap (k + 1) = k + 1 := wrap_id (by omega) (by omega)
                  rw [w2]
                  have hlen := g4 hM.1
                  have hv := hM.2 k.toNat (by omega)
                  rw [show ((i.toNat : Nat) : Int) = i by omega] at hv
                  exact ⟨⟨k0, hk⟩, by omega, fun q => q hv, fun _ => ⟨⟨by omega, by omega⟩, by dsimp only; omega⟩⟩
                · rw [w1]
                  have hlen := g4 hM.1
                  refine ⟨⟨by omega, by simpa using i2, fun j hj => ?_⟩, by simp; omega⟩
                  by_cases e : i.toNat = j
                  · subst e
                    rw [getD_set_same hlt]
                    exact ⟨decide_eq_true hlen, hM.2⟩
                  · rw [getD_set_ne e]
                    exact hmk j (by simpa using hj)
              · subst htt
                subst htcc
                refine ⟨hm, fun _ => ⟨hm _ rfl, hmc', fun q => ?_⟩, fun q => ?_⟩
                · simp [same_self, hpc] at q
                · simp [same_self, hpl] at q
theorem ints_t : Told Try.prog 47 ints_con := ints_told csOk_nil ints_ok
theorem geoKept_in_ok : InlsOk Try.prog geoKept_in := inlsOk_cons Try.func45 (by kernel_rfl) (inlsOk_cons Try.func46 (by kernel_rfl) (inlsOk_cons Try.func49 (by kernel_rfl) inlsOk_nil))
theorem geoKept_t : Told Try.prog 14 geoKept_con := geoKept_told (csOk_cons ints_t (csOk_cons sameI_t (csOk_cons both_t (csOk_cons geoRuns_t (csOk_cons times_t (csOk_cons closed_t (csOk_cons alike_t (csOk_cons rClosed_t csOk_nil)))))))) geoKept_in_ok geoKept_ok
end Go.Eng
