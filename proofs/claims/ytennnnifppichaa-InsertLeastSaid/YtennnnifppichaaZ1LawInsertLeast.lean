/- The seat's table of types; words of contracts. -/
import Derived.Test.YtennnnifppichaaEOpen
import Derived.Test.YtennnnifppichaaProg
import Derived.KernelRfl
set_option linter.unusedVariables false
set_option linter.unusedSimpArgs false
namespace Go.Eng
open Go Go.Proofs
def tab : Tab := [
  (2, .sc none (.i 0)),
  (3, .sc none (.i 0)),
  (4, .sc none (.l false)),
  (15, .sc none (.nlp)),
  (16, .sc none (.nlp)),
  (17, .sc none (.nlp)),
  (18, .st 1 [⟨0, 1, false, 17⟩] [.nlp] false),
  (19, .st 1 [⟨0, 1, false, 17⟩] [.nlp] false),
  (22, .sc (some (.f .int, 3)) (.nls)),
  (23, .sc (some (.f .driver, 44)) (.nls)),
  (24, .sc (some (.f .order, 34)) (.nls)),
  (25, .sc (some (.route, 41)) (.nls)),
  (26, .sc (some (.route, 41)) (.nls)),
  (27, .st 5 [⟨0, 1, false, 3⟩, ⟨1, 1, false, 22⟩, ⟨2, 1, false, 23⟩, ⟨3, 1, false, 24⟩, ⟨4, 1, false, 26⟩] [.i 0, .nls, .nls, .nls, .nls] false),
  (28, .st 5 [⟨0, 1, false, 3⟩, ⟨1, 1, false, 22⟩, ⟨2, 1, false, 23⟩, ⟨3, 1, false, 24⟩, ⟨4, 1, false, 26⟩] [.i 0, .nls, .nls, .nls, .nls] false),
  (29, .st 2 [⟨0, 1, false, 3⟩, ⟨1, 1, false, 3⟩] [.i 0, .i 0] true),
  (30, .st 2 [⟨0, 1, false, 3⟩, ⟨1, 1, false, 3⟩] [.i 0, .i 0] true),
  (31, .st 4 [⟨0, 1, false, 3⟩, ⟨1, 2, true, 30⟩, ⟨3, 1, false, 3⟩] [.i 0, .i 0, .i 0, .i 0] true),
  (32, .st 4 [⟨0, 1, false, 3⟩, ⟨1, 2, true, 30⟩, ⟨3, 1, false, 3⟩] [.i 0, .i 0, .i 0, .i 0] true),
  (33, .st 10 [⟨0, 1, false, 3⟩, ⟨1, 1, false, 3⟩, ⟨2, 4, true, 32⟩, ⟨6, 4, true, 32⟩] [.i 0, .i 0, .i 0, .i 0, .i 0, .i 0, .i 0, .i 0, .i 0, .i 0] true),
  (34, .st 10 [⟨0, 1, false, 3⟩, ⟨1, 1, false, 3⟩, ⟨2, 4, true, 32⟩, ⟨6, 4, true, 32⟩] [.i 0, .i 0, .i 0, .i 0, .i 0, .i 0, .i 0, .i 0, .i 0, .i 0] true),
  (35, .sc none (.nlp)),
  (36, .sc none (.nlp)),
  (39, .sc (some (.f .stop, 70)) (.nls)),
  (40, .st 3 [⟨0, 1, false, 3⟩, ⟨1, 1, false, 3⟩, ⟨2, 1, false, 39⟩] [.i 0, .i 0, .nls] false),
  (41, .st 3 [⟨0, 1, false, 3⟩, ⟨1, 1, false, 3⟩, ⟨2, 1, false, 39⟩] [.i 0, .i 0, .nls] false),
  (43, .st 6 [⟨0, 1, false, 3⟩, ⟨1, 1, false, 3⟩, ⟨2, 1, false, 3⟩, ⟨3, 2, true, 30⟩, ⟨5, 1, false, 4⟩] [.i 0, .i 0, .i 0, .i 0, .i 0, .l false] true),
  (44, .st 6 [⟨0, 1, false, 3⟩, ⟨1, 1, false, 3⟩, ⟨2, 1, false, 3⟩, ⟨3, 2, true, 30⟩, ⟨5, 1, false, 4⟩] [.i 0, .i 0, .i 0, .i 0, .i 0, .l false] true),
  (46, .st 4 [⟨0, 1, false, 3⟩, ⟨1, 1, false, 3⟩, ⟨2, 1, false, 3⟩, ⟨3, 1, false, 3⟩] [.i 0, .i 0, .i 0, .i 0] true),
  (47, .st 4 [⟨0, 1, false, 3⟩, ⟨1, 1, false, 3⟩, ⟨2, 1, false, 3⟩, ⟨3, 1, false, 3⟩] [.i 0, .i 0, .i 0, .i 0] true),
  (48, .sc none (.i 0)),
  (60, .sc (some (.rows .visit, 83)) (.nls)),
  (61, .sc (some (.rows .visit, 83)) (.nls)),
  (62, .st 2 [⟨0, 1, false, 3⟩, ⟨1, 1, false, 48⟩] [.i 0, .i 0] true),
  (63, .st 2 [⟨0, 1, false, 3⟩, ⟨1, 1, false, 48⟩] [.i 0, .i 0] true),
  (69, .st 2 [⟨0, 1, false, 3⟩, ⟨1, 1, false, 4⟩] [.i 0, .l false] true),
  (70, .st 2 [⟨0, 1, false, 3⟩, ⟨1, 1, false, 4⟩] [.i 0, .l false] true),
  (83, .sc (some (.f .visit, 139)) (.nls)),
  (87, .sc none (.nlp)),
  (100, .st 2 [⟨0, 1, false, 3⟩, ⟨1, 1, false, 22⟩] [.i 0, .nls] false),
  (101, .st 2 [⟨0, 1, false, 3⟩, ⟨1, 1, false, 22⟩] [.i 0, .nls] false),
  (108, .st 6 [⟨0, 4, true, 47⟩, ⟨4, 1, false, 4⟩, ⟨5, 1, false, 3⟩] [.i 0, .i 0, .i 0, .i 0, .l false, .i 0] true),
  (109, .st 6 [⟨0, 4, true, 47⟩, ⟨4, 1, false, 4⟩, ⟨5, 1, false, 3⟩] [.i 0, .i 0, .i 0, .i 0, .l false, .i 0] true),
  (114, .st 2 [⟨0, 1, false, 3⟩, ⟨1, 1, false, 22⟩] [.i 0, .nls] false),
  (115, .st 2 [⟨0, 1, false, 3⟩, ⟨1, 1, false, 22⟩] [.i 0, .nls] false),
  (118, .st 5 [⟨0, 4, true, 32⟩, ⟨4, 1, false, 3⟩] [.i 0, .i 0, .i 0, .i 0, .i 0] true),
  (119, .st 5 [⟨0, 4, true, 32⟩, ⟨4, 1, false, 3⟩] [.i 0, .i 0, .i 0, .i 0, .i 0] true),
  (121, .sc (some (.f .leg, 119)) (.nls)),
  (122, .sc (some (.f .state, 126)) (.nls)),
  (123, .st 20 [⟨0, 1, false, 35⟩, ⟨1, 6, true, 44⟩, ⟨7, 1, false, 121⟩, ⟨8, 1, false, 122⟩, ⟨9, 5, true, 119⟩, ⟨14, 5, true, 119⟩, ⟨19, 1, false, 4⟩] [.nlp, .i 0, .i 0, .i 0, .i 0, .i 0, .l false, .nls, .nls, .i 0, .i 0, .i 0, .i 0, .i 0, .i 0, .i 0, .i 0, .i 0, .i 0, .l false] false),
  (124, .st 20 [⟨0, 1, false, 35⟩, ⟨1, 6, true, 44⟩, ⟨7, 1, false, 121⟩, ⟨8, 1, false, 122⟩, ⟨9, 5, true, 119⟩, ⟨14, 5, true, 119⟩, ⟨19, 1, false, 4⟩] [.nlp, .i 0, .i 0, .i 0, .i 0, .i 0, .l false, .nls, .nls, .i 0, .i 0, .i 0, .i 0, .i 0, .i 0, .i 0, .i 0, .i 0, .i 0, .l false] false),
  (125, .st 4 [⟨0, 1, false, 3⟩, ⟨1, 1, false, 3⟩, ⟨2, 1, false, 3⟩, ⟨3, 1, false, 3⟩] [.i 0, .i 0, .i 0, .i 0] true),
  (126, .st 4 [⟨0, 1, false, 3⟩, ⟨1, 1, false, 3⟩, ⟨2, 1, false, 3⟩, ⟨3, 1, false, 3⟩] [.i 0, .i 0, .i 0, .i 0] true),
  (132, .mp .stop 70 3 3 4),
  (138, .st 6 [⟨0, 2, true, 70⟩, ⟨2, 1, false, 3⟩, ⟨3, 1, false, 3⟩, ⟨4, 1, false, 3⟩, ⟨5, 1, false, 3⟩] [.i 0, .l false, .i 0, .i 0, .i 0, .i 0] true),
  (139, .st 6 [⟨0, 2, true, 70⟩, ⟨2, 1, false, 3⟩, ⟨3, 1, false, 3⟩, ⟨4, 1, false, 3⟩, ⟨5, 1, false, 3⟩] [.i 0, .l false, .i 0, .i 0, .i 0, .i 0] true),
  (161, .sc none (.nlp))]
theorem tabOk : TabOk Try.prog tab := tabOk_of (by kernel_rfl)
theorem mixed : Try.prog.follows .mixedOrders = true := by kernel_rfl
def one (r : List AV) : Res := ⟨none, [⟨none, r⟩]⟩
def yes_con : Con := ⟨[], one [.c (.b true)]⟩
structure Given (p : Prop) : Prop where
  is : p
noncomputable def same {α : Type} (xs ys : List α) : Bool := @decide (xs = ys) (Classical.propDecidable _)
/-- A statement's argument: its numbers, its sizes. -/
def pA (x : AV) : Prop := avR x ∧ x.szd
def law (p : Prop) : Res := ⟨some (Given p), [⟨none, [.c (.b true)]⟩]⟩
/-- What is told by more cases is told by fewer, where they are known. -/
theorem told_alt {P : Program} {f : Nat} {ps : List PK} {run run' : Fun ps Res} (h : Told P f ⟨ps, run⟩)
    (hr : ∀ x : Args ps, holdsO (appF ps run' x).pre → holdsO (appF ps run x).pre ∧ ∀ a ∈ (appF ps run x).alts, holdsO a.h → ∃ a' ∈ (appF ps run' x).alts, holdsO a'.h ∧ a'.r = a.r) : Told P f ⟨ps, run'⟩ := by
  refine ⟨?_, h.2⟩
  have key : ∀ (ps : List PK) (run run' : Fun ps Res) (e : Env) (Hs : Heap), (∀ x : Args ps, holdsO (appF ps run' x).pre → holdsO (appF ps run x).pre ∧ ∀ a ∈ (appF ps run x).alts, holdsO a.h → ∃ a' ∈ (appF ps run' x).alts, holdsO a'.h ∧ a'.r = a.r) →
      allArgs ps e Hs run (fun e H r => ∀ (fb : Nat → Prop) (w : World) (vs : List Value), Start fb e H vs w → holdsO r.pre → Calls P f vs.toArray w (RetOk fb r.alts w vs)) →
      allArgs ps e Hs run' (fun e H r => ∀ (fb : Nat → Prop) (w : World) (vs : List Value), Start fb e H vs w → holdsO r.pre → Calls P f vs.toArray w (RetOk fb r.alts w vs)) := by
    intro ps
    induction ps with
    | nil =>
      intro run run' e Hs hr hk fb w vs hs hp
      obtain ⟨h1, h2⟩ := hr () hp
      refine Calls.mono (hk fb w vs hs h1) fun en w' he => ?_
      cases en with
      | panicked c => exact he
      | outgrown => exact he
      | returned v =>
        obtain ⟨a, ha, ⟨hh, hm⟩, hAl⟩ := he
        obtain ⟨a', ha', hh', e⟩ := h2 a ha hh
        refine ⟨a', ha', ⟨hh', ?_⟩, ?_⟩
        · rw [e]; exact hm
        · rw [e]; exact hAl
    | cons p ps ih =>
      intro run run' e Hs hr hk
      refine overP_iff.2 fun x => imp_iff.2 fun ho => ?_
      have := imp_iff.1 (overP_iff.1 hk x) ho
      exact ih (run x) (run' x) _ _ (fun y => hr (x, y)) this
  exact key ps run run' [] [] hr h.1
end Go.Eng

/- Lists that are compared, copied, kept: plain laws for the books of memory. -/
set_option linter.unusedVariables false
set_option linter.unusedSimpArgs false
namespace Go.Eng
open Go

theorem wrap_id {n : Int} (h : -9223372036854775808 ≤ n) (h' : n ≤ 9223372036854775807) : wrap n = n := by
  simp [wrap, IntKind.wrap, IntKind.bits, IntKind.signed]
  split <;> omega
theorem bad_false {n : Nat} {α : Type} {x : α} : Bad n α x ↔ False := ⟨fun h => (nomatch h), False.elim⟩
@[reducible] def s0 : Stop := FK.zero .stop
@[reducible] def v0 : Visit := FK.zero .visit
@[reducible] def d0 : Driver := FK.zero .driver
theorem int0 : Int.ofNat (0 : Nat) = (0 : Int) := rfl
theorem getD_drop {α : Type} {l : List α} {i : Nat} {d : α} (h : i < l.length) : l.drop i = l.getD i d :: l.drop (i + 1) := by
  rw [List.drop_eq_getElem_cons h]; simp [h]
end Go.Eng

/- What the functions of windows tell: the program's, the document's own. -/
set_option linter.unusedVariables false
set_option linter.unusedSimpArgs false
namespace Go.Eng
open Go Go.Proofs
def right (w : Win) : Bool := decide (0 ≤ w.lo) && decide (w.lo ≤ w.hi) && decide (w.hi ≤ 1000000)
def begin_ (w : Win) (t : Int) : Int × Bool := if right w && decide (t ≤ w.hi) then (max t w.lo, true) else (0, false)
def right_con : Con := ⟨[.r (.f .win)], fun w => one [.c (.b (right w))]⟩
def begin_con : Con := ⟨[.r (.f .win), .c .i], fun w t => one [.c (.i (begin_ w t).1), .c (.b (begin_ w t).2)]⟩
def right_cs : Cons := []
def right_la : List (Nat × LA) := []
def begin_cs : Cons := [(76, right_con)]
def begin_la : List (Nat × LA) := []
end Go.Eng

/- The conditions of functions, as print.. of the engine told them. -/
set_option linter.unusedVariables false
namespace Go.Eng
open Go Go.Proofs
def right_vc : Prop :=
  ∀ (x : Win), (decide (x.lo ≥ (0 : Int)) = true → (decide (x.lo ≤ x.hi) = true → decide (x.hi ≤ (1000000 : Int)) = right x) ∧ (decide (x.lo ≤ x.hi) = !true → false = right x)) ∧ (decide (x.lo ≥ (0 : Int)) = !true → false = right x)
theorem right_told (hc : CsOk Try.prog right_cs) (h : right_vc) : Told Try.prog 76 right_con := told (A := right_la) tabOk mixed hc Try.func76 (by kernel_rfl) (by kernel_rfl) h
def begin_vc : Prop :=
  ∀ (x : Win) (x_1 : Int), ((!right x) = false → (decide (x_1 > x.hi) = true → (0 : Int) = (begin_ x x_1).fst ∧ false = (begin_ x x_1).snd) ∧ (decide (x_1 > x.hi) = false → max x_1 x.lo = (begin_ x x_1).fst ∧ true = (begin_ x x_1).snd)) ∧
  ((!right x) = !false → (0 : Int) = (begin_ x x_1).fst ∧ false = (begin_ x x_1).snd)
theorem begin_told (hc : CsOk Try.prog begin_cs) (h : begin_vc) : Told Try.prog 63 begin_con := told (A := begin_la) tabOk mixed hc Try.func63 (by kernel_rfl) (by kernel_rfl) h
end Go.Eng

/- What the functions of windows tell is so. -/
set_option linter.unusedVariables false
set_option linter.unusedSimpArgs false
namespace Go.Eng
open Go Go.Proofs
theorem right_ok : right_vc := by
  unfold right_vc; intros; simp only [right]; grind
theorem right_t : Told Try.prog 76 right_con := right_told csOk_nil right_ok
theorem begin_ok : begin_vc := by
  unfold begin_vc; intros; simp only [begin_]; grind
theorem begin_t : Told Try.prog 63 begin_con := begin_told (csOk_cons right_t csOk_nil) begin_ok
end Go.Eng

/- Maps of places, in plain words: made, asked, closed. No program in sight. -/
set_option linter.unusedVariables false
set_option linter.unusedSimpArgs false
namespace Go.Eng
open Go

/-- What is wrong with a map's times. -/
def newE (n : Int) (ts : List Int) : Int :=
  if n < 1 || decide (n > 12) then 1 else if !decide ((ts.length : Int) = n * n) then 2
  else if !ts.all (fun t => decide (0 ≤ t) && decide (t ≤ 1000000)) then 7
  else if !(List.range n.toNat).all (fun a => decide (ts.getD (a * n.toNat + a) 0 = 0)) then 4 else 0
structure MapOk (m : MapD) : Prop where
  lo : 1 ≤ m.n
  hi : m.n ≤ 12
  len : m.l.length = m.n.toNat * m.n.toNat
  pos : ∀ i, 0 ≤ m.l.getD i 0
  top : ∀ i, m.l.getD i 0 ≤ 1000000
  diag : ∀ a, a < m.n.toNat → m.l.getD (a * m.n.toNat + a) 0 = 0
def MapOkO (m : Option MapD) : Prop := ∀ x, m = some x → MapOk x
def tm (m : MapD) (a b : Int) : Int := m.l.getD (a.toNat * m.n.toNat + b.toNat) 0
def inMap (m : MapD) (a : Int) : Bool := decide (0 ≤ a) && decide (a < m.n)
def mtime (m : Option MapD) (a b : Int) : Int × Bool := match m with
  | none => (0, false)
  | some m => if inMap m a && inMap m b then (tm m a b, true) else (0, false)
def places (m : Option MapD) : Int := match m with | none => 0 | some m => m.n
def times (m : Option MapD) : List Int := match m with | none => [] | some m => m.l

def itr {α : Type} (f : Nat → α → α) : Nat → α → α
  | 0, x => x
  | k + 1, x => f k (itr f k x)
def relax (n b a d : Nat) (l : List Int) : List Int := l.set (a * n + d) (min (l.getD (a * n + d) 0) (l.getD (a * n + b) 0 + l.getD (b * n + d) 0))
def fwA (n b a : Nat) (l : List Int) : List Int := itr (fun d l => relax n b a d l) n l
def fwB (n b : Nat) (l : List Int) : List Int := itr (fun a l => fwA n b a l) n l
def fw (n : Nat) (l : List Int) : List Int := itr (fun b l => fwB n b l) n l
def closed (m : MapD) : MapD := ⟨m.n, fw m.n.toNat m.l⟩
theorem getD_all {l : List Int} {p : Int → Prop} (h0 : p 0) (h : ∀ x ∈ l, p x) (i : Nat) : p (l.getD i 0) := by
  rw [List.getD_eq_getElem?_getD]
  cases hi : l[i]? with
  | none => exact h0
  | some x => exact h x (List.mem_of_getElem? hi)
theorem newE_ok {n : Int} {ts : List Int} : newE n ts = 0 ↔ MapOk ⟨n, ts⟩ := by
  unfold newE
  constructor
  · intro h
    split at h
    · cases h
    · rename_i h1
      split at h
      · cases h
      · rename_i h2
        split at h
        · cases h
        · rename_i h3
          split at h
          · cases h
          · rename_i h4
            have h3 : ∀ x ∈ ts, 0 ≤ x ∧ x ≤ 1000000 := by
              have : ts.all (fun t => decide (0 ≤ t) && decide (t ≤ 1000000)) = true := by simpa only [Bool.not_eq_true', Bool.not_eq_false] using h3
              simpa only [List.all_eq_true, Bool.and_eq_true, decide_eq_true_eq] using this
            have h4 : ∀ a, a < n.toNat → ts.getD (a * n.toNat + a) 0 = 0 := by
              have : (List.range n.toNat).all (fun a => decide (ts.getD (a * n.toNat + a) 0 = 0)) = true := by simpa only [Bool.not_eq_true', Bool.not_eq_false] using h4
              simpa only [List.all_eq_true, List.mem_range, decide_eq_true_eq] using this
            simp only [Bool.or_eq_true, decide_eq_true_eq, not_or, Bool.not_eq_true', decide_eq_false_iff_not, Decidable.not_not] at h1 h2
            obtain ⟨h1a, h1b⟩ := h1
            have hl : ts.length = n.toNat * n.toNat := by
              have : (n.toNat : Int) = n := by omega
              have h5 : (ts.length : Int) = ((n.toNat * n.toNat : Nat) : Int) := by rw [h2, Int.natCast_mul, this]
              exact_mod_cast h5
            refine ⟨by show 1 ≤ n; omega, by show n ≤ 12; omega, hl, fun i => getD_all (p := fun x => 0 ≤ x) (by decide) (fun x hx => ?_) i, fun i => getD_all (p := fun x => x ≤ 1000000) (by decide) (fun x hx => ?_) i, fun a ha => ?_⟩
            · exact (h3 x hx).1
            · exact (h3 x hx).2
            · exact h4 a ha
  · rintro ⟨h1, h2, h3, h4, h5, h6⟩
    dsimp only at h1 h2 h3 h4 h5 h6
    have hl : (ts.length : Int) = n * n := by
      have : (n.toNat : Int) = n := by omega
      rw [h3, Int.natCast_mul, this]
    have ha : ts.all (fun t => decide (0 ≤ t) && decide (t ≤ 1000000)) = true := by
      simp only [List.all_eq_true, Bool.and_eq_true, decide_eq_true_eq]
      intro x hx
      obtain ⟨i, hi, rfl⟩ := List.getElem_of_mem hx
      have e : ts.getD i 0 = ts[i] := by simp [hi]
      rw [← e]; exact ⟨h4 i, h5 i⟩
    have hd : (List.range n.toNat).all (fun a => decide (ts.getD (a * n.toNat + a) 0 = 0)) = true := by
      simp only [List.all_eq_true, List.mem_range, decide_eq_true_eq]
      exact h6
    rw [if_neg (by simp; omega), if_neg (by simp [hl]), if_neg (by simp only [ha]; decide), if_neg (by simp only [hd]; decide)]
theorem ix_lt {n a d : Nat} (ha : a < n) (hd : d < n) : a * n + d < n * n := by
  have : (a + 1) * n ≤ n * n := Nat.mul_le_mul_right _ ha
  rw [Nat.add_mul, Nat.one_mul] at this
  omega
/-- A place's number in the list of times, as the code reckons it. -/
theorem ix_eq {n a d : Int} (hn : n ≤ 12) (ha : 0 ≤ a) (ha' : a < n) (hd : 0 ≤ d) (hd' : d < n) : wrap (wrap (a * n) + d) = ((a.toNat * n.toNat + d.toNat : Nat) : Int) ∧ a.toNat * n.toNat + d.toNat < n.toNat * n.toNat := by
  have h1 := ix_lt (n := n.toNat) (a := a.toNat) (d := d.toNat) (by omega) (by omega)
  have h2 : n.toNat * n.toNat ≤ 12 * 12 := Nat.mul_le_mul (by omega) (by omega)
  have h3 : ((a.toNat * n.toNat : Nat) : Int) = a * n := by rw [Int.natCast_mul]; congr 1 <;> omega
  rw [← h3]
  refine ⟨?_, h1⟩
  rw [wrap_id (n := ((a.toNat * n.toNat : Nat) : Int)) (by omega) (by omega), wrap_id (by omega) (by omega)]
  omega
end Go.Eng

/- What the functions of maps tell. -/
set_option linter.unusedVariables false
set_option linter.unusedSimpArgs false
namespace Go.Eng
open Go Go.Proofs

def new_con : Con := ⟨[.c .i, .c (.a (.f .int))], fun n ts => ⟨none, [⟨some (newE n ts ≠ 0), [.c .np, .c (.i (newE n ts))]⟩, ⟨some (newE n ts = 0), [.p true 101 [.i n, .o .int 3 ts], .c (.i 0)]⟩]⟩⟩
/-- .. of numbers that are known. -/
def newC_con : Con := ⟨[.c .i, .c (.a (.f .int))], fun n ts => ⟨none, [bif decide (newE n ts = 0) then ⟨none, [.p true 101 [.i n, .o .int 3 ts], .c (.i 0)]⟩ else ⟨none, [.c .np, .c (.i (newE n ts))]⟩]⟩⟩
def new_cs : Cons := []
def new_la : List (Nat × LA) := [(6, ⟨[0, 1, 21, 22], [.i 23]⟩), (12, ⟨[0, 1, 34], [.i 35]⟩)]
def rNew_con : Con := ⟨[.c .i, .c (.a (.f .int))], fun n ts => ⟨none, [⟨some (newE n ts ≠ 0), [.c .np, .c (.i (newE n ts))]⟩, ⟨some (newE n ts = 0), [.p true 115 [.i n, .o .int 3 ts], .c (.i 0)]⟩]⟩⟩
def rNew_cs : Cons := []
def rNew_la : List (Nat × LA) := [(6, ⟨[0, 1], [.i 6]⟩), (11, ⟨[0, 1], [.i 7]⟩)]
def time_con : Con := ⟨[.q .map 101, .c .i, .c .i], fun m a b => ⟨some (MapOkO m), [⟨none, [.c (.i (mtime m a b).1), .c (.b (mtime m a b).2)]⟩]⟩⟩
def time_cs : Cons := []
def time_la : List (Nat × LA) := []
def places_con : Con := ⟨[.q .map 101], fun m => one [.c (.i (places m))]⟩
def places_cs : Cons := []
def places_la : List (Nat × LA) := []
end Go.Eng

/- The conditions of functions, as print.. of the engine told them. -/
set_option linter.unusedVariables false
namespace Go.Eng
open Go Go.Proofs
def new_vc : Prop :=
  ∀ (x : Int) (x_1 : List Int), LenOk x_1.length → (decide (x < (1 : Int)) = false → (decide (x > (12 : Int)) = true → newE x x_1 ≠ (0 : Int) ∧ (1 : Int) = newE x x_1 ∨ Bad (nat_lit 18) (List SW) [SW.c SC.nlp, SW.c (SC.i (Int.ofNat (nat_lit
  1)))]) ∧ (decide (x > (12 : Int)) = false → ((!decide ((↑x_1.length : Int) = wrap (x * x))) = true → newE x x_1 ≠ (0 : Int) ∧ (2 : Int) = newE x x_1 ∨ Bad (nat_lit 18) (List SW) [SW.c SC.nlp, SW.c (SC.i (Int.ofNat (nat_lit 2)))]) ∧
  ((!decide ((↑x_1.length : Int) = wrap (x * x))) = false → ∃ (inv : Int → Prop), ∃ (μ : Int → Nat), (((x = x ∧ (↑x_1.length : Int) = (↑x_1.length : Int) ∧ (0 : Int) = (0 : Int)) ∧ x_1 = x_1) ∧ inv (0 : Int)) ∧ ∀ (x_6 : Int), inv x_6 →
  (decide (x_6 < (↑x_1.length : Int)) = true → ((0 : Int) ≤ x_6 ∧ x_6 < (↑x_1.length : Int)) ∧ x_6.toNat < x_1.length ∧ (decide (x_1.getD x_6.toNat (Int.ofNat (0 : Nat)) < (0 : Int)) = false → (decide (x_1.getD x_6.toNat (Int.ofNat (0 : Nat))
  > (1000000 : Int)) = true → newE x x_1 ≠ (0 : Int) ∧ (7 : Int) = newE x x_1 ∨ Bad (nat_lit 18) (List SW) [SW.c SC.nlp, SW.c (SC.i (Int.ofNat (nat_lit 7)))]) ∧ (decide (x_1.getD x_6.toNat (Int.ofNat (0 : Nat)) > (1000000 : Int)) = false →
  ((x = x ∧ (↑x_1.length : Int) = (↑x_1.length : Int) ∧ wrap (x_6 + (1 : Int)) = wrap (x_6 + (1 : Int))) ∧ x_1 = x_1) ∧ inv (wrap (x_6 + (1 : Int))) ∧ μ (wrap (x_6 + (1 : Int))) < μ x_6)) ∧ (decide (x_1.getD x_6.toNat (Int.ofNat (0 : Nat)) <
  (0 : Int)) = !false → newE x x_1 ≠ (0 : Int) ∧ (7 : Int) = newE x x_1 ∨ Bad (nat_lit 18) (List SW) [SW.c SC.nlp, SW.c (SC.i (Int.ofNat (nat_lit 7)))])) ∧ (decide (x_6 < (↑x_1.length : Int)) = false → ∃ (inv : Int → Prop), ∃ (μ : Int → Nat),
  (((x = x ∧ x = x ∧ (0 : Int) = (0 : Int)) ∧ x_1 = x_1) ∧ inv (0 : Int)) ∧ ∀ (x_9 : Int), inv x_9 → (decide (x_9 < x) = true → ((0 : Int) ≤ wrap (wrap (x_9 * x) + x_9) ∧ wrap (wrap (x_9 * x) + x_9) < (↑x_1.length : Int)) ∧ (wrap (wrap (x_9 *
  x) + x_9)).toNat < x_1.length ∧ ((!decide (x_1.getD (wrap (wrap (x_9 * x) + x_9)).toNat (Int.ofNat (0 : Nat)) = (0 : Int))) = true → newE x x_1 ≠ (0 : Int) ∧ (4 : Int) = newE x x_1 ∨ Bad (nat_lit 18) (List SW) [SW.c SC.nlp, SW.c (SC.i
  (Int.ofNat (nat_lit 4)))]) ∧ ((!decide (x_1.getD (wrap (wrap (x_9 * x) + x_9)).toNat (Int.ofNat (0 : Nat)) = (0 : Int))) = false → ((x = x ∧ x = x ∧ wrap (x_9 + (1 : Int)) = wrap (x_9 + (1 : Int))) ∧ x_1 = x_1) ∧ inv (wrap (x_9 + (1 :
  Int))) ∧ μ (wrap (x_9 + (1 : Int))) < μ x_9)) ∧ (decide (x_9 < x) = false → (True ∧ x_1.length * ((8 : Nat) * (1 : Nat)) ≤ (140737488355328 : Nat)) ∧ (Bad (nat_lit 18) (List SW) [SW.c (SC.p (nat_lit 2) (nat_lit 0)), SW.c (SC.i (Int.ofNat
  (nat_lit 0)))] ∨ newE x x_1 = (0 : Int) ∧ (0 : Int) = (0 : Int) ∧ x = x ∧ x_1 = x_1)))))) ∧ (decide (x < (1 : Int)) = !false → newE x x_1 ≠ (0 : Int) ∧ (1 : Int) = newE x x_1 ∨ Bad (nat_lit 18) (List SW) [SW.c SC.nlp, SW.c (SC.i (Int.ofNat
  (nat_lit 1)))])
theorem new_told (hc : CsOk Try.prog new_cs) (h : new_vc) : Told Try.prog 21 new_con := told (A := new_la) tabOk mixed hc Try.func21 (by kernel_rfl) (by kernel_rfl) h
def rNew_vc : Prop :=
  ∀ (x : Int) (x_1 : List Int), LenOk x_1.length → (decide (x < (1 : Int)) = false → (decide (x > (12 : Int)) = true → newE x x_1 ≠ (0 : Int) ∧ (1 : Int) = newE x x_1 ∨ Bad (nat_lit 18) (List SW) [SW.c SC.nlp, SW.c (SC.i (Int.ofNat (nat_lit
  1)))]) ∧ (decide (x > (12 : Int)) = false → ((!decide ((↑x_1.length : Int) = wrap (x * x))) = true → newE x x_1 ≠ (0 : Int) ∧ (2 : Int) = newE x x_1 ∨ Bad (nat_lit 18) (List SW) [SW.c SC.nlp, SW.c (SC.i (Int.ofNat (nat_lit 2)))]) ∧
  ((!decide ((↑x_1.length : Int) = wrap (x * x))) = false → ∃ (inv : Int → Prop), ∃ (μ : Int → Nat), (((x = x ∧ (0 : Int) = (0 : Int)) ∧ x_1 = x_1) ∧ inv (0 : Int)) ∧ ∀ (x_6 : Int), inv x_6 → (decide (x_6 < (↑x_1.length : Int)) = true → ((0 :
  Int) ≤ x_6 ∧ x_6 < (↑x_1.length : Int)) ∧ x_6.toNat < x_1.length ∧ (decide (x_1.getD x_6.toNat (Int.ofNat (0 : Nat)) < (0 : Int)) = false → ((0 : Int) ≤ x_6 ∧ x_6 < (↑x_1.length : Int)) ∧ x_6.toNat < x_1.length ∧ (decide (x_1.getD x_6.toNat
  (Int.ofNat (0 : Nat)) > (1000000 : Int)) = true → newE x x_1 ≠ (0 : Int) ∧ (7 : Int) = newE x x_1 ∨ Bad (nat_lit 18) (List SW) [SW.c SC.nlp, SW.c (SC.i (Int.ofNat (nat_lit 7)))]) ∧ (decide (x_1.getD x_6.toNat (Int.ofNat (0 : Nat)) >
  (1000000 : Int)) = false → ((x = x ∧ wrap (x_6 + (1 : Int)) = wrap (x_6 + (1 : Int))) ∧ x_1 = x_1) ∧ inv (wrap (x_6 + (1 : Int))) ∧ μ (wrap (x_6 + (1 : Int))) < μ x_6)) ∧ (decide (x_1.getD x_6.toNat (Int.ofNat (0 : Nat)) < (0 : Int)) =
  !false → newE x x_1 ≠ (0 : Int) ∧ (7 : Int) = newE x x_1 ∨ Bad (nat_lit 18) (List SW) [SW.c SC.nlp, SW.c (SC.i (Int.ofNat (nat_lit 7)))])) ∧ (decide (x_6 < (↑x_1.length : Int)) = false → ∃ (inv : Int → Prop), ∃ (μ : Int → Nat), (((x = x ∧
  (0 : Int) = (0 : Int)) ∧ x_1 = x_1) ∧ inv (0 : Int)) ∧ ∀ (x_9 : Int), inv x_9 → (decide (x_9 < x) = true → ((0 : Int) ≤ wrap (wrap (x_9 * x) + x_9) ∧ wrap (wrap (x_9 * x) + x_9) < (↑x_1.length : Int)) ∧ (wrap (wrap (x_9 * x) + x_9)).toNat <
  x_1.length ∧ ((!decide (x_1.getD (wrap (wrap (x_9 * x) + x_9)).toNat (Int.ofNat (0 : Nat)) = (0 : Int))) = true → newE x x_1 ≠ (0 : Int) ∧ (4 : Int) = newE x x_1 ∨ Bad (nat_lit 18) (List SW) [SW.c SC.nlp, SW.c (SC.i (Int.ofNat (nat_lit
  4)))]) ∧ ((!decide (x_1.getD (wrap (wrap (x_9 * x) + x_9)).toNat (Int.ofNat (0 : Nat)) = (0 : Int))) = false → ((x = x ∧ wrap (x_9 + (1 : Int)) = wrap (x_9 + (1 : Int))) ∧ x_1 = x_1) ∧ inv (wrap (x_9 + (1 : Int))) ∧ μ (wrap (x_9 + (1 :
  Int))) < μ x_9)) ∧ (decide (x_9 < x) = false → (True ∧ ((0 : Nat) + x_1.length) * ((8 : Nat) * (1 : Nat)) ≤ (140737488355328 : Nat)) ∧ (Bad (nat_lit 18) (List SW) [SW.c (SC.p (nat_lit 3) (nat_lit 0)), SW.c (SC.i (Int.ofNat (nat_lit 0)))] ∨
  newE x x_1 = (0 : Int) ∧ (0 : Int) = (0 : Int) ∧ x = x ∧ [] ++ x_1 = x_1)))))) ∧ (decide (x < (1 : Int)) = !false → newE x x_1 ≠ (0 : Int) ∧ (1 : Int) = newE x x_1 ∨ Bad (nat_lit 18) (List SW) [SW.c SC.nlp, SW.c (SC.i (Int.ofNat (nat_lit
  1)))])
theorem rNew_told (hc : CsOk Try.prog rNew_cs) (h : rNew_vc) : Told Try.prog 27 rNew_con := told (A := rNew_la) tabOk mixed hc Try.func27 (by kernel_rfl) (by kernel_rfl) h
def time_vc : Prop :=
  (∀ (x x_1 : Int), (∀ (x : MapD), none = some x → MapOk x) → (0 : Int) = (mtime none x x_1).fst ∧ false = (mtime none x x_1).snd) ∧ ∀ (x : MapD), LenOk x.l.length → ∀ (x_2 x_3 : Int), (∀ (x_4 : MapD), some x = some x_4 → MapOk x_4) → (decide
  (x_2 < (0 : Int)) = false → (decide (x_3 < (0 : Int)) = false → (decide (x_2 ≥ x.n) = false → (decide (x_3 ≥ x.n) = true → (0 : Int) = (mtime (some x) x_2 x_3).fst ∧ false = (mtime (some x) x_2 x_3).snd) ∧ (decide (x_3 ≥ x.n) = false → ((0
  : Int) ≤ wrap (wrap (x_2 * x.n) + x_3) ∧ wrap (wrap (x_2 * x.n) + x_3) < (↑x.l.length : Int)) ∧ (wrap (wrap (x_2 * x.n) + x_3)).toNat < x.l.length ∧ x.l.getD (wrap (wrap (x_2 * x.n) + x_3)).toNat (Int.ofNat (0 : Nat)) = (mtime (some x) x_2
  x_3).fst ∧ true = (mtime (some x) x_2 x_3).snd)) ∧ (decide (x_2 ≥ x.n) = !false → (0 : Int) = (mtime (some x) x_2 x_3).fst ∧ false = (mtime (some x) x_2 x_3).snd)) ∧ (decide (x_3 < (0 : Int)) = !false → (0 : Int) = (mtime (some x) x_2
  x_3).fst ∧ false = (mtime (some x) x_2 x_3).snd)) ∧ (decide (x_2 < (0 : Int)) = !false → (0 : Int) = (mtime (some x) x_2 x_3).fst ∧ false = (mtime (some x) x_2 x_3).snd)
theorem time_told (hc : CsOk Try.prog time_cs) (h : time_vc) : Told Try.prog 58 time_con := told (A := time_la) tabOk mixed hc Try.func58 (by kernel_rfl) (by kernel_rfl) h
def places_vc : Prop :=
  (0 : Int) = places none ∧ ∀ (x : MapD), LenOk x.l.length → x.n = places (some x)
theorem places_told (hc : CsOk Try.prog places_cs) (h : places_vc) : Told Try.prog 80 places_con := told (A := places_la) tabOk mixed hc Try.func80 (by kernel_rfl) (by kernel_rfl) h
end Go.Eng

/- What the functions of maps tell is so. -/
set_option linter.unusedVariables false
set_option linter.unusedSimpArgs false
namespace Go.Eng
open Go Go.Proofs

/-- The laws of the code's own making of a map: bounds for its loops. -/
theorem all_next' {l : List Int} {f : Int → Bool} {i : Int} (h0 : 0 ≤ i) (h : i < l.length) : (l.take (i + 1).toNat).all f = ((l.take i.toNat).all f && f (l.getD i.toNat 0)) := by
  have hi : i.toNat < l.length := by omega
  have e : (i + 1).toNat = i.toNat + 1 := by omega
  rw [e, List.take_add_one, List.getElem?_eq_getElem hi, List.all_append]
  simp [hi]
theorem range_next {n : Nat} {f : Nat → Bool} : (List.range (n + 1)).all f = ((List.range n).all f && f n) := by
  rw [List.range_succ, List.all_append]; simp
theorem all_not {l : List Int} {f : Int → Bool} {i : Int} (h0 : 0 ≤ i) (h : i < l.length) (hf : f (l.getD i.toNat 0) = false) : l.all f = false := by
  have hi : i.toNat < l.length := by omega
  rw [List.all_eq_false]
  refine ⟨l[i.toNat], List.getElem_mem hi, ?_⟩
  have : l.getD i.toNat 0 = l[i.toNat] := by simp [hi]
  rw [this] at hf; simp [hf]
theorem range_not {n k : Nat} {f : Nat → Bool} (h : k < n) (hf : f k = false) : (List.range n).all f = false := by
  rw [List.all_eq_false]
  exact ⟨k, by simp [h], by simp [hf]⟩
theorem newE_1 {n : Int} {ts : List Int} (h : n < 1 ∨ 12 < n) : newE n ts = 1 := by
  unfold newE; rw [if_pos (by simp; omega)]
theorem newE_2 {n : Int} {ts : List Int} (h1 : ¬ n < 1) (h2 : ¬ 12 < n) (h : ¬ (ts.length : Int) = n * n) : newE n ts = 2 := by
  unfold newE; rw [if_neg (by simp; omega), if_pos (by simp [h])]
theorem newE_7 {n : Int} {ts : List Int} (h1 : ¬ n < 1) (h2 : ¬ 12 < n) (h : (ts.length : Int) = n * n) (h3 : ts.all (fun t => decide (0 ≤ t) && decide (t ≤ 1000000)) = false) : newE n ts = 7 := by
  unfold newE; rw [if_neg (by simp; omega), if_neg (by simp [h]), if_pos (by rw [h3]; rfl)]
theorem newE_4 {n : Int} {ts : List Int} (h1 : ¬ n < 1) (h2 : ¬ 12 < n) (h : (ts.length : Int) = n * n) (h3 : ts.all (fun t => decide (0 ≤ t) && decide (t ≤ 1000000)) = true) (h4 : (List.range n.toNat).all (fun a => decide (ts.getD (a * n.toNat + a) 0 = 0)) = false) : newE n ts = 4 := by
  unfold newE; rw [if_neg (by simp; omega), if_neg (by simp [h]), if_neg (by rw [h3]; decide), if_pos (by rw [h4]; rfl)]
theorem newE_0 {n : Int} {ts : List Int} (h1 : ¬ n < 1) (h2 : ¬ 12 < n) (h : (ts.length : Int) = n * n) (h3 : ts.all (fun t => decide (0 ≤ t) && decide (t ≤ 1000000)) = true) (h4 : (List.range n.toNat).all (fun a => decide (ts.getD (a * n.toNat + a) 0 = 0)) = true) : newE n ts = 0 := by
  unfold newE; rw [if_neg (by simp; omega), if_neg (by simp [h]), if_neg (by rw [h3]; decide), if_neg (by rw [h4]; decide)]
theorem sq_wrap {n : Int} (h1 : ¬ n < 1) (h2 : ¬ 12 < n) : wrap (n * n) = n * n ∧ n * n ≤ 144 := by
  have h : n * n ≤ 12 * 12 := Int.mul_le_mul (by omega) (by omega) (by omega) (by omega)
  have h0 : 0 ≤ n * n := Int.mul_nonneg (by omega) (by omega)
  exact ⟨wrap_id (by omega) (by omega), by omega⟩
theorem bad_t {x : Int} (h : x < 0 ∨ 1000000 < x) : (decide (0 ≤ x) && decide (x ≤ 1000000)) = false := by
  rw [Bool.and_eq_false_iff, decide_eq_false_iff_not, decide_eq_false_iff_not]; omega
theorem good_t {x : Int} (h : 0 ≤ x) (h' : x ≤ 1000000) : (true && (decide (0 ≤ x) && decide (x ≤ 1000000))) = true := by
  rw [Bool.true_and, Bool.and_eq_true, decide_eq_true_eq, decide_eq_true_eq]; exact ⟨h, h'⟩
theorem new_ok : new_vc := by
  intro n ts hl
  have hl := hl.le
  simp only [bad_false, int0, nilOf, decide_eq_true_eq, decide_eq_false_iff_not, Bool.not_eq_true', Bool.not_eq_false', Bool.not_true, Bool.not_false, Bool.false_eq_true, Bool.true_eq_false, eq_self, true_and, and_true, false_or, or_false, false_implies, true_implies, implies_true, Int.not_lt, Int.not_le, gt_iff_lt, ge_iff_le, ne_eq]
  refine ⟨fun h1 => ⟨fun h2 => ?_, fun h2 => ⟨fun h3 => ?_, fun h3 => ?_⟩⟩, fun h1 => ?_⟩
  · rw [newE_1 (.inr h2)]; decide
  · rw [(sq_wrap (by omega) (by omega)).1] at h3
    rw [newE_2 (by omega) (by omega) h3]; decide
  · obtain ⟨hsq, hsq2⟩ := sq_wrap (n := n) (by omega) (by omega)
    rw [hsq] at h3
    refine ⟨fun i => 0 ≤ i ∧ i ≤ (ts.length : Int) ∧ (ts.take i.toNat).all (fun t => decide (0 ≤ t) && decide (t ≤ 1000000)) = true, fun i => ts.length - i.toNat, ⟨by omega, by omega, by simp⟩, fun i hi => ⟨fun h => ?_, fun h => ?_⟩⟩
    · obtain ⟨i0, i1, i2⟩ := hi
      rw [wrap_id (n := i + 1) (by omega) (by omega)]
      refine ⟨⟨i0, h⟩, by omega, fun h4 => ⟨fun h5 => ?_, fun h5 => ⟨⟨by omega, by omega, ?_⟩, by dsimp only; omega⟩⟩, fun h4 => ?_⟩
      · rw [newE_7 (by omega) (by omega) h3 (all_not i0 h (bad_t (.inr h5)))]; decide
      · rw [all_next' i0 h, i2]; exact good_t h4 h5
      · rw [newE_7 (by omega) (by omega) h3 (all_not i0 h (bad_t (.inl h4)))]; decide
    · have hall : ts.all (fun t => decide (0 ≤ t) && decide (t ≤ 1000000)) = true := by
        have := hi.2.2
        rwa [List.take_of_length_le (by omega)] at this
      refine ⟨fun i => 0 ≤ i ∧ i ≤ n ∧ (List.range i.toNat).all (fun a => decide (ts.getD (a * n.toNat + a) 0 = 0)) = true, fun i => n.toNat - i.toNat, ⟨by omega, by omega, by simp⟩, fun i hi => ⟨fun h => ?_, fun h => ?_⟩⟩
      · obtain ⟨i0, i1, i2⟩ := hi
        obtain ⟨e1, e2⟩ := ix_eq (n := n) (a := i) (d := i) (by omega) i0 h i0 h
        have hlen : ts.length = n.toNat * n.toNat := by
          have : (n.toNat : Int) = n := by omega
          have h5 : (ts.length : Int) = ((n.toNat * n.toNat : Nat) : Int) := by rw [h3, Int.natCast_mul, this]
          exact_mod_cast h5
        rw [e1, wrap_id (n := i + 1) (by omega) (by omega), Int.toNat_natCast]
        refine ⟨⟨by omega, by omega⟩, by omega, fun h4 => ?_, fun h4 => ⟨⟨by omega, by omega, ?_⟩, by dsimp only; omega⟩⟩
        · rw [newE_4 (by omega) (by omega) h3 hall (range_not (k := i.toNat) (by omega) (decide_eq_false h4))]; decide
        · rw [show (i + 1).toNat = i.toNat + 1 by omega, range_next, i2, Bool.true_and]; exact decide_eq_true h4
      · dsimp only at hi
        have : i.toNat = n.toNat := by omega
        rw [this] at hi
        refine ⟨by omega, newE_0 (by omega) (by omega) h3 hall hi.2.2⟩
  · rw [newE_1 (.inl h1)]; decide
theorem rNew_ok : rNew_vc := by
  intro n ts hl
  have hl := hl.le
  simp only [bad_false, int0, nilOf, decide_eq_true_eq, decide_eq_false_iff_not, Bool.not_eq_true', Bool.not_eq_false', Bool.not_true, Bool.not_false, Bool.false_eq_true, Bool.true_eq_false, eq_self, true_and, and_true, false_or, or_false, false_implies, true_implies, implies_true, Int.not_lt, Int.not_le, gt_iff_lt, ge_iff_le, ne_eq]
  refine ⟨fun h1 => ⟨fun h2 => ?_, fun h2 => ⟨fun h3 => ?_, fun h3 => ?_⟩⟩, fun h1 => ?_⟩
  · rw [newE_1 (.inr h2)]; decide
  · rw [(sq_wrap (by omega) (by omega)).1] at h3
    rw [newE_2 (by omega) (by omega) h3]; decide
  · obtain ⟨hsq, hsq2⟩ := sq_wrap (n := n) (by omega) (by omega)
    rw [hsq] at h3
    refine ⟨fun i => 0 ≤ i ∧ i ≤ (ts.length : Int) ∧ (ts.take i.toNat).all (fun t => decide (0 ≤ t) && decide (t ≤ 1000000)) = true, fun i => ts.length - i.toNat, ⟨by omega, by omega, by simp⟩, fun i hi => ⟨fun h => ?_, fun h => ?_⟩⟩
    · obtain ⟨i0, i1, i2⟩ := hi
      rw [wrap_id (n := i + 1) (by omega) (by omega)]
      refine ⟨⟨i0, h⟩, by omega, fun h4 => ⟨⟨i0, h⟩, by omega, fun h5 => ?_, fun h5 => ⟨⟨by omega, by omega, ?_⟩, by dsimp only; omega⟩⟩, fun h4 => ?_⟩
      · rw [newE_7 (by omega) (by omega) h3 (all_not i0 h (bad_t (.inr h5)))]; decide
      · rw [all_next' i0 h, i2]; exact good_t h4 h5
      · rw [newE_7 (by omega) (by omega) h3 (all_not i0 h (bad_t (.inl h4)))]; decide
    · have hall : ts.all (fun t => decide (0 ≤ t) && decide (t ≤ 1000000)) = true := by
        have := hi.2.2
        rwa [List.take_of_length_le (by omega)] at this
      refine ⟨fun i => 0 ≤ i ∧ i ≤ n ∧ (List.range i.toNat).all (fun a => decide (ts.getD (a * n.toNat + a) 0 = 0)) = true, fun i => n.toNat - i.toNat, ⟨by omega, by omega, by simp⟩, fun i hi => ⟨fun h => ?_, fun h => ?_⟩⟩
      · obtain ⟨i0, i1, i2⟩ := hi
        obtain ⟨e1, e2⟩ := ix_eq (n := n) (a := i) (d := i) (by omega) i0 h i0 h
        have hlen : ts.length = n.toNat * n.toNat := by
          have : (n.toNat : Int) = n := by omega
          have h5 : (ts.length : Int) = ((n.toNat * n.toNat : Nat) : Int) := by rw [h3, Int.natCast_mul, this]
          exact_mod_cast h5
        rw [e1, wrap_id (n := i + 1) (by omega) (by omega), Int.toNat_natCast]
        refine ⟨⟨by omega, by omega⟩, by omega, fun h4 => ?_, fun h4 => ⟨⟨by omega, by omega, ?_⟩, by dsimp only; omega⟩⟩
        · rw [newE_4 (by omega) (by omega) h3 hall (range_not (k := i.toNat) (by omega) (decide_eq_false h4))]; decide
        · rw [show (i + 1).toNat = i.toNat + 1 by omega, range_next, i2, Bool.true_and]; exact decide_eq_true h4
      · dsimp only at hi
        have : i.toNat = n.toNat := by omega
        rw [this] at hi
        refine ⟨by omega, newE_0 (by omega) (by omega) h3 hall hi.2.2, rfl⟩
  · rw [newE_1 (.inl h1)]; decide
theorem inMap_iff {m : MapD} {a : Int} : inMap m a = true ↔ 0 ≤ a ∧ a < m.n := by simp [inMap]
theorem mtime_out {m : MapD} {a b : Int} (h : ¬ (0 ≤ a ∧ a < m.n ∧ 0 ≤ b ∧ b < m.n)) : mtime (some m) a b = (0, false) := by
  unfold mtime
  dsimp only
  rw [if_neg]
  rw [Bool.and_eq_true, inMap_iff, inMap_iff]
  omega
theorem mtime_in {m : MapD} {a b : Int} (h1 : 0 ≤ a) (h2 : a < m.n) (h3 : 0 ≤ b) (h4 : b < m.n) : mtime (some m) a b = (tm m a b, true) := by
  unfold mtime
  dsimp only
  rw [if_pos]
  rw [Bool.and_eq_true, inMap_iff, inMap_iff]
  omega
theorem time_ok : time_vc := by
  refine ⟨fun a b _ => by simp [mtime], fun m hl a b hm => ?_⟩
  have hm := hm m rfl
  simp only [bad_false, int0, nilOf, decide_eq_true_eq, decide_eq_false_iff_not, Bool.not_eq_true', Bool.not_eq_false', Bool.not_true, Bool.not_false, Bool.false_eq_true, Bool.true_eq_false, eq_self, true_and, and_true, false_or, or_false, false_implies, true_implies, implies_true, Int.not_lt, Int.not_le, gt_iff_lt, ge_iff_le, ne_eq]
  refine ⟨fun h1 => ⟨fun h2 => ⟨fun h3 => ⟨fun h4 => ?_, fun h4 => ?_⟩, fun h3 => ?_⟩, fun h2 => ?_⟩, fun h1 => ?_⟩
  all_goals first
    | (rw [mtime_out (by omega)]; exact ⟨rfl, rfl⟩)
    | (obtain ⟨e1, e2⟩ := ix_eq (n := m.n) (a := a) (d := b) hm.hi (by omega) (by omega) (by omega) (by omega)
       have := hm.len
       rw [e1, Int.toNat_natCast, mtime_in (by omega) (by omega) (by omega) (by omega)]
       exact ⟨⟨by omega, by omega⟩, by omega, rfl, rfl⟩)
theorem places_ok : places_vc := by
  simp [places_vc, places]
/-- Times that may stand in a map. -/
structure TimesOk (n : Nat) (l : List Int) : Prop where
  len : l.length = n * n
  pos : ∀ i, 0 ≤ l.getD i 0
  top : ∀ i, l.getD i 0 ≤ 1000000
theorem MapOk.times {m : MapD} (h : MapOk m) : TimesOk m.n.toNat m.l := ⟨h.len, h.pos, h.top⟩
theorem new_t : Told Try.prog 21 new_con := new_told csOk_nil new_ok
theorem rNew_t : Told Try.prog 27 rNew_con := rNew_told csOk_nil rNew_ok
theorem time_t : Told Try.prog 58 time_con := time_told csOk_nil time_ok
theorem places_t : Told Try.prog 80 places_con := places_told csOk_nil places_ok
end Go.Eng

/- Orders and drivers, in plain words; what the functions that look at them tell. -/
set_option linter.unusedVariables false
set_option linter.unusedSimpArgs false
namespace Go.Eng
open Go Go.Proofs

def within (n lo hi : Int) : Bool := decide (lo ≤ n) && decide (n ≤ hi)
def place (m : Option MapD) (p : Int) : Bool := match m with | none => false | some m => inMap m p
def Order.pick (o : Order) : Site := ⟨o.pp, o.pf, o.pt, o.ps⟩
def Order.drop (o : Order) : Site := ⟨o.dp, o.df, o.dt, o.ds⟩
def Site.win (s : Site) : Win := ⟨s.lo, s.hi⟩
def orderE (m : Option MapD) (o : Order) : Int :=
  if m.isNone || !within o.id 1 1000000 then 1 else if !within o.size 1 1000 then 14
  else if !(place m o.pp && place m o.dp) then 12 else if !(right ⟨o.pf, o.pt⟩ && right ⟨o.df, o.dt⟩) then 13
  else if !(within o.ps 0 1000000 && within o.ds 0 1000000) then 7 else 0
def driverE (m : Option MapD) (d : Driver) : Int :=
  if m.isNone || !within d.id 1 1000000 then 1 else if !within d.room 1 1000 then 14
  else if !place m d.home then 12 else if !right ⟨d.lo, d.hi⟩ then 13 else 0
def idFree (os : List Order) (id : Int) : Bool := os.all fun p => !decide (p.id = id)
def okAt (m : Option MapD) (os : List Order) (k : Nat) : Bool := decide (orderE m (os.getD k (FK.zero .order)) = 0) && idFree (os.take k) (os.getD k (FK.zero .order)).id
def knownO (m : Option MapD) (os : List Order) : Bool := decide (os.length ≤ 40) && (List.range os.length).all (okAt m os)
/-- A site that is driven to from a place left at a time: when it is begun and left. -/
def served (m : MapD) (at' left : Int) (s : Site) (u : Int) : Option (Int × Int) :=
  if (begin_ s.win (left + tm m at' s.pl)).2 && decide ((begin_ s.win (left + tm m at' s.pl)).1 + s.sv ≤ u) then some ((begin_ s.win (left + tm m at' s.pl)).1, (begin_ s.win (left + tm m at' s.pl)).1 + s.sv) else none
/-! ### Contracts -/
def within_con : Con := ⟨[.c .i, .c .i, .c .i], fun n a b => one [.c (.b (within n a b))]⟩
def within_cs : Cons := []
def within_la : List (Nat × LA) := []
def place_con : Con := ⟨[.q .map 101, .c .i], fun m p => ⟨some (MapOkO m), [⟨none, [.c (.b (place m p))]⟩]⟩⟩
def place_cs : Cons := [(80, places_con), (74, within_con)]
def place_la : List (Nat × LA) := []
def order_con : Con := ⟨[.q .map 101, .r (.f .order)], fun m o => ⟨some (MapOkO m), [⟨none, [.c (.i (orderE m o))]⟩]⟩⟩
def order_cs : Cons := [(74, within_con), (75, place_con), (76, right_con)]
def order_la : List (Nat × LA) := []
def driver_con : Con := ⟨[.q .map 101, .r (.f .driver)], fun m d => ⟨some (MapOkO m), [⟨none, [.c (.i (driverE m d))]⟩]⟩⟩
def driver_cs : Cons := [(74, within_con), (75, place_con), (76, right_con)]
def driver_la : List (Nat × LA) := []
def known_con : Con := ⟨[.q .map 101, .c (.a (.f .order))], fun m os => ⟨some (MapOkO m), [⟨none, [.c (.b (knownO m os))]⟩]⟩⟩
def known_cs : Cons := [(52, order_con)]
def known_la : List (Nat × LA) := [(4, ⟨[0, 1, 12, 13], [.i 14]⟩), (9, ⟨[0, 1, 6, 12, 13, 14, 25, 26], [.i 27]⟩)]
structure SiteOk (m : MapD) (s : Site) : Prop where
  pl : 0 ≤ s.pl ∧ s.pl < m.n
  sv : 0 ≤ s.sv ∧ s.sv ≤ 1000000
structure AtOk (m : MapD) (at' left : Int) : Prop where
  pl : 0 ≤ at' ∧ at' < m.n
  left : 0 ≤ left ∧ left ≤ 1000000
/-! ### Worlds -/
def maps_con : Con := ⟨[.r .world], fun w => ⟨none, [⟨some (newE w.n w.times ≠ 0), [.c .np, .c .np, .c (.b true)]⟩,
  ⟨some (newE w.n w.times = 0), [.p true 101 [.i w.n, .o .int 3 w.times], .p true 115 [.i w.n, .o .int 3 w.times], .c (.b true)]⟩]⟩⟩
def maps_cs : Cons := [(21, new_con), (27, rNew_con)]
def maps_la : List (Nat × LA) := []
end Go.Eng

/- The conditions of functions, as print.. of the engine told them. -/
set_option linter.unusedVariables false
namespace Go.Eng
open Go Go.Proofs
def within_vc : Prop :=
  ∀ (x x_1 x_2 : Int), (decide (x ≥ x_1) = true → decide (x ≤ x_2) = within x x_1 x_2) ∧ (decide (x ≥ x_1) = !true → false = within x x_1 x_2)
theorem within_told (hc : CsOk Try.prog within_cs) (h : within_vc) : Told Try.prog 74 within_con := told (A := within_la) tabOk mixed hc Try.func74 (by kernel_rfl) (by kernel_rfl) h
def place_vc : Prop :=
  (∀ (x : Int), (∀ (x : MapD), none = some x → MapOk x) → within x (0 : Int) (wrap (places none - (1 : Int))) = place none x) ∧ ∀ (x : MapD), LenOk x.l.length → ∀ (x_2 : Int), (∀ (x_3 : MapD), some x = some x_3 → MapOk x_3) → within x_2 (0 :
  Int) (wrap (places (some x) - (1 : Int))) = place (some x) x_2
theorem place_told (hc : CsOk Try.prog place_cs) (h : place_vc) : Told Try.prog 75 place_con := told (A := place_la) tabOk mixed hc Try.func75 (by kernel_rfl) (by kernel_rfl) h
def order_vc : Prop :=
  (∀ (x : Order), (∀ (x : MapD), none = some x → MapOk x) → (1 : Int) = orderE none x) ∧ ∀ (x : MapD), LenOk x.l.length → ∀ (x_2 : Order), (∀ (x_3 : MapD), some x = some x_3 → MapOk x_3) → ((!within x_2.id (1 : Int) (1000000 : Int)) = true →
  (1 : Int) = orderE (some x) x_2) ∧ ((!within x_2.id (1 : Int) (1000000 : Int)) = false → ((!within x_2.size (1 : Int) (1000 : Int)) = true → (14 : Int) = orderE (some x) x_2) ∧ ((!within x_2.size (1 : Int) (1000 : Int)) = false → (∀ (x_6 :
  MapD), some x = some x_6 → MapOk x_6) ∧ ((!place (some x) x_2.pp) = false → (∀ (x_7 : MapD), some x = some x_7 → MapOk x_7) ∧ ((!place (some x) x_2.dp) = true → (12 : Int) = orderE (some x) x_2) ∧ ((!place (some x) x_2.dp) = false →
  ((!right (Win.mk x_2.pf x_2.pt)) = false → ((!right (Win.mk x_2.df x_2.dt)) = true → (13 : Int) = orderE (some x) x_2) ∧ ((!right (Win.mk x_2.df x_2.dt)) = false → ((!within x_2.ps (0 : Int) (1000000 : Int)) = false → ((!within x_2.ds (0 :
  Int) (1000000 : Int)) = true → (7 : Int) = orderE (some x) x_2) ∧ ((!within x_2.ds (0 : Int) (1000000 : Int)) = false → (0 : Int) = orderE (some x) x_2)) ∧ ((!within x_2.ps (0 : Int) (1000000 : Int)) = !false → (7 : Int) = orderE (some x)
  x_2))) ∧ ((!right (Win.mk x_2.pf x_2.pt)) = !false → (13 : Int) = orderE (some x) x_2))) ∧ ((!place (some x) x_2.pp) = !false → (12 : Int) = orderE (some x) x_2)))
theorem order_told (hc : CsOk Try.prog order_cs) (h : order_vc) : Told Try.prog 52 order_con := told (A := order_la) tabOk mixed hc Try.func52 (by kernel_rfl) (by kernel_rfl) h
def driver_vc : Prop :=
  (∀ (x : Driver), (∀ (x : MapD), none = some x → MapOk x) → (1 : Int) = driverE none x) ∧ ∀ (x : MapD), LenOk x.l.length → ∀ (x_2 : Driver), (∀ (x_3 : MapD), some x = some x_3 → MapOk x_3) → ((!within x_2.id (1 : Int) (1000000 : Int)) = true
  → (1 : Int) = driverE (some x) x_2) ∧ ((!within x_2.id (1 : Int) (1000000 : Int)) = false → ((!within x_2.room (1 : Int) (1000 : Int)) = true → (14 : Int) = driverE (some x) x_2) ∧ ((!within x_2.room (1 : Int) (1000 : Int)) = false → (∀
  (x_6 : MapD), some x = some x_6 → MapOk x_6) ∧ ((!place (some x) x_2.home) = true → (12 : Int) = driverE (some x) x_2) ∧ ((!place (some x) x_2.home) = false → ((!right (Win.mk x_2.lo x_2.hi)) = true → (13 : Int) = driverE (some x) x_2) ∧
  ((!right (Win.mk x_2.lo x_2.hi)) = false → (0 : Int) = driverE (some x) x_2))))
theorem driver_told (hc : CsOk Try.prog driver_cs) (h : driver_vc) : Told Try.prog 61 driver_con := told (A := driver_la) tabOk mixed hc Try.func61 (by kernel_rfl) (by kernel_rfl) h
def known_vc : Prop :=
  (∀ (x : List Order), LenOk x.length → (∀ (x : MapD), none = some x → MapOk x) → (decide ((↑x.length : Int) > (40 : Int)) = true → false = knownO none x) ∧ (decide ((↑x.length : Int) > (40 : Int)) = false → ∃ (inv : Int → Prop), ∃ (μ : Int →
  Nat), ((((↑x.length : Int) = (↑x.length : Int) ∧ (0 : Int) = (0 : Int)) ∧ x = x) ∧ inv (0 : Int)) ∧ ∀ (x_4 : Int), inv x_4 → (decide (x_4 < (↑x.length : Int)) = true → ((0 : Int) ≤ x_4 ∧ x_4 < (↑x.length : Int)) ∧ x_4.toNat < x.length ∧ (∀
  (x : MapD), none = some x → MapOk x) ∧ ((!decide (orderE none (x.getD x_4.toNat FK.order.zero) = (0 : Int))) = true → false = knownO none x) ∧ ((!decide (orderE none (x.getD x_4.toNat FK.order.zero) = (0 : Int))) = false → ((0 : Int) ≤ (0 :
  Int) ∧ (0 : Int) ≤ x_4 ∧ x_4 ≤ (↑x.length : Int)) ∧ ∃ (inv_1 : Int → Prop), ∃ (μ_1 : Int → Nat), ((((↑x.length : Int) = (↑x.length : Int) ∧ x_4 = x_4 ∧ (Int.toNat (0 : Int) = Int.toNat (0 : Int) ∧ x_4.toNat - Int.toNat (0 : Int) = x_4.toNat
  - Int.toNat (0 : Int)) ∧ (↑(x_4.toNat - Int.toNat (0 : Int)) : Int) = (↑(x_4.toNat - Int.toNat (0 : Int)) : Int) ∧ (0 : Int) = (0 : Int)) ∧ ((x.getD x_4.toNat FK.order.zero).id = (x.getD x_4.toNat FK.order.zero).id ∧ (x.getD x_4.toNat
  FK.order.zero).size = (x.getD x_4.toNat FK.order.zero).size ∧ (x.getD x_4.toNat FK.order.zero).pp = (x.getD x_4.toNat FK.order.zero).pp ∧ (x.getD x_4.toNat FK.order.zero).pf = (x.getD x_4.toNat FK.order.zero).pf ∧ (x.getD x_4.toNat
  FK.order.zero).pt = (x.getD x_4.toNat FK.order.zero).pt ∧ (x.getD x_4.toNat FK.order.zero).ps = (x.getD x_4.toNat FK.order.zero).ps ∧ (x.getD x_4.toNat FK.order.zero).dp = (x.getD x_4.toNat FK.order.zero).dp ∧ (x.getD x_4.toNat
  FK.order.zero).df = (x.getD x_4.toNat FK.order.zero).df ∧ (x.getD x_4.toNat FK.order.zero).dt = (x.getD x_4.toNat FK.order.zero).dt ∧ (x.getD x_4.toNat FK.order.zero).ds = (x.getD x_4.toNat FK.order.zero).ds) ∧ x = x) ∧ inv_1 (0 : Int)) ∧ ∀
  (x_8 : Int), inv_1 x_8 → (decide (x_8 < (↑(x_4.toNat - Int.toNat (0 : Int)) : Int)) = true → ((0 : Int) ≤ x_8 ∧ x_8 < (↑(x_4.toNat - Int.toNat (0 : Int)) : Int)) ∧ Int.toNat (0 : Int) + x_8.toNat < x.length ∧ (decide ((x.getD (Int.toNat (0
  : Int) + x_8.toNat) FK.order.zero).id = (x.getD x_4.toNat FK.order.zero).id) = true → false = knownO none x) ∧ (decide ((x.getD (Int.toNat (0 : Int) + x_8.toNat) FK.order.zero).id = (x.getD x_4.toNat FK.order.zero).id) = false →
  (((↑x.length : Int) = (↑x.length : Int) ∧ x_4 = x_4 ∧ (Int.toNat (0 : Int) = Int.toNat (0 : Int) ∧ x_4.toNat - Int.toNat (0 : Int) = x_4.toNat - Int.toNat (0 : Int)) ∧ (↑(x_4.toNat - Int.toNat (0 : Int)) : Int) = (↑(x_4.toNat - Int.toNat (0
  : Int)) : Int) ∧ wrap (x_8 + (1 : Int)) = wrap (x_8 + (1 : Int))) ∧ ((x.getD x_4.toNat FK.order.zero).id = (x.getD x_4.toNat FK.order.zero).id ∧ (x.getD x_4.toNat FK.order.zero).size = (x.getD x_4.toNat FK.order.zero).size ∧ (x.getD
  x_4.toNat FK.order.zero).pp = (x.getD x_4.toNat FK.order.zero).pp ∧ (x.getD x_4.toNat FK.order.zero).pf = (x.getD x_4.toNat FK.order.zero).pf ∧ (x.getD x_4.toNat FK.order.zero).pt = (x.getD x_4.toNat FK.order.zero).pt ∧ (x.getD x_4.toNat
  FK.order.zero).ps = (x.getD x_4.toNat FK.order.zero).ps ∧ (x.getD x_4.toNat FK.order.zero).dp = (x.getD x_4.toNat FK.order.zero).dp ∧ (x.getD x_4.toNat FK.order.zero).df = (x.getD x_4.toNat FK.order.zero).df ∧ (x.getD x_4.toNat
  FK.order.zero).dt = (x.getD x_4.toNat FK.order.zero).dt ∧ (x.getD x_4.toNat FK.order.zero).ds = (x.getD x_4.toNat FK.order.zero).ds) ∧ x = x) ∧ inv_1 (wrap (x_8 + (1 : Int))) ∧ μ_1 (wrap (x_8 + (1 : Int))) < μ_1 x_8)) ∧ (decide (x_8 <
  (↑(x_4.toNat - Int.toNat (0 : Int)) : Int)) = false → (((↑x.length : Int) = (↑x.length : Int) ∧ wrap (x_4 + (1 : Int)) = wrap (x_4 + (1 : Int))) ∧ x = x) ∧ inv (wrap (x_4 + (1 : Int))) ∧ μ (wrap (x_4 + (1 : Int))) < μ x_4))) ∧ (decide (x_4
  < (↑x.length : Int)) = false → true = knownO none x))) ∧ ∀ (x : MapD), LenOk x.l.length → ∀ (x_2 : List Order), LenOk x_2.length → (∀ (x_4 : MapD), some x = some x_4 → MapOk x_4) → (decide ((↑x_2.length : Int) > (40 : Int)) = true → false =
  knownO (some x) x_2) ∧ (decide ((↑x_2.length : Int) > (40 : Int)) = false → ∃ (inv : Int → Prop), ∃ (μ : Int → Nat), ((((↑x_2.length : Int) = (↑x_2.length : Int) ∧ (0 : Int) = (0 : Int)) ∧ x.n = x.n ∧ x.l = x.l ∧ x_2 = x_2) ∧ inv (0 : Int))
  ∧ ∀ (x_6 : Int), inv x_6 → (decide (x_6 < (↑x_2.length : Int)) = true → ((0 : Int) ≤ x_6 ∧ x_6 < (↑x_2.length : Int)) ∧ x_6.toNat < x_2.length ∧ (∀ (x_9 : MapD), some x = some x_9 → MapOk x_9) ∧ ((!decide (orderE (some x) (x_2.getD
  x_6.toNat FK.order.zero) = (0 : Int))) = true → false = knownO (some x) x_2) ∧ ((!decide (orderE (some x) (x_2.getD x_6.toNat FK.order.zero) = (0 : Int))) = false → ((0 : Int) ≤ (0 : Int) ∧ (0 : Int) ≤ x_6 ∧ x_6 ≤ (↑x_2.length : Int)) ∧ ∃
  (inv_1 : Int → Prop), ∃ (μ_1 : Int → Nat), ((((↑x_2.length : Int) = (↑x_2.length : Int) ∧ x_6 = x_6 ∧ (Int.toNat (0 : Int) = Int.toNat (0 : Int) ∧ x_6.toNat - Int.toNat (0 : Int) = x_6.toNat - Int.toNat (0 : Int)) ∧ (↑(x_6.toNat - Int.toNat
  (0 : Int)) : Int) = (↑(x_6.toNat - Int.toNat (0 : Int)) : Int) ∧ (0 : Int) = (0 : Int)) ∧ (x.n = x.n ∧ (x_2.getD x_6.toNat FK.order.zero).id = (x_2.getD x_6.toNat FK.order.zero).id ∧ (x_2.getD x_6.toNat FK.order.zero).size = (x_2.getD
  x_6.toNat FK.order.zero).size ∧ (x_2.getD x_6.toNat FK.order.zero).pp = (x_2.getD x_6.toNat FK.order.zero).pp ∧ (x_2.getD x_6.toNat FK.order.zero).pf = (x_2.getD x_6.toNat FK.order.zero).pf ∧ (x_2.getD x_6.toNat FK.order.zero).pt =
  (x_2.getD x_6.toNat FK.order.zero).pt ∧ (x_2.getD x_6.toNat FK.order.zero).ps = (x_2.getD x_6.toNat FK.order.zero).ps ∧ (x_2.getD x_6.toNat FK.order.zero).dp = (x_2.getD x_6.toNat FK.order.zero).dp ∧ (x_2.getD x_6.toNat FK.order.zero).df =
  (x_2.getD x_6.toNat FK.order.zero).df ∧ (x_2.getD x_6.toNat FK.order.zero).dt = (x_2.getD x_6.toNat FK.order.zero).dt ∧ (x_2.getD x_6.toNat FK.order.zero).ds = (x_2.getD x_6.toNat FK.order.zero).ds) ∧ x.l = x.l ∧ x_2 = x_2) ∧ inv_1 (0 :
  Int)) ∧ ∀ (x_10 : Int), inv_1 x_10 → (decide (x_10 < (↑(x_6.toNat - Int.toNat (0 : Int)) : Int)) = true → ((0 : Int) ≤ x_10 ∧ x_10 < (↑(x_6.toNat - Int.toNat (0 : Int)) : Int)) ∧ Int.toNat (0 : Int) + x_10.toNat < x_2.length ∧ (decide
  ((x_2.getD (Int.toNat (0 : Int) + x_10.toNat) FK.order.zero).id = (x_2.getD x_6.toNat FK.order.zero).id) = true → false = knownO (some x) x_2) ∧ (decide ((x_2.getD (Int.toNat (0 : Int) + x_10.toNat) FK.order.zero).id = (x_2.getD x_6.toNat
  FK.order.zero).id) = false → (((↑x_2.length : Int) = (↑x_2.length : Int) ∧ x_6 = x_6 ∧ (Int.toNat (0 : Int) = Int.toNat (0 : Int) ∧ x_6.toNat - Int.toNat (0 : Int) = x_6.toNat - Int.toNat (0 : Int)) ∧ (↑(x_6.toNat - Int.toNat (0 : Int)) :
  Int) = (↑(x_6.toNat - Int.toNat (0 : Int)) : Int) ∧ wrap (x_10 + (1 : Int)) = wrap (x_10 + (1 : Int))) ∧ (x.n = x.n ∧ (x_2.getD x_6.toNat FK.order.zero).id = (x_2.getD x_6.toNat FK.order.zero).id ∧ (x_2.getD x_6.toNat FK.order.zero).size =
  (x_2.getD x_6.toNat FK.order.zero).size ∧ (x_2.getD x_6.toNat FK.order.zero).pp = (x_2.getD x_6.toNat FK.order.zero).pp ∧ (x_2.getD x_6.toNat FK.order.zero).pf = (x_2.getD x_6.toNat FK.order.zero).pf ∧ (x_2.getD x_6.toNat FK.order.zero).pt
  = (x_2.getD x_6.toNat FK.order.zero).pt ∧ (x_2.getD x_6.toNat FK.order.zero).ps = (x_2.getD x_6.toNat FK.order.zero).ps ∧ (x_2.getD x_6.toNat FK.order.zero).dp = (x_2.getD x_6.toNat FK.order.zero).dp ∧ (x_2.getD x_6.toNat FK.order.zero).df
  = (x_2.getD x_6.toNat FK.order.zero).df ∧ (x_2.getD x_6.toNat FK.order.zero).dt = (x_2.getD x_6.toNat FK.order.zero).dt ∧ (x_2.getD x_6.toNat FK.order.zero).ds = (x_2.getD x_6.toNat FK.order.zero).ds) ∧ x.l = x.l ∧ x_2 = x_2) ∧ inv_1 (wrap
  (x_10 + (1 : Int))) ∧ μ_1 (wrap (x_10 + (1 : Int))) < μ_1 x_10)) ∧ (decide (x_10 < (↑(x_6.toNat - Int.toNat (0 : Int)) : Int)) = false → (((↑x_2.length : Int) = (↑x_2.length : Int) ∧ wrap (x_6 + (1 : Int)) = wrap (x_6 + (1 : Int))) ∧ x.n =
  x.n ∧ x.l = x.l ∧ x_2 = x_2) ∧ inv (wrap (x_6 + (1 : Int))) ∧ μ (wrap (x_6 + (1 : Int))) < μ x_6))) ∧ (decide (x_6 < (↑x_2.length : Int)) = false → true = knownO (some x) x_2))
theorem known_told (hc : CsOk Try.prog known_cs) (h : known_vc) : Told Try.prog 60 known_con := told (A := known_la) tabOk mixed hc Try.func60 (by kernel_rfl) (by kernel_rfl) h
def maps_vc : Prop :=
  ∀ (x : WorldD), (LenOk x.times.length ∧ LenOk x.drivers.length ∧ LenOk x.orders.length ∧ LenOk x.plan.length ∧ ∀ (r : Route), List.Mem r x.plan → LenOk r.stops.length) → (newE x.n x.times ≠ (0 : Int) → (newE x.n x.times ≠ (0 : Int) →
  (decide (newE x.n x.times = newE x.n x.times) = true → newE x.n x.times ≠ (0 : Int) ∧ (true == true) = true ∨ Bad (nat_lit 18) (List SW) [SW.c SC.nlp, SW.c SC.nlp, SW.c (SC.b true)]) ∧ (decide (newE x.n x.times = newE x.n x.times) = !true →
  newE x.n x.times ≠ (0 : Int) ∧ false = true ∨ Bad (nat_lit 18) (List SW) [SW.c SC.nlp, SW.c SC.nlp, SW.c (SC.l false)])) ∧ (newE x.n x.times = (0 : Int) → (decide (newE x.n x.times = (0 : Int)) = true → Bad (nat_lit 18) (List SW) [SW.c
  SC.nlp, SW.c (SC.p (nat_lit 5) (nat_lit 0)), SW.c (SC.b false)] ∨ Bad (nat_lit 18) (List SW) [SW.c SC.nlp, SW.c (SC.p (nat_lit 5) (nat_lit 0)), SW.c (SC.b false)]) ∧ (decide (newE x.n x.times = (0 : Int)) = !true → Bad (nat_lit 18) (List
  SW) [SW.c SC.nlp, SW.c (SC.p (nat_lit 5) (nat_lit 0)), SW.c (SC.l false)] ∨ Bad (nat_lit 18) (List SW) [SW.c SC.nlp, SW.c (SC.p (nat_lit 5) (nat_lit 0)), SW.c (SC.l false)]))) ∧ (newE x.n x.times = (0 : Int) → (newE x.n x.times ≠ (0 : Int)
  → (decide ((0 : Int) = newE x.n x.times) = true → Bad (nat_lit 18) (List SW) [SW.c (SC.p (nat_lit 5) (nat_lit 0)), SW.c SC.nlp, SW.c (SC.b false)] ∨ Bad (nat_lit 18) (List SW) [SW.c (SC.p (nat_lit 5) (nat_lit 0)), SW.c SC.nlp, SW.c (SC.b
  false)]) ∧ (decide ((0 : Int) = newE x.n x.times) = !true → Bad (nat_lit 18) (List SW) [SW.c (SC.p (nat_lit 5) (nat_lit 0)), SW.c SC.nlp, SW.c (SC.l false)] ∨ Bad (nat_lit 18) (List SW) [SW.c (SC.p (nat_lit 5) (nat_lit 0)), SW.c SC.nlp,
  SW.c (SC.l false)])) ∧ (newE x.n x.times = (0 : Int) → (decide ((0 : Int) = (0 : Int)) = true → Bad (nat_lit 18) (List SW) [SW.c (SC.p (nat_lit 5) (nat_lit 0)), SW.c (SC.p (nat_lit 7) (nat_lit 0)), SW.c (SC.b true)] ∨ newE x.n x.times = (0
  : Int) ∧ (false == false) = true ∧ (x.n = x.n ∧ x.n = x.n) ∧ x.times = x.times ∧ x.times = x.times) ∧ (decide ((0 : Int) = (0 : Int)) = !true → Bad (nat_lit 18) (List SW) [SW.c (SC.p (nat_lit 5) (nat_lit 0)), SW.c (SC.p (nat_lit 7) (nat_lit
  0)), SW.c (SC.l false)] ∨ newE x.n x.times = (0 : Int) ∧ false = true ∧ (x.n = x.n ∧ x.n = x.n) ∧ x.times = x.times ∧ x.times = x.times)))
theorem maps_told (hc : CsOk Try.prog maps_cs) (h : maps_vc) : Told Try.prog 10 maps_con := told (A := maps_la) tabOk mixed hc Try.func10 (by kernel_rfl) (by kernel_rfl) h
end Go.Eng

/- What the functions that look at orders and drivers tell is so. -/
set_option linter.unusedVariables false
set_option linter.unusedSimpArgs false
namespace Go.Eng
open Go Go.Proofs

structure OrderOk (m : MapD) (o : Order) : Prop where
  id : 1 ≤ o.id ∧ o.id ≤ 1000000
  size : 1 ≤ o.size ∧ o.size ≤ 1000
  pp : 0 ≤ o.pp ∧ o.pp < m.n
  dp : 0 ≤ o.dp ∧ o.dp < m.n
  pw : 0 ≤ o.pf ∧ o.pf ≤ o.pt ∧ o.pt ≤ 1000000
  dw : 0 ≤ o.df ∧ o.df ≤ o.dt ∧ o.dt ≤ 1000000
  ps : 0 ≤ o.ps ∧ o.ps ≤ 1000000
  ds : 0 ≤ o.ds ∧ o.ds ≤ 1000000
structure DriverOk (m : MapD) (d : Driver) : Prop where
  id : 1 ≤ d.id ∧ d.id ≤ 1000000
  room : 1 ≤ d.room ∧ d.room ≤ 1000
  home : 0 ≤ d.home ∧ d.home < m.n
  win : 0 ≤ d.lo ∧ d.lo ≤ d.hi ∧ d.hi ≤ 1000000
theorem right_iff {w : Win} : right w = true ↔ 0 ≤ w.lo ∧ w.lo ≤ w.hi ∧ w.hi ≤ 1000000 := by
  simp only [right, Bool.and_eq_true, decide_eq_true_eq]; omega
theorem within_iff {n a b : Int} : within n a b = true ↔ a ≤ n ∧ n ≤ b := by simp [within]
theorem orderE_ok {m : MapD} {o : Order} (h : orderE (some m) o = 0) : OrderOk m o := by
  unfold orderE at h
  split at h
  · cases h
  · split at h
    · cases h
    · split at h
      · cases h
      · split at h
        · cases h
        · split at h
          · cases h
          · simp only [Bool.not_eq_true, Bool.or_eq_false_iff, Bool.not_eq_false', Bool.and_eq_true, within_iff, right_iff, place, inMap_iff] at *
            constructor <;> omega
theorem driverE_ok {m : MapD} {d : Driver} (h : driverE (some m) d = 0) : DriverOk m d := by
  unfold driverE at h
  split at h
  · cases h
  · split at h
    · cases h
    · split at h
      · cases h
      · split at h
        · cases h
        · simp only [Bool.not_eq_true, Bool.or_eq_false_iff, Bool.not_eq_false', Bool.and_eq_true, within_iff, right_iff, place, inMap_iff] at *
          constructor <;> omega
theorem orderE_none (o : Order) : orderE none o = 1 := by simp [orderE]
theorem driverE_none (d : Driver) : driverE none d = 1 := by simp [driverE]
theorem place_none (p : Int) : place none p = false := rfl

theorem within_ok : within_vc := by
  unfold within_vc; intros; simp only [within]; grind
theorem within_t : Told Try.prog 74 within_con := within_told csOk_nil within_ok
theorem place_ok : place_vc := by
  refine ⟨fun p _ => ?_, fun m hl p hm => ?_⟩
  · rw [place_none, show wrap (places none - 1) = -1 from wrap_id (by decide) (by decide)]
    cases h : within p 0 (-1) with
    | false => rfl
    | true => rw [within_iff] at h; omega
  · have hm := hm m rfl
    have h1 := hm.lo
    have h2 := hm.hi
    rw [show wrap (places (some m) - 1) = m.n - 1 from wrap_id (by simp only [places]; omega) (by simp only [places]; omega)]
    simp only [place, within, inMap]
    grind
theorem place_t : Told Try.prog 75 place_con := place_told (csOk_cons places_t (csOk_cons within_t csOk_nil)) place_ok
theorem order_ok : order_vc := by
  refine ⟨fun o _ => (orderE_none o).symm, fun m hl o hm => ?_⟩
  simp only [orderE]; grind
theorem order_t : Told Try.prog 52 order_con := order_told (csOk_cons within_t (csOk_cons place_t (csOk_cons right_t csOk_nil))) order_ok
theorem driver_ok : driver_vc := by
  refine ⟨fun o _ => (driverE_none o).symm, fun m hl o hm => ?_⟩
  simp only [driverE]; grind
theorem driver_t : Told Try.prog 61 driver_con := driver_told (csOk_cons within_t (csOk_cons place_t (csOk_cons right_t csOk_nil))) driver_ok
/-! ### Lists of orders -/
theorem idFree_iff {os : List Order} {id : Int} : idFree os id = true ↔ ∀ p ∈ os, p.id ≠ id := by simp [idFree]
theorem getD_of {α : Type} {d : α} {l : List α} {i : Nat} (h : i < l.length) : l.getD i d = l[i] := by simp [h]
theorem known_bad {m : Option MapD} {os : List Order} {k : Nat} (h : k < os.length) (hk : okAt m os k = false) : knownO m os = false := by
  unfold knownO; rw [range_not h hk]; simp
theorem known_at {m : Option MapD} {os : List Order} (h : knownO m os = true) : os.length ≤ 40 ∧ ∀ k, k < os.length → orderE m (os.getD k (FK.zero .order)) = 0 ∧ idFree (os.take k) (os.getD k (FK.zero .order)).id = true := by
  simp only [knownO, okAt, Bool.and_eq_true, decide_eq_true_eq, List.all_eq_true, List.mem_range] at h
  exact h
/-- The conditions of Known, for a map that is there or not. -/
theorem known_gen (m : Option MapD) (os : List Order) (hl : LenOk os.length) (pre : Prop) (hm : pre) :
    (40 < (os.length : Int) → false = knownO m os) ∧ ((os.length : Int) ≤ 40 → ∃ (inv : Int → Prop) (μ : Int → Nat), inv 0 ∧ ∀ (i : Int), inv i →
      (i < os.length → (0 ≤ i ∧ i < (os.length : Int)) ∧ i.toNat < os.length ∧ pre ∧ (¬orderE m (os.getD i.toNat (FK.zero .order)) = 0 → false = knownO m os) ∧
        (orderE m (os.getD i.toNat (FK.zero .order)) = 0 → ((0 : Int) ≤ 0 ∧ 0 ≤ i ∧ i ≤ (os.length : Int)) ∧ ∃ (inv_1 : Int → Prop) (μ_1 : Int → Nat), inv_1 0 ∧ ∀ (k : Int), inv_1 k →
          (k < ((i.toNat - Int.toNat 0 : Nat) : Int) → (0 ≤ k ∧ k < ((i.toNat - Int.toNat 0 : Nat) : Int)) ∧ Int.toNat 0 + k.toNat < os.length ∧
            ((os.getD (Int.toNat 0 + k.toNat) (FK.zero .order)).id = (os.getD i.toNat (FK.zero .order)).id → false = knownO m os) ∧
            (¬(os.getD (Int.toNat 0 + k.toNat) (FK.zero .order)).id = (os.getD i.toNat (FK.zero .order)).id → inv_1 (wrap (k + 1)) ∧ μ_1 (wrap (k + 1)) < μ_1 k)) ∧
          (((i.toNat - Int.toNat 0 : Nat) : Int) ≤ k → inv (wrap (i + 1)) ∧ μ (wrap (i + 1)) < μ i))) ∧
      ((os.length : Int) ≤ i → true = knownO m os)) := by
  refine ⟨fun h => ?_, fun h => ?_⟩
  · unfold knownO; rw [decide_eq_false (by omega)]; rfl
  · refine ⟨fun i => 0 ≤ i ∧ i ≤ os.length ∧ (List.range i.toNat).all (okAt m os) = true, fun i => os.length - i.toNat, ⟨by omega, by omega, rfl⟩, fun i hi => ⟨fun h' => ?_, fun h' => ?_⟩⟩
    · obtain ⟨i0, i1, i2⟩ := hi
      refine ⟨⟨i0, h'⟩, by omega, hm, fun ho => ?_, fun ho => ⟨by omega, ?_⟩⟩
      · rw [known_bad (k := i.toNat) (by omega)]
        simp only [okAt]; rw [decide_eq_false ho]; rfl
      · have z0 : Int.toNat 0 = 0 := rfl
        rw [z0, Nat.sub_zero]
        refine ⟨fun k => 0 ≤ k ∧ k ≤ i ∧ idFree (os.take k.toNat) (os.getD i.toNat (FK.zero .order)).id = true, fun k => i.toNat - k.toNat, ⟨by omega, by omega, rfl⟩, fun k hk => ⟨fun h2 => ?_, fun h2 => ?_⟩⟩
        · obtain ⟨k0, k1, k2⟩ := hk
          have hkl : k.toNat < os.length := by omega
          rw [wrap_id (n := k + 1) (by omega) (by omega)]
          refine ⟨by omega, by omega, fun he => ?_, fun he => ⟨⟨by omega, by omega, ?_⟩, by dsimp only; omega⟩⟩
          · rw [known_bad (k := i.toNat) (by omega)]
            simp only [okAt]
            have : idFree (os.take i.toNat) (os.getD i.toNat (FK.zero .order)).id = false := by
              cases hf : idFree (os.take i.toNat) (os.getD i.toNat (FK.zero .order)).id with
              | false => rfl
              | true =>
                refine absurd he (idFree_iff.1 hf _ ?_)
                rw [Nat.zero_add, getD_of hkl]
                exact List.mem_take_iff_getElem.2 ⟨k.toNat, by omega, rfl⟩
            rw [this, Bool.and_false]
          · rw [show (k + 1).toNat = k.toNat + 1 by omega, idFree_iff]
            intro p hp
            rw [List.take_add_one, List.mem_append] at hp
            rcases hp with hp | hp
            · exact idFree_iff.1 k2 p hp
            · rw [List.getElem?_eq_getElem hkl] at hp
              simp only [Option.toList_some, List.mem_singleton] at hp
              rw [hp, ← getD_of (d := FK.zero .order) hkl]
              rwa [Nat.zero_add] at he
        · dsimp only at hk
          have : k.toNat = i.toNat := by omega
          rw [this] at hk
          rw [wrap_id (n := i + 1) (by omega) (by omega)]
          refine ⟨⟨by omega, by omega, ?_⟩, by dsimp only; omega⟩
          rw [show (i + 1).toNat = i.toNat + 1 by omega, range_next, i2, Bool.true_and]
          simp only [okAt]
          rw [decide_eq_true ho, hk.2.2]; rfl
    · dsimp only at hi
      have : i.toNat = os.length := by omega
      rw [this] at hi
      unfold knownO; rw [decide_eq_true (by omega), hi.2.2]; rfl
theorem known_ok : known_vc := by
  refine ⟨fun os hl hm => ?_, fun m _ os hl hm => ?_⟩ <;> simp only [bad_false, int0, nilOf, decide_eq_true_eq, decide_eq_false_iff_not, Bool.not_eq_true', Bool.not_eq_false', Bool.not_true, Bool.not_false, Bool.false_eq_true, Bool.true_eq_false, eq_self, true_and, and_true, false_or, or_false, false_implies, true_implies, implies_true, Int.not_lt, Int.not_le, gt_iff_lt, ge_iff_le, ne_eq]
  · exact known_gen none os hl _ hm
  · exact known_gen (some m) os hl _ hm
theorem known_t : Told Try.prog 60 known_con := known_told (csOk_cons order_t csOk_nil) known_ok
/-! ### A site served -/
theorem tm_bound {m : MapD} (h : MapOk m) (a b : Int) : 0 ≤ tm m a b ∧ tm m a b ≤ 1000000 := ⟨h.pos _, h.top _⟩
theorem begin_true {w : Win} {t : Int} (h : (begin_ w t).2 = true) : (0 ≤ w.lo ∧ w.lo ≤ w.hi ∧ w.hi ≤ 1000000) ∧ t ≤ w.hi ∧ (begin_ w t).1 = max t w.lo := by
  unfold begin_ at *
  split at h
  · rename_i hc
    rw [if_pos hc]
    rw [Bool.and_eq_true, right_iff, decide_eq_true_eq] at hc
    exact ⟨hc.1, hc.2, rfl⟩
  · cases h
theorem served_none {m : MapD} {a l u : Int} {s : Site} (h : (begin_ s.win (l + tm m a s.pl)).2 = false ∨ u < (begin_ s.win (l + tm m a s.pl)).1 + s.sv) : served m a l s u = none := by
  unfold served
  rw [if_neg]
  rw [Bool.and_eq_true, decide_eq_true_eq]
  rintro ⟨h1, h2⟩
  rcases h with h | h
  · rw [h] at h1; cases h1
  · omega
theorem served_some {m : MapD} {a l u : Int} {s : Site} (h : (begin_ s.win (l + tm m a s.pl)).2 = true) (h' : (begin_ s.win (l + tm m a s.pl)).1 + s.sv ≤ u) :
    served m a l s u = some ((begin_ s.win (l + tm m a s.pl)).1, (begin_ s.win (l + tm m a s.pl)).1 + s.sv) := by
  unfold served
  rw [if_pos]
  rw [Bool.and_eq_true, decide_eq_true_eq]
  exact ⟨h, h'⟩
theorem served_spec {m : MapD} {a l u : Int} {s : Site} {b : Int × Int} (h : served m a l s u = some b) : (0 ≤ s.lo ∧ s.lo ≤ s.hi ∧ s.hi ≤ 1000000) ∧ l + tm m a s.pl ≤ s.hi ∧ b.1 = max (l + tm m a s.pl) s.lo ∧ b.2 = b.1 + s.sv ∧ b.2 ≤ u := by
  unfold served at h
  split at h
  · rename_i hc
    rw [Bool.and_eq_true, decide_eq_true_eq] at hc
    injection h with h
    subst h
    obtain ⟨h1, h2, h3⟩ := begin_true hc.1
    exact ⟨h1, h2, h3, rfl, hc.2⟩
  · cases h
/-- The conditions under which a site is reached. -/
theorem reach {m : MapD} {a l : Int} {s : Site} (hm : MapOk m) (ha : AtOk m a l) (hs : SiteOk m s) : (mtime (some m) a s.pl).1 = tm m a s.pl ∧ wrap (l + tm m a s.pl) = l + tm m a s.pl ∧
    ((begin_ s.win (l + tm m a s.pl)).2 = true → 0 ≤ (begin_ s.win (l + tm m a s.pl)).1 ∧ (begin_ s.win (l + tm m a s.pl)).1 ≤ 1000000 ∧ wrap ((begin_ s.win (l + tm m a s.pl)).1 + s.sv) = (begin_ s.win (l + tm m a s.pl)).1 + s.sv) := by
  have ht := tm_bound hm a s.pl
  have h1 := ha.left
  have h2 := hs.sv
  refine ⟨by rw [mtime_in ha.pl.1 ha.pl.2 hs.pl.1 hs.pl.2], wrap_id (by omega) (by omega), fun h => ?_⟩
  obtain ⟨h3, h4, h5⟩ := begin_true h
  have h6 : s.win.hi = s.hi := rfl
  have h7 : s.win.lo = s.lo := rfl
  rw [h5]
  refine ⟨by omega, by omega, wrap_id (by omega) (by omega)⟩
theorem maps_ok : maps_vc := by
  unfold maps_vc
  simp only [bad_false, int0, nilOf, decide_eq_true_eq, decide_eq_false_iff_not, Bool.not_eq_true', Bool.not_eq_false', Bool.not_true, Bool.not_false, Bool.false_eq_true, Bool.true_eq_false, eq_self, true_and, and_true, false_or, or_false, false_implies, true_implies, implies_true, Int.not_lt, Int.not_le, gt_iff_lt, ge_iff_le, ne_eq]
  intro w _
  grind
theorem maps_t : Told Try.prog 10 maps_con := maps_told (csOk_cons new_t (csOk_cons rNew_t csOk_nil)) maps_ok
theorem OrderOk.pick {m : MapD} {o : Order} (h : OrderOk m o) : SiteOk m o.pick := ⟨h.pp, h.ps⟩
theorem OrderOk.drop {m : MapD} {o : Order} (h : OrderOk m o) : SiteOk m o.drop := ⟨h.dp, h.ds⟩
theorem DriverOk.start {m : MapD} {d : Driver} (h : DriverOk m d) : AtOk m d.home d.lo := ⟨h.home, by have := h.win; omega⟩
theorem served_at {m : MapD} {a l u : Int} {s : Site} {b : Int × Int} (ha : 0 ≤ l) (hm : MapOk m) (hs : SiteOk m s) (hu : u ≤ 1000000) (h : served m a l s u = some b) : AtOk m s.pl b.2 := by
  obtain ⟨h1, h2, h3, h4, h5⟩ := served_spec h
  have := hs.sv
  have := (tm_bound hm a s.pl).1
  exact ⟨hs.pl, by omega⟩
end Go.Eng

/- Routes driven, in plain words; what the functions that drive tell. -/
set_option linter.unusedVariables false
set_option linter.unusedSimpArgs false
namespace Go.Eng
open Go Go.Proofs

def findO : List Order → Int → Option Order
  | [], _ => none
  | o :: l, id => if o.id = id then some o else findO l id
def fo (os : List Order) (id : Int) : Order := (findO os id).getD (FK.zero .order)
def siteOf (o : Order) (drop : Bool) : Site := if drop then o.drop else o.pick
def sEq (a b : Stop) : Bool := decide (a.order = b.order) && (a.drop == b.drop)
def stands (l : List Stop) (s : Stop) : Bool := l.any fun x => sEq x s
def wrongE (os : List Order) (ahead : List Stop) (s : Stop) : Int :=
  if (findO os s.order).isNone then 8 else if stands ahead s then 16 else if s.drop && !stands ahead ⟨s.order, false⟩ then 17 else 0
/-- Where a driver stands, when, with what. -/
structure Pos where (now pos load : Int)
def loadOf (os : List Order) (s : Stop) (load : Int) : Int := if s.drop then load - (fo os s.order).size else load + (fo os s.order).size
def stopSite (os : List Order) (s : Stop) : Site := siteOf (fo os s.order) s.drop
/-- One stop is made: its visit; or what is wrong. -/
def tryStop (m : MapD) (d : Driver) (os : List Order) (ahead : List Stop) (s : Stop) (p : Pos) : Except Int Visit :=
  if wrongE os ahead s ≠ 0 then .error (wrongE os ahead s) else if loadOf os s p.load > d.room then .error 14
  else match served m p.pos p.now (stopSite os s) d.hi with
    | none => .error 15
    | some b => .ok ⟨s.order, s.drop, p.now + tm m p.pos (stopSite os s).pl, b.1, b.2, loadOf os s p.load⟩
def after (os : List Order) (s : Stop) (v : Visit) : Pos := ⟨v.leave, (stopSite os s).pl, v.load⟩
def driveGo (m : MapD) (d : Driver) (os : List Order) : List Stop → List Stop → Pos → Except Fault (List Visit)
  | ahead, [], p => if 0 < p.load then .error ⟨ahead.length, 18⟩ else .ok []
  | ahead, s :: l, p => match tryStop m d os ahead s p with
    | .error e => .error ⟨ahead.length, e⟩
    | .ok v => match driveGo m d os (ahead ++ [s]) l (after os s v) with
      | .error f => .error f
      | .ok vs => .ok (v :: vs)
def driveT (m : MapD) (d : Driver) (os : List Order) (stops : List Stop) : Except Fault (List Visit) := driveGo m d os [] stops ⟨d.lo, d.home, 0⟩
def fitB (m : Option MapD) (d : Driver) (os : List Order) (stops : List Stop) : Bool := decide (driverE m d = 0) && knownO m os && decide (stops.length ≤ 80)
def drive (m : Option MapD) (d : Driver) (os : List Order) (stops : List Stop) : Except Fault (List Visit) := match m with
  | none => .error ⟨0, 1⟩
  | some x => if fitB m d os stops then driveT x d os stops else .error ⟨0, 1⟩
def visR (r : Except Fault (List Visit)) : List Visit := match r with | .ok vs => vs | .error _ => []
def fauR (r : Except Fault (List Visit)) : Fault := match r with | .ok _ => ⟨0, 0⟩ | .error f => f
def good (f : Fault) : Bool := decide (f.why = 0)
def wayGo (m : MapD) (os : List Order) : Int → List Stop → Int
  | _, [] => 0
  | a, s :: l => tm m a (stopSite os s).pl + wayGo m os (stopSite os s).pl l
def way (m : MapD) (d : Driver) (os : List Order) (stops : List Stop) : Int := wayGo m os d.home stops
def cost (m : Option MapD) (d : Driver) (os : List Order) (stops : List Stop) : Int × Bool := match m with
  | none => (0, false)
  | some x => if good (fauR (drive m d os stops)) then (way x d os stops, true) else (0, false)
structure TimedPre (m : MapD) (d : Driver) (os : List Order) (stops : List Stop) : Prop where
  map : MapOk m
  driver : DriverOk m d
  known : knownO (some m) os = true
  few : stops.length ≤ 80
structure WayPre (m : MapD) (d : Driver) (os : List Order) (stops : List Stop) : Prop where
  map : MapOk m
  home : 0 ≤ d.home ∧ d.home < m.n
  known : knownO (some m) os = true
  few : stops.length ≤ 80
  all : ∀ s ∈ stops, (findO os s.order).isSome = true

/-! ### Contracts -/
def find_con : Con := ⟨[.c (.a (.f .order)), .c .i], fun os id => one [.r (SK.enc (.f .order) (fo os id)), .c (.b (findO os id).isSome)]⟩
def find_cs : Cons := []
def find_la : List (Nat × LA) := [(2, ⟨[1, 4, 8, 9], [.i 10]⟩)]
def site_con : Con := ⟨[.r (.f .order), .c .b], fun o b => one [.r (SK.enc (.f .site) (siteOf o b))]⟩
def site_cs : Cons := []
def site_la : List (Nat × LA) := []
def fit_con : Con := ⟨[.q .map 101, .r (.f .driver), .c (.a (.f .order)), .c (.a (.f .stop))], fun m d os ss => ⟨some (MapOkO m), [⟨none, [.c (.b (fitB m d os ss))]⟩]⟩⟩
def fit_cs : Cons := [(61, driver_con), (60, known_con)]
def fit_la : List (Nat × LA) := []
def stands_con : Con := ⟨[.c (.a (.f .stop)), .r (.f .stop)], fun l s => one [.c (.b (stands l s))]⟩
def stands_cs : Cons := []
def stands_la : List (Nat × LA) := [(2, ⟨[3, 7, 8], [.i 9]⟩)]
def wrong_con : Con := ⟨[.c (.a (.f .order)), .c (.a (.f .stop)), .r (.f .stop)], fun os l s => one [.r (SK.enc (.f .order) (fo os s.order)), .c (.i (wrongE os l s))]⟩
def wrong_cs : Cons := [(34, find_con), (77, stands_con)]
def wrong_la : List (Nat × LA) := []
def timed_con : Con := ⟨[.p .map 101, .r (.f .driver), .c (.a (.f .order)), .c (.a (.f .stop))], fun m d os ss => ⟨some (TimedPre m d os ss), [⟨none, [.c (.o .visit 139 (visR (driveT m d os ss))), .r (SK.enc (.f .fault) (fauR (driveT m d os ss)))]⟩]⟩⟩
def timed_cs : Cons := [(62, wrong_con), (57, site_con), (58, time_con), (63, begin_con)]
def timed_la : List (Nat × LA) := [(4, ⟨[0, 2, 3, 5, 9, 28, 29], [.app 10 .visit 139, .i 11, .i 12, .i 13, .i 30]⟩)]
def drive_con : Con := ⟨[.q .map 101, .r (.f .driver), .c (.a (.f .order)), .c (.a (.f .stop))], fun m d os ss => ⟨some (MapOkO m), [⟨none, [.c (.o .visit 139 (visR (drive m d os ss))), .r (SK.enc (.f .fault) (fauR (drive m d os ss)))]⟩]⟩⟩
def drive_cs : Cons := [(53, fit_con), (41, timed_con)]
def drive_la : List (Nat × LA) := []
def good_con : Con := ⟨[.r (.f .fault)], fun f => one [.c (.b (good f))]⟩
def good_cs : Cons := []
def good_la : List (Nat × LA) := []
def way_con : Con := ⟨[.p .map 101, .r (.f .driver), .c (.a (.f .order)), .c (.a (.f .stop))], fun m d os ss => ⟨some (WayPre m d os ss), [⟨none, [.c (.i (way m d os ss))]⟩]⟩⟩
def way_cs : Cons := [(34, find_con), (57, site_con), (58, time_con)]
def way_la : List (Nat × LA) := [(3, ⟨[0, 2, 20, 21], [.i 9, .i 10, .i 22]⟩)]
def cost_con : Con := ⟨[.q .map 101, .r (.f .driver), .c (.a (.f .order)), .c (.a (.f .stop))], fun m d os ss => ⟨some (MapOkO m), [⟨none, [.c (.i (cost m d os ss).1), .c (.b (cost m d os ss).2)]⟩]⟩⟩
def cost_cs : Cons := [(30, drive_con), (20, good_con), (33, way_con)]
def cost_la : List (Nat × LA) := []
end Go.Eng

/- The conditions of functions, as print.. of the engine told them. -/
set_option linter.unusedVariables false
namespace Go.Eng
open Go Go.Proofs
def find_vc : Prop :=
  ∀ (x : List Order), LenOk x.length → ∀ (x_2 : Int), ∃ (inv : Int → Prop), ∃ (μ : Int → Nat), (((x_2 = x_2 ∧ (↑x.length : Int) = (↑x.length : Int) ∧ (0 : Int) = (0 : Int)) ∧ ((0 : Int) = (0 : Int) ∧ (0 : Int) = (0 : Int) ∧ (0 : Int) = (0 :
  Int) ∧ (0 : Int) = (0 : Int) ∧ (0 : Int) = (0 : Int) ∧ (0 : Int) = (0 : Int) ∧ (0 : Int) = (0 : Int) ∧ (0 : Int) = (0 : Int) ∧ (0 : Int) = (0 : Int) ∧ (0 : Int) = (0 : Int)) ∧ x = x) ∧ inv (0 : Int)) ∧ ∀ (x_3 : Int), inv x_3 → (decide (x_3
  < (↑x.length : Int)) = true → ((0 : Int) ≤ x_3 ∧ x_3 < (↑x.length : Int)) ∧ x_3.toNat < x.length ∧ (decide ((x.getD x_3.toNat FK.order.zero).id = x_2) = true → ((x.getD x_3.toNat FK.order.zero).id = (fo x x_2).id ∧ (x.getD x_3.toNat
  FK.order.zero).size = (fo x x_2).size ∧ (x.getD x_3.toNat FK.order.zero).pp = (fo x x_2).pp ∧ (x.getD x_3.toNat FK.order.zero).pf = (fo x x_2).pf ∧ (x.getD x_3.toNat FK.order.zero).pt = (fo x x_2).pt ∧ (x.getD x_3.toNat FK.order.zero).ps =
  (fo x x_2).ps ∧ (x.getD x_3.toNat FK.order.zero).dp = (fo x x_2).dp ∧ (x.getD x_3.toNat FK.order.zero).df = (fo x x_2).df ∧ (x.getD x_3.toNat FK.order.zero).dt = (fo x x_2).dt ∧ (x.getD x_3.toNat FK.order.zero).ds = (fo x x_2).ds) ∧ true =
  (findO x x_2).isSome) ∧ (decide ((x.getD x_3.toNat FK.order.zero).id = x_2) = false → ((x_2 = x_2 ∧ (↑x.length : Int) = (↑x.length : Int) ∧ wrap (x_3 + (1 : Int)) = wrap (x_3 + (1 : Int))) ∧ ((0 : Int) = (0 : Int) ∧ (0 : Int) = (0 : Int) ∧
  (0 : Int) = (0 : Int) ∧ (0 : Int) = (0 : Int) ∧ (0 : Int) = (0 : Int) ∧ (0 : Int) = (0 : Int) ∧ (0 : Int) = (0 : Int) ∧ (0 : Int) = (0 : Int) ∧ (0 : Int) = (0 : Int) ∧ (0 : Int) = (0 : Int)) ∧ x = x) ∧ inv (wrap (x_3 + (1 : Int))) ∧ μ (wrap
  (x_3 + (1 : Int))) < μ x_3)) ∧ (decide (x_3 < (↑x.length : Int)) = false → ((0 : Int) = (fo x x_2).id ∧ (0 : Int) = (fo x x_2).size ∧ (0 : Int) = (fo x x_2).pp ∧ (0 : Int) = (fo x x_2).pf ∧ (0 : Int) = (fo x x_2).pt ∧ (0 : Int) = (fo x
  x_2).ps ∧ (0 : Int) = (fo x x_2).dp ∧ (0 : Int) = (fo x x_2).df ∧ (0 : Int) = (fo x x_2).dt ∧ (0 : Int) = (fo x x_2).ds) ∧ false = (findO x x_2).isSome)
theorem find_told (hc : CsOk Try.prog find_cs) (h : find_vc) : Told Try.prog 34 find_con := told (A := find_la) tabOk mixed hc Try.func34 (by kernel_rfl) (by kernel_rfl) h
def site_vc : Prop :=
  ∀ (x : Order) (x_1 : Bool), (x_1 = true → x.dp = (siteOf x x_1).pl ∧ x.df = (siteOf x x_1).lo ∧ x.dt = (siteOf x x_1).hi ∧ x.ds = (siteOf x x_1).sv) ∧ (x_1 = false → x.pp = (siteOf x x_1).pl ∧ x.pf = (siteOf x x_1).lo ∧ x.pt = (siteOf x
  x_1).hi ∧ x.ps = (siteOf x x_1).sv)
theorem site_told (hc : CsOk Try.prog site_cs) (h : site_vc) : Told Try.prog 57 site_con := told (A := site_la) tabOk mixed hc Try.func57 (by kernel_rfl) (by kernel_rfl) h
def fit_vc : Prop :=
  (∀ (x : Driver) (x_1 : List Order), LenOk x_1.length → ∀ (x_3 : List Stop), LenOk x_3.length → (∀ (x : MapD), none = some x → MapOk x) → (∀ (x : MapD), none = some x → MapOk x) ∧ (decide (driverE none x = (0 : Int)) = true → (∀ (x : MapD),
  none = some x → MapOk x) ∧ (knownO none x_1 = true → decide ((↑x_3.length : Int) ≤ (80 : Int)) = fitB none x x_1 x_3) ∧ (knownO none x_1 = !true → false = fitB none x x_1 x_3)) ∧ (decide (driverE none x = (0 : Int)) = !true → false = fitB
  none x x_1 x_3)) ∧ ∀ (x : MapD), LenOk x.l.length → ∀ (x_2 : Driver) (x_3 : List Order), LenOk x_3.length → ∀ (x_5 : List Stop), LenOk x_5.length → (∀ (x_7 : MapD), some x = some x_7 → MapOk x_7) → (∀ (x_8 : MapD), some x = some x_8 → MapOk
  x_8) ∧ (decide (driverE (some x) x_2 = (0 : Int)) = true → (∀ (x_9 : MapD), some x = some x_9 → MapOk x_9) ∧ (knownO (some x) x_3 = true → decide ((↑x_5.length : Int) ≤ (80 : Int)) = fitB (some x) x_2 x_3 x_5) ∧ (knownO (some x) x_3 = !true
  → false = fitB (some x) x_2 x_3 x_5)) ∧ (decide (driverE (some x) x_2 = (0 : Int)) = !true → false = fitB (some x) x_2 x_3 x_5)
theorem fit_told (hc : CsOk Try.prog fit_cs) (h : fit_vc) : Told Try.prog 53 fit_con := told (A := fit_la) tabOk mixed hc Try.func53 (by kernel_rfl) (by kernel_rfl) h
def stands_vc : Prop :=
  ∀ (x : List Stop), LenOk x.length → ∀ (x_2 : Stop), ∃ (inv : Int → Prop), ∃ (μ : Int → Nat), ((((↑x.length : Int) = (↑x.length : Int) ∧ (0 : Int) = (0 : Int)) ∧ (x_2.order = x_2.order ∧ x_2.drop = x_2.drop) ∧ x = x) ∧ inv (0 : Int)) ∧ ∀
  (x_3 : Int), inv x_3 → (decide (x_3 < (↑x.length : Int)) = true → ((0 : Int) ≤ x_3 ∧ x_3 < (↑x.length : Int)) ∧ x_3.toNat < x.length ∧ ((decide ((x.getD x_3.toNat FK.stop.zero).order = x_2.order) && ((x.getD x_3.toNat FK.stop.zero).drop ==
  x_2.drop && true)) = true → true = stands x x_2) ∧ ((decide ((x.getD x_3.toNat FK.stop.zero).order = x_2.order) && ((x.getD x_3.toNat FK.stop.zero).drop == x_2.drop && true)) = false → (((↑x.length : Int) = (↑x.length : Int) ∧ wrap (x_3 +
  (1 : Int)) = wrap (x_3 + (1 : Int))) ∧ (x_2.order = x_2.order ∧ x_2.drop = x_2.drop) ∧ x = x) ∧ inv (wrap (x_3 + (1 : Int))) ∧ μ (wrap (x_3 + (1 : Int))) < μ x_3)) ∧ (decide (x_3 < (↑x.length : Int)) = false → false = stands x x_2)
theorem stands_told (hc : CsOk Try.prog stands_cs) (h : stands_vc) : Told Try.prog 77 stands_con := told (A := stands_la) tabOk mixed hc Try.func77 (by kernel_rfl) (by kernel_rfl) h
def wrong_vc : Prop :=
  ∀ (x : List Order), LenOk x.length → ∀ (x_2 : List Stop), LenOk x_2.length → ∀ (x_4 : Stop), ((!(findO x x_4.order).isSome) = true → ((fo x x_4.order).id = (fo x x_4.order).id ∧ (fo x x_4.order).size = (fo x x_4.order).size ∧ (fo x
  x_4.order).pp = (fo x x_4.order).pp ∧ (fo x x_4.order).pf = (fo x x_4.order).pf ∧ (fo x x_4.order).pt = (fo x x_4.order).pt ∧ (fo x x_4.order).ps = (fo x x_4.order).ps ∧ (fo x x_4.order).dp = (fo x x_4.order).dp ∧ (fo x x_4.order).df = (fo
  x x_4.order).df ∧ (fo x x_4.order).dt = (fo x x_4.order).dt ∧ (fo x x_4.order).ds = (fo x x_4.order).ds) ∧ (8 : Int) = wrongE x x_2 x_4) ∧ ((!(findO x x_4.order).isSome) = false → (stands x_2 x_4 = true → ((fo x x_4.order).id = (fo x
  x_4.order).id ∧ (fo x x_4.order).size = (fo x x_4.order).size ∧ (fo x x_4.order).pp = (fo x x_4.order).pp ∧ (fo x x_4.order).pf = (fo x x_4.order).pf ∧ (fo x x_4.order).pt = (fo x x_4.order).pt ∧ (fo x x_4.order).ps = (fo x x_4.order).ps ∧
  (fo x x_4.order).dp = (fo x x_4.order).dp ∧ (fo x x_4.order).df = (fo x x_4.order).df ∧ (fo x x_4.order).dt = (fo x x_4.order).dt ∧ (fo x x_4.order).ds = (fo x x_4.order).ds) ∧ (16 : Int) = wrongE x x_2 x_4) ∧ (stands x_2 x_4 = false →
  (x_4.drop = true → ((!stands x_2 (Stop.mk x_4.order false)) = true → ((fo x x_4.order).id = (fo x x_4.order).id ∧ (fo x x_4.order).size = (fo x x_4.order).size ∧ (fo x x_4.order).pp = (fo x x_4.order).pp ∧ (fo x x_4.order).pf = (fo x
  x_4.order).pf ∧ (fo x x_4.order).pt = (fo x x_4.order).pt ∧ (fo x x_4.order).ps = (fo x x_4.order).ps ∧ (fo x x_4.order).dp = (fo x x_4.order).dp ∧ (fo x x_4.order).df = (fo x x_4.order).df ∧ (fo x x_4.order).dt = (fo x x_4.order).dt ∧ (fo
  x x_4.order).ds = (fo x x_4.order).ds) ∧ (17 : Int) = wrongE x x_2 x_4) ∧ ((!stands x_2 (Stop.mk x_4.order false)) = false → ((fo x x_4.order).id = (fo x x_4.order).id ∧ (fo x x_4.order).size = (fo x x_4.order).size ∧ (fo x x_4.order).pp =
  (fo x x_4.order).pp ∧ (fo x x_4.order).pf = (fo x x_4.order).pf ∧ (fo x x_4.order).pt = (fo x x_4.order).pt ∧ (fo x x_4.order).ps = (fo x x_4.order).ps ∧ (fo x x_4.order).dp = (fo x x_4.order).dp ∧ (fo x x_4.order).df = (fo x x_4.order).df
  ∧ (fo x x_4.order).dt = (fo x x_4.order).dt ∧ (fo x x_4.order).ds = (fo x x_4.order).ds) ∧ (0 : Int) = wrongE x x_2 x_4)) ∧ (x_4.drop = !true → ((fo x x_4.order).id = (fo x x_4.order).id ∧ (fo x x_4.order).size = (fo x x_4.order).size ∧ (fo
  x x_4.order).pp = (fo x x_4.order).pp ∧ (fo x x_4.order).pf = (fo x x_4.order).pf ∧ (fo x x_4.order).pt = (fo x x_4.order).pt ∧ (fo x x_4.order).ps = (fo x x_4.order).ps ∧ (fo x x_4.order).dp = (fo x x_4.order).dp ∧ (fo x x_4.order).df =
  (fo x x_4.order).df ∧ (fo x x_4.order).dt = (fo x x_4.order).dt ∧ (fo x x_4.order).ds = (fo x x_4.order).ds) ∧ (0 : Int) = wrongE x x_2 x_4)))
theorem wrong_told (hc : CsOk Try.prog wrong_cs) (h : wrong_vc) : Told Try.prog 62 wrong_con := told (A := wrong_la) tabOk mixed hc Try.func62 (by kernel_rfl) (by kernel_rfl) h
def timed_vc : Prop :=
  ∀ (x : MapD), LenOk x.l.length → ∀ (x_2 : Driver) (x_3 : List Order), LenOk x_3.length → ∀ (x_5 : List Stop), LenOk x_5.length → TimedPre x x_2 x_3 x_5 → ∃ (inv : List Visit → Int → Int → Int → Int → Prop), ∃ (μ : List Visit → Int → Int →
  Int → Int → Nat), (((x_2.lo = x_2.lo ∧ x_2.home = x_2.home ∧ (0 : Int) = (0 : Int) ∧ (↑x_5.length : Int) = (↑x_5.length : Int) ∧ (0 : Int) = (0 : Int)) ∧ (x.n = x.n ∧ (x_2.id = x_2.id ∧ x_2.room = x_2.room ∧ x_2.home = x_2.home ∧ x_2.lo =
  x_2.lo ∧ x_2.hi = x_2.hi ∧ x_2.retired = x_2.retired) ∧ (0 : Int) = (0 : Int) ∧ (0 : Int) = (0 : Int)) ∧ x.l = x.l ∧ nilOf Visit = nilOf Visit ∧ x_5 = x_5 ∧ x_3 = x_3) ∧ inv [] x_2.lo x_2.home (0 : Int) (0 : Int)) ∧ ∀ (x_8 : List Visit)
  (x_9 x_10 x_11 x_12 : Int), inv x_8 x_9 x_10 x_11 x_12 → (decide (x_12 < (↑x_5.length : Int)) = true → ((0 : Int) ≤ x_12 ∧ x_12 < (↑x_5.length : Int)) ∧ x_12.toNat < x_5.length ∧ ((0 : Int) ≤ (0 : Int) ∧ (0 : Int) ≤ x_12 ∧ x_12 ≤
  (↑x_5.length : Int)) ∧ Int.toNat (0 : Int) + (x_12.toNat - Int.toNat (0 : Int)) ≤ x_5.length ∧ ((!decide (wrongE x_3 (part x_5 (Int.toNat (0 : Int)) (x_12.toNat - Int.toNat (0 : Int))) (x_5.getD x_12.toNat FK.stop.zero) = (0 : Int))) = true
  → (x_12 = (fauR (driveT x x_2 x_3 x_5)).spot ∧ wrongE x_3 (part x_5 (Int.toNat (0 : Int)) (x_12.toNat - Int.toNat (0 : Int))) (x_5.getD x_12.toNat FK.stop.zero) = (fauR (driveT x x_2 x_3 x_5)).why) ∧ visR (driveT x x_2 x_3 x_5) = nilOf
  Visit) ∧ ((!decide (wrongE x_3 (part x_5 (Int.toNat (0 : Int)) (x_12.toNat - Int.toNat (0 : Int))) (x_5.getD x_12.toNat FK.stop.zero) = (0 : Int))) = false → ((x_5.getD x_12.toNat FK.stop.zero).drop = true → (decide (wrap (x_11 - (fo x_3
  (x_5.getD x_12.toNat FK.stop.zero).order).size) > x_2.room) = true → (x_12 = (fauR (driveT x x_2 x_3 x_5)).spot ∧ (14 : Int) = (fauR (driveT x x_2 x_3 x_5)).why) ∧ visR (driveT x x_2 x_3 x_5) = nilOf Visit) ∧ (decide (wrap (x_11 - (fo x_3
  (x_5.getD x_12.toNat FK.stop.zero).order).size) > x_2.room) = false → (∀ (x_18 : MapD), some x = some x_18 → MapOk x_18) ∧ ((!(begin_ (Win.mk (siteOf (fo x_3 (x_5.getD x_12.toNat FK.stop.zero).order) (x_5.getD x_12.toNat
  FK.stop.zero).drop).lo (siteOf (fo x_3 (x_5.getD x_12.toNat FK.stop.zero).order) (x_5.getD x_12.toNat FK.stop.zero).drop).hi) (wrap (x_9 + (mtime (some x) x_10 (siteOf (fo x_3 (x_5.getD x_12.toNat FK.stop.zero).order) (x_5.getD x_12.toNat
  FK.stop.zero).drop).pl).fst))).snd) = false → (decide (wrap ((begin_ (Win.mk (siteOf (fo x_3 (x_5.getD x_12.toNat FK.stop.zero).order) (x_5.getD x_12.toNat FK.stop.zero).drop).lo (siteOf (fo x_3 (x_5.getD x_12.toNat FK.stop.zero).order)
  (x_5.getD x_12.toNat FK.stop.zero).drop).hi) (wrap (x_9 + (mtime (some x) x_10 (siteOf (fo x_3 (x_5.getD x_12.toNat FK.stop.zero).order) (x_5.getD x_12.toNat FK.stop.zero).drop).pl).fst))).fst + (siteOf (fo x_3 (x_5.getD x_12.toNat
  FK.stop.zero).order) (x_5.getD x_12.toNat FK.stop.zero).drop).sv) > x_2.hi) = true → (x_12 = (fauR (driveT x x_2 x_3 x_5)).spot ∧ (15 : Int) = (fauR (driveT x x_2 x_3 x_5)).why) ∧ visR (driveT x x_2 x_3 x_5) = nilOf Visit) ∧ (decide (wrap
  ((begin_ (Win.mk (siteOf (fo x_3 (x_5.getD x_12.toNat FK.stop.zero).order) (x_5.getD x_12.toNat FK.stop.zero).drop).lo (siteOf (fo x_3 (x_5.getD x_12.toNat FK.stop.zero).order) (x_5.getD x_12.toNat FK.stop.zero).drop).hi) (wrap (x_9 +
  (mtime (some x) x_10 (siteOf (fo x_3 (x_5.getD x_12.toNat FK.stop.zero).order) (x_5.getD x_12.toNat FK.stop.zero).drop).pl).fst))).fst + (siteOf (fo x_3 (x_5.getD x_12.toNat FK.stop.zero).order) (x_5.getD x_12.toNat FK.stop.zero).drop).sv)
  > x_2.hi) = false → (True ∧ (x_8.length + [Visit.mk (x_5.getD x_12.toNat FK.stop.zero).order (x_5.getD x_12.toNat FK.stop.zero).drop (wrap (x_9 + (mtime (some x) x_10 (siteOf (fo x_3 (x_5.getD x_12.toNat FK.stop.zero).order) (x_5.getD
  x_12.toNat FK.stop.zero).drop).pl).fst)) (begin_ (Win.mk (siteOf (fo x_3 (x_5.getD x_12.toNat FK.stop.zero).order) (x_5.getD x_12.toNat FK.stop.zero).drop).lo (siteOf (fo x_3 (x_5.getD x_12.toNat FK.stop.zero).order) (x_5.getD x_12.toNat
  FK.stop.zero).drop).hi) (wrap (x_9 + (mtime (some x) x_10 (siteOf (fo x_3 (x_5.getD x_12.toNat FK.stop.zero).order) (x_5.getD x_12.toNat FK.stop.zero).drop).pl).fst))).fst (wrap ((begin_ (Win.mk (siteOf (fo x_3 (x_5.getD x_12.toNat
  FK.stop.zero).order) (x_5.getD x_12.toNat FK.stop.zero).drop).lo (siteOf (fo x_3 (x_5.getD x_12.toNat FK.stop.zero).order) (x_5.getD x_12.toNat FK.stop.zero).drop).hi) (wrap (x_9 + (mtime (some x) x_10 (siteOf (fo x_3 (x_5.getD x_12.toNat
  FK.stop.zero).order) (x_5.getD x_12.toNat FK.stop.zero).drop).pl).fst))).fst + (siteOf (fo x_3 (x_5.getD x_12.toNat FK.stop.zero).order) (x_5.getD x_12.toNat FK.stop.zero).drop).sv)) (wrap (x_11 - (fo x_3 (x_5.getD x_12.toNat
  FK.stop.zero).order).size))].length) * ((8 : Nat) * (6 : Nat)) ≤ (140737488355328 : Nat)) ∧ ((wrap ((begin_ (Win.mk (siteOf (fo x_3 (x_5.getD x_12.toNat FK.stop.zero).order) (x_5.getD x_12.toNat FK.stop.zero).drop).lo (siteOf (fo x_3
  (x_5.getD x_12.toNat FK.stop.zero).order) (x_5.getD x_12.toNat FK.stop.zero).drop).hi) (wrap (x_9 + (mtime (some x) x_10 (siteOf (fo x_3 (x_5.getD x_12.toNat FK.stop.zero).order) (x_5.getD x_12.toNat FK.stop.zero).drop).pl).fst))).fst +
  (siteOf (fo x_3 (x_5.getD x_12.toNat FK.stop.zero).order) (x_5.getD x_12.toNat FK.stop.zero).drop).sv) = wrap ((begin_ (Win.mk (siteOf (fo x_3 (x_5.getD x_12.toNat FK.stop.zero).order) (x_5.getD x_12.toNat FK.stop.zero).drop).lo (siteOf (fo
  x_3 (x_5.getD x_12.toNat FK.stop.zero).order) (x_5.getD x_12.toNat FK.stop.zero).drop).hi) (wrap (x_9 + (mtime (some x) x_10 (siteOf (fo x_3 (x_5.getD x_12.toNat FK.stop.zero).order) (x_5.getD x_12.toNat FK.stop.zero).drop).pl).fst))).fst +
  (siteOf (fo x_3 (x_5.getD x_12.toNat FK.stop.zero).order) (x_5.getD x_12.toNat FK.stop.zero).drop).sv) ∧ (siteOf (fo x_3 (x_5.getD x_12.toNat FK.stop.zero).order) (x_5.getD x_12.toNat FK.stop.zero).drop).pl = (siteOf (fo x_3 (x_5.getD
  x_12.toNat FK.stop.zero).order) (x_5.getD x_12.toNat FK.stop.zero).drop).pl ∧ wrap (x_11 - (fo x_3 (x_5.getD x_12.toNat FK.stop.zero).order).size) = wrap (x_11 - (fo x_3 (x_5.getD x_12.toNat FK.stop.zero).order).size) ∧ (↑x_5.length : Int)
  = (↑x_5.length : Int) ∧ wrap (x_12 + (1 : Int)) = wrap (x_12 + (1 : Int))) ∧ (x.n = x.n ∧ (x_2.id = x_2.id ∧ x_2.room = x_2.room ∧ x_2.home = x_2.home ∧ x_2.lo = x_2.lo ∧ x_2.hi = x_2.hi ∧ x_2.retired = x_2.retired) ∧ (0 : Int) = (0 : Int)
  ∧ (0 : Int) = (0 : Int)) ∧ x.l = x.l ∧ x_8 ++ [Visit.mk (x_5.getD x_12.toNat FK.stop.zero).order (x_5.getD x_12.toNat FK.stop.zero).drop (wrap (x_9 + (mtime (some x) x_10 (siteOf (fo x_3 (x_5.getD x_12.toNat FK.stop.zero).order) (x_5.getD
  x_12.toNat FK.stop.zero).drop).pl).fst)) (begin_ (Win.mk (siteOf (fo x_3 (x_5.getD x_12.toNat FK.stop.zero).order) (x_5.getD x_12.toNat FK.stop.zero).drop).lo (siteOf (fo x_3 (x_5.getD x_12.toNat FK.stop.zero).order) (x_5.getD x_12.toNat
  FK.stop.zero).drop).hi) (wrap (x_9 + (mtime (some x) x_10 (siteOf (fo x_3 (x_5.getD x_12.toNat FK.stop.zero).order) (x_5.getD x_12.toNat FK.stop.zero).drop).pl).fst))).fst (wrap ((begin_ (Win.mk (siteOf (fo x_3 (x_5.getD x_12.toNat
  FK.stop.zero).order) (x_5.getD x_12.toNat FK.stop.zero).drop).lo (siteOf (fo x_3 (x_5.getD x_12.toNat FK.stop.zero).order) (x_5.getD x_12.toNat FK.stop.zero).drop).hi) (wrap (x_9 + (mtime (some x) x_10 (siteOf (fo x_3 (x_5.getD x_12.toNat
  FK.stop.zero).order) (x_5.getD x_12.toNat FK.stop.zero).drop).pl).fst))).fst + (siteOf (fo x_3 (x_5.getD x_12.toNat FK.stop.zero).order) (x_5.getD x_12.toNat FK.stop.zero).drop).sv)) (wrap (x_11 - (fo x_3 (x_5.getD x_12.toNat
  FK.stop.zero).order).size))] = x_8 ++ [Visit.mk (x_5.getD x_12.toNat FK.stop.zero).order (x_5.getD x_12.toNat FK.stop.zero).drop (wrap (x_9 + (mtime (some x) x_10 (siteOf (fo x_3 (x_5.getD x_12.toNat FK.stop.zero).order) (x_5.getD
  x_12.toNat FK.stop.zero).drop).pl).fst)) (begin_ (Win.mk (siteOf (fo x_3 (x_5.getD x_12.toNat FK.stop.zero).order) (x_5.getD x_12.toNat FK.stop.zero).drop).lo (siteOf (fo x_3 (x_5.getD x_12.toNat FK.stop.zero).order) (x_5.getD x_12.toNat
  FK.stop.zero).drop).hi) (wrap (x_9 + (mtime (some x) x_10 (siteOf (fo x_3 (x_5.getD x_12.toNat FK.stop.zero).order) (x_5.getD x_12.toNat FK.stop.zero).drop).pl).fst))).fst (wrap ((begin_ (Win.mk (siteOf (fo x_3 (x_5.getD x_12.toNat
  FK.stop.zero).order) (x_5.getD x_12.toNat FK.stop.zero).drop).lo (siteOf (fo x_3 (x_5.getD x_12.toNat FK.stop.zero).order) (x_5.getD x_12.toNat FK.stop.zero).drop).hi) (wrap (x_9 + (mtime (some x) x_10 (siteOf (fo x_3 (x_5.getD x_12.toNat
  FK.stop.zero).order) (x_5.getD x_12.toNat FK.stop.zero).drop).pl).fst))).fst + (siteOf (fo x_3 (x_5.getD x_12.toNat FK.stop.zero).order) (x_5.getD x_12.toNat FK.stop.zero).drop).sv)) (wrap (x_11 - (fo x_3 (x_5.getD x_12.toNat
  FK.stop.zero).order).size))] ∧ x_5 = x_5 ∧ x_3 = x_3) ∧ inv (x_8 ++ [Visit.mk (x_5.getD x_12.toNat FK.stop.zero).order (x_5.getD x_12.toNat FK.stop.zero).drop (wrap (x_9 + (mtime (some x) x_10 (siteOf (fo x_3 (x_5.getD x_12.toNat
  FK.stop.zero).order) (x_5.getD x_12.toNat FK.stop.zero).drop).pl).fst)) (begin_ (Win.mk (siteOf (fo x_3 (x_5.getD x_12.toNat FK.stop.zero).order) (x_5.getD x_12.toNat FK.stop.zero).drop).lo (siteOf (fo x_3 (x_5.getD x_12.toNat
  FK.stop.zero).order) (x_5.getD x_12.toNat FK.stop.zero).drop).hi) (wrap (x_9 + (mtime (some x) x_10 (siteOf (fo x_3 (x_5.getD x_12.toNat FK.stop.zero).order) (x_5.getD x_12.toNat FK.stop.zero).drop).pl).fst))).fst (wrap ((begin_ (Win.mk
  (siteOf (fo x_3 (x_5.getD x_12.toNat FK.stop.zero).order) (x_5.getD x_12.toNat FK.stop.zero).drop).lo (siteOf (fo x_3 (x_5.getD x_12.toNat FK.stop.zero).order) (x_5.getD x_12.toNat FK.stop.zero).drop).hi) (wrap (x_9 + (mtime (some x) x_10
  (siteOf (fo x_3 (x_5.getD x_12.toNat FK.stop.zero).order) (x_5.getD x_12.toNat FK.stop.zero).drop).pl).fst))).fst + (siteOf (fo x_3 (x_5.getD x_12.toNat FK.stop.zero).order) (x_5.getD x_12.toNat FK.stop.zero).drop).sv)) (wrap (x_11 - (fo
  x_3 (x_5.getD x_12.toNat FK.stop.zero).order).size))]) (wrap ((begin_ (Win.mk (siteOf (fo x_3 (x_5.getD x_12.toNat FK.stop.zero).order) (x_5.getD x_12.toNat FK.stop.zero).drop).lo (siteOf (fo x_3 (x_5.getD x_12.toNat FK.stop.zero).order)
  (x_5.getD x_12.toNat FK.stop.zero).drop).hi) (wrap (x_9 + (mtime (some x) x_10 (siteOf (fo x_3 (x_5.getD x_12.toNat FK.stop.zero).order) (x_5.getD x_12.toNat FK.stop.zero).drop).pl).fst))).fst + (siteOf (fo x_3 (x_5.getD x_12.toNat
  FK.stop.zero).order) (x_5.getD x_12.toNat FK.stop.zero).drop).sv)) (siteOf (fo x_3 (x_5.getD x_12.toNat FK.stop.zero).order) (x_5.getD x_12.toNat FK.stop.zero).drop).pl (wrap (x_11 - (fo x_3 (x_5.getD x_12.toNat FK.stop.zero).order).size))
  (wrap (x_12 + (1 : Int))) ∧ μ (x_8 ++ [Visit.mk (x_5.getD x_12.toNat FK.stop.zero).order (x_5.getD x_12.toNat FK.stop.zero).drop (wrap (x_9 + (mtime (some x) x_10 (siteOf (fo x_3 (x_5.getD x_12.toNat FK.stop.zero).order) (x_5.getD
  x_12.toNat FK.stop.zero).drop).pl).fst)) (begin_ (Win.mk (siteOf (fo x_3 (x_5.getD x_12.toNat FK.stop.zero).order) (x_5.getD x_12.toNat FK.stop.zero).drop).lo (siteOf (fo x_3 (x_5.getD x_12.toNat FK.stop.zero).order) (x_5.getD x_12.toNat
  FK.stop.zero).drop).hi) (wrap (x_9 + (mtime (some x) x_10 (siteOf (fo x_3 (x_5.getD x_12.toNat FK.stop.zero).order) (x_5.getD x_12.toNat FK.stop.zero).drop).pl).fst))).fst (wrap ((begin_ (Win.mk (siteOf (fo x_3 (x_5.getD x_12.toNat
  FK.stop.zero).order) (x_5.getD x_12.toNat FK.stop.zero).drop).lo (siteOf (fo x_3 (x_5.getD x_12.toNat FK.stop.zero).order) (x_5.getD x_12.toNat FK.stop.zero).drop).hi) (wrap (x_9 + (mtime (some x) x_10 (siteOf (fo x_3 (x_5.getD x_12.toNat
  FK.stop.zero).order) (x_5.getD x_12.toNat FK.stop.zero).drop).pl).fst))).fst + (siteOf (fo x_3 (x_5.getD x_12.toNat FK.stop.zero).order) (x_5.getD x_12.toNat FK.stop.zero).drop).sv)) (wrap (x_11 - (fo x_3 (x_5.getD x_12.toNat
  FK.stop.zero).order).size))]) (wrap ((begin_ (Win.mk (siteOf (fo x_3 (x_5.getD x_12.toNat FK.stop.zero).order) (x_5.getD x_12.toNat FK.stop.zero).drop).lo (siteOf (fo x_3 (x_5.getD x_12.toNat FK.stop.zero).order) (x_5.getD x_12.toNat
  FK.stop.zero).drop).hi) (wrap (x_9 + (mtime (some x) x_10 (siteOf (fo x_3 (x_5.getD x_12.toNat FK.stop.zero).order) (x_5.getD x_12.toNat FK.stop.zero).drop).pl).fst))).fst + (siteOf (fo x_3 (x_5.getD x_12.toNat FK.stop.zero).order)
  (x_5.getD x_12.toNat FK.stop.zero).drop).sv)) (siteOf (fo x_3 (x_5.getD x_12.toNat FK.stop.zero).order) (x_5.getD x_12.toNat FK.stop.zero).drop).pl (wrap (x_11 - (fo x_3 (x_5.getD x_12.toNat FK.stop.zero).order).size)) (wrap (x_12 + (1 :
  Int))) < μ x_8 x_9 x_10 x_11 x_12)) ∧ ((!(begin_ (Win.mk (siteOf (fo x_3 (x_5.getD x_12.toNat FK.stop.zero).order) (x_5.getD x_12.toNat FK.stop.zero).drop).lo (siteOf (fo x_3 (x_5.getD x_12.toNat FK.stop.zero).order) (x_5.getD x_12.toNat
  FK.stop.zero).drop).hi) (wrap (x_9 + (mtime (some x) x_10 (siteOf (fo x_3 (x_5.getD x_12.toNat FK.stop.zero).order) (x_5.getD x_12.toNat FK.stop.zero).drop).pl).fst))).snd) = !false → (x_12 = (fauR (driveT x x_2 x_3 x_5)).spot ∧ (15 : Int)
  = (fauR (driveT x x_2 x_3 x_5)).why) ∧ visR (driveT x x_2 x_3 x_5) = nilOf Visit))) ∧ ((x_5.getD x_12.toNat FK.stop.zero).drop = false → (decide (wrap (x_11 + (fo x_3 (x_5.getD x_12.toNat FK.stop.zero).order).size) > x_2.room) = true →
  (x_12 = (fauR (driveT x x_2 x_3 x_5)).spot ∧ (14 : Int) = (fauR (driveT x x_2 x_3 x_5)).why) ∧ visR (driveT x x_2 x_3 x_5) = nilOf Visit) ∧ (decide (wrap (x_11 + (fo x_3 (x_5.getD x_12.toNat FK.stop.zero).order).size) > x_2.room) = false →
  (∀ (x_18 : MapD), some x = some x_18 → MapOk x_18) ∧ ((!(begin_ (Win.mk (siteOf (fo x_3 (x_5.getD x_12.toNat FK.stop.zero).order) (x_5.getD x_12.toNat FK.stop.zero).drop).lo (siteOf (fo x_3 (x_5.getD x_12.toNat FK.stop.zero).order)
  (x_5.getD x_12.toNat FK.stop.zero).drop).hi) (wrap (x_9 + (mtime (some x) x_10 (siteOf (fo x_3 (x_5.getD x_12.toNat FK.stop.zero).order) (x_5.getD x_12.toNat FK.stop.zero).drop).pl).fst))).snd) = false → (decide (wrap ((begin_ (Win.mk
  (siteOf (fo x_3 (x_5.getD x_12.toNat FK.stop.zero).order) (x_5.getD x_12.toNat FK.stop.zero).drop).lo (siteOf (fo x_3 (x_5.getD x_12.toNat FK.stop.zero).order) (x_5.getD x_12.toNat FK.stop.zero).drop).hi) (wrap (x_9 + (mtime (some x) x_10
  (siteOf (fo x_3 (x_5.getD x_12.toNat FK.stop.zero).order) (x_5.getD x_12.toNat FK.stop.zero).drop).pl).fst))).fst + (siteOf (fo x_3 (x_5.getD x_12.toNat FK.stop.zero).order) (x_5.getD x_12.toNat FK.stop.zero).drop).sv) > x_2.hi) = true →
  (x_12 = (fauR (driveT x x_2 x_3 x_5)).spot ∧ (15 : Int) = (fauR (driveT x x_2 x_3 x_5)).why) ∧ visR (driveT x x_2 x_3 x_5) = nilOf Visit) ∧ (decide (wrap ((begin_ (Win.mk (siteOf (fo x_3 (x_5.getD x_12.toNat FK.stop.zero).order) (x_5.getD
  x_12.toNat FK.stop.zero).drop).lo (siteOf (fo x_3 (x_5.getD x_12.toNat FK.stop.zero).order) (x_5.getD x_12.toNat FK.stop.zero).drop).hi) (wrap (x_9 + (mtime (some x) x_10 (siteOf (fo x_3 (x_5.getD x_12.toNat FK.stop.zero).order) (x_5.getD
  x_12.toNat FK.stop.zero).drop).pl).fst))).fst + (siteOf (fo x_3 (x_5.getD x_12.toNat FK.stop.zero).order) (x_5.getD x_12.toNat FK.stop.zero).drop).sv) > x_2.hi) = false → (True ∧ (x_8.length + [Visit.mk (x_5.getD x_12.toNat
  FK.stop.zero).order (x_5.getD x_12.toNat FK.stop.zero).drop (wrap (x_9 + (mtime (some x) x_10 (siteOf (fo x_3 (x_5.getD x_12.toNat FK.stop.zero).order) (x_5.getD x_12.toNat FK.stop.zero).drop).pl).fst)) (begin_ (Win.mk (siteOf (fo x_3
  (x_5.getD x_12.toNat FK.stop.zero).order) (x_5.getD x_12.toNat FK.stop.zero).drop).lo (siteOf (fo x_3 (x_5.getD x_12.toNat FK.stop.zero).order) (x_5.getD x_12.toNat FK.stop.zero).drop).hi) (wrap (x_9 + (mtime (some x) x_10 (siteOf (fo x_3
  (x_5.getD x_12.toNat FK.stop.zero).order) (x_5.getD x_12.toNat FK.stop.zero).drop).pl).fst))).fst (wrap ((begin_ (Win.mk (siteOf (fo x_3 (x_5.getD x_12.toNat FK.stop.zero).order) (x_5.getD x_12.toNat FK.stop.zero).drop).lo (siteOf (fo x_3
  (x_5.getD x_12.toNat FK.stop.zero).order) (x_5.getD x_12.toNat FK.stop.zero).drop).hi) (wrap (x_9 + (mtime (some x) x_10 (siteOf (fo x_3 (x_5.getD x_12.toNat FK.stop.zero).order) (x_5.getD x_12.toNat FK.stop.zero).drop).pl).fst))).fst +
  (siteOf (fo x_3 (x_5.getD x_12.toNat FK.stop.zero).order) (x_5.getD x_12.toNat FK.stop.zero).drop).sv)) (wrap (x_11 + (fo x_3 (x_5.getD x_12.toNat FK.stop.zero).order).size))].length) * ((8 : Nat) * (6 : Nat)) ≤ (140737488355328 : Nat)) ∧
  ((wrap ((begin_ (Win.mk (siteOf (fo x_3 (x_5.getD x_12.toNat FK.stop.zero).order) (x_5.getD x_12.toNat FK.stop.zero).drop).lo (siteOf (fo x_3 (x_5.getD x_12.toNat FK.stop.zero).order) (x_5.getD x_12.toNat FK.stop.zero).drop).hi) (wrap (x_9
  + (mtime (some x) x_10 (siteOf (fo x_3 (x_5.getD x_12.toNat FK.stop.zero).order) (x_5.getD x_12.toNat FK.stop.zero).drop).pl).fst))).fst + (siteOf (fo x_3 (x_5.getD x_12.toNat FK.stop.zero).order) (x_5.getD x_12.toNat
  FK.stop.zero).drop).sv) = wrap ((begin_ (Win.mk (siteOf (fo x_3 (x_5.getD x_12.toNat FK.stop.zero).order) (x_5.getD x_12.toNat FK.stop.zero).drop).lo (siteOf (fo x_3 (x_5.getD x_12.toNat FK.stop.zero).order) (x_5.getD x_12.toNat
  FK.stop.zero).drop).hi) (wrap (x_9 + (mtime (some x) x_10 (siteOf (fo x_3 (x_5.getD x_12.toNat FK.stop.zero).order) (x_5.getD x_12.toNat FK.stop.zero).drop).pl).fst))).fst + (siteOf (fo x_3 (x_5.getD x_12.toNat FK.stop.zero).order)
  (x_5.getD x_12.toNat FK.stop.zero).drop).sv) ∧ (siteOf (fo x_3 (x_5.getD x_12.toNat FK.stop.zero).order) (x_5.getD x_12.toNat FK.stop.zero).drop).pl = (siteOf (fo x_3 (x_5.getD x_12.toNat FK.stop.zero).order) (x_5.getD x_12.toNat
  FK.stop.zero).drop).pl ∧ wrap (x_11 + (fo x_3 (x_5.getD x_12.toNat FK.stop.zero).order).size) = wrap (x_11 + (fo x_3 (x_5.getD x_12.toNat FK.stop.zero).order).size) ∧ (↑x_5.length : Int) = (↑x_5.length : Int) ∧ wrap (x_12 + (1 : Int)) =
  wrap (x_12 + (1 : Int))) ∧ (x.n = x.n ∧ (x_2.id = x_2.id ∧ x_2.room = x_2.room ∧ x_2.home = x_2.home ∧ x_2.lo = x_2.lo ∧ x_2.hi = x_2.hi ∧ x_2.retired = x_2.retired) ∧ (0 : Int) = (0 : Int) ∧ (0 : Int) = (0 : Int)) ∧ x.l = x.l ∧ x_8 ++
  [Visit.mk (x_5.getD x_12.toNat FK.stop.zero).order (x_5.getD x_12.toNat FK.stop.zero).drop (wrap (x_9 + (mtime (some x) x_10 (siteOf (fo x_3 (x_5.getD x_12.toNat FK.stop.zero).order) (x_5.getD x_12.toNat FK.stop.zero).drop).pl).fst))
  (begin_ (Win.mk (siteOf (fo x_3 (x_5.getD x_12.toNat FK.stop.zero).order) (x_5.getD x_12.toNat FK.stop.zero).drop).lo (siteOf (fo x_3 (x_5.getD x_12.toNat FK.stop.zero).order) (x_5.getD x_12.toNat FK.stop.zero).drop).hi) (wrap (x_9 + (mtime
  (some x) x_10 (siteOf (fo x_3 (x_5.getD x_12.toNat FK.stop.zero).order) (x_5.getD x_12.toNat FK.stop.zero).drop).pl).fst))).fst (wrap ((begin_ (Win.mk (siteOf (fo x_3 (x_5.getD x_12.toNat FK.stop.zero).order) (x_5.getD x_12.toNat
  FK.stop.zero).drop).lo (siteOf (fo x_3 (x_5.getD x_12.toNat FK.stop.zero).order) (x_5.getD x_12.toNat FK.stop.zero).drop).hi) (wrap (x_9 + (mtime (some x) x_10 (siteOf (fo x_3 (x_5.getD x_12.toNat FK.stop.zero).order) (x_5.getD x_12.toNat
  FK.stop.zero).drop).pl).fst))).fst + (siteOf (fo x_3 (x_5.getD x_12.toNat FK.stop.zero).order) (x_5.getD x_12.toNat FK.stop.zero).drop).sv)) (wrap (x_11 + (fo x_3 (x_5.getD x_12.toNat FK.stop.zero).order).size))] = x_8 ++ [Visit.mk
  (x_5.getD x_12.toNat FK.stop.zero).order (x_5.getD x_12.toNat FK.stop.zero).drop (wrap (x_9 + (mtime (some x) x_10 (siteOf (fo x_3 (x_5.getD x_12.toNat FK.stop.zero).order) (x_5.getD x_12.toNat FK.stop.zero).drop).pl).fst)) (begin_ (Win.mk
  (siteOf (fo x_3 (x_5.getD x_12.toNat FK.stop.zero).order) (x_5.getD x_12.toNat FK.stop.zero).drop).lo (siteOf (fo x_3 (x_5.getD x_12.toNat FK.stop.zero).order) (x_5.getD x_12.toNat FK.stop.zero).drop).hi) (wrap (x_9 + (mtime (some x) x_10
  (siteOf (fo x_3 (x_5.getD x_12.toNat FK.stop.zero).order) (x_5.getD x_12.toNat FK.stop.zero).drop).pl).fst))).fst (wrap ((begin_ (Win.mk (siteOf (fo x_3 (x_5.getD x_12.toNat FK.stop.zero).order) (x_5.getD x_12.toNat FK.stop.zero).drop).lo
  (siteOf (fo x_3 (x_5.getD x_12.toNat FK.stop.zero).order) (x_5.getD x_12.toNat FK.stop.zero).drop).hi) (wrap (x_9 + (mtime (some x) x_10 (siteOf (fo x_3 (x_5.getD x_12.toNat FK.stop.zero).order) (x_5.getD x_12.toNat
  FK.stop.zero).drop).pl).fst))).fst + (siteOf (fo x_3 (x_5.getD x_12.toNat FK.stop.zero).order) (x_5.getD x_12.toNat FK.stop.zero).drop).sv)) (wrap (x_11 + (fo x_3 (x_5.getD x_12.toNat FK.stop.zero).order).size))] ∧ x_5 = x_5 ∧ x_3 = x_3) ∧
  inv (x_8 ++ [Visit.mk (x_5.getD x_12.toNat FK.stop.zero).order (x_5.getD x_12.toNat FK.stop.zero).drop (wrap (x_9 + (mtime (some x) x_10 (siteOf (fo x_3 (x_5.getD x_12.toNat FK.stop.zero).order) (x_5.getD x_12.toNat
  FK.stop.zero).drop).pl).fst)) (begin_ (Win.mk (siteOf (fo x_3 (x_5.getD x_12.toNat FK.stop.zero).order) (x_5.getD x_12.toNat FK.stop.zero).drop).lo (siteOf (fo x_3 (x_5.getD x_12.toNat FK.stop.zero).order) (x_5.getD x_12.toNat
  FK.stop.zero).drop).hi) (wrap (x_9 + (mtime (some x) x_10 (siteOf (fo x_3 (x_5.getD x_12.toNat FK.stop.zero).order) (x_5.getD x_12.toNat FK.stop.zero).drop).pl).fst))).fst (wrap ((begin_ (Win.mk (siteOf (fo x_3 (x_5.getD x_12.toNat
  FK.stop.zero).order) (x_5.getD x_12.toNat FK.stop.zero).drop).lo (siteOf (fo x_3 (x_5.getD x_12.toNat FK.stop.zero).order) (x_5.getD x_12.toNat FK.stop.zero).drop).hi) (wrap (x_9 + (mtime (some x) x_10 (siteOf (fo x_3 (x_5.getD x_12.toNat
  FK.stop.zero).order) (x_5.getD x_12.toNat FK.stop.zero).drop).pl).fst))).fst + (siteOf (fo x_3 (x_5.getD x_12.toNat FK.stop.zero).order) (x_5.getD x_12.toNat FK.stop.zero).drop).sv)) (wrap (x_11 + (fo x_3 (x_5.getD x_12.toNat
  FK.stop.zero).order).size))]) (wrap ((begin_ (Win.mk (siteOf (fo x_3 (x_5.getD x_12.toNat FK.stop.zero).order) (x_5.getD x_12.toNat FK.stop.zero).drop).lo (siteOf (fo x_3 (x_5.getD x_12.toNat FK.stop.zero).order) (x_5.getD x_12.toNat
  FK.stop.zero).drop).hi) (wrap (x_9 + (mtime (some x) x_10 (siteOf (fo x_3 (x_5.getD x_12.toNat FK.stop.zero).order) (x_5.getD x_12.toNat FK.stop.zero).drop).pl).fst))).fst + (siteOf (fo x_3 (x_5.getD x_12.toNat FK.stop.zero).order)
  (x_5.getD x_12.toNat FK.stop.zero).drop).sv)) (siteOf (fo x_3 (x_5.getD x_12.toNat FK.stop.zero).order) (x_5.getD x_12.toNat FK.stop.zero).drop).pl (wrap (x_11 + (fo x_3 (x_5.getD x_12.toNat FK.stop.zero).order).size)) (wrap (x_12 + (1 :
  Int))) ∧ μ (x_8 ++ [Visit.mk (x_5.getD x_12.toNat FK.stop.zero).order (x_5.getD x_12.toNat FK.stop.zero).drop (wrap (x_9 + (mtime (some x) x_10 (siteOf (fo x_3 (x_5.getD x_12.toNat FK.stop.zero).order) (x_5.getD x_12.toNat
  FK.stop.zero).drop).pl).fst)) (begin_ (Win.mk (siteOf (fo x_3 (x_5.getD x_12.toNat FK.stop.zero).order) (x_5.getD x_12.toNat FK.stop.zero).drop).lo (siteOf (fo x_3 (x_5.getD x_12.toNat FK.stop.zero).order) (x_5.getD x_12.toNat
  FK.stop.zero).drop).hi) (wrap (x_9 + (mtime (some x) x_10 (siteOf (fo x_3 (x_5.getD x_12.toNat FK.stop.zero).order) (x_5.getD x_12.toNat FK.stop.zero).drop).pl).fst))).fst (wrap ((begin_ (Win.mk (siteOf (fo x_3 (x_5.getD x_12.toNat
  FK.stop.zero).order) (x_5.getD x_12.toNat FK.stop.zero).drop).lo (siteOf (fo x_3 (x_5.getD x_12.toNat FK.stop.zero).order) (x_5.getD x_12.toNat FK.stop.zero).drop).hi) (wrap (x_9 + (mtime (some x) x_10 (siteOf (fo x_3 (x_5.getD x_12.toNat
  FK.stop.zero).order) (x_5.getD x_12.toNat FK.stop.zero).drop).pl).fst))).fst + (siteOf (fo x_3 (x_5.getD x_12.toNat FK.stop.zero).order) (x_5.getD x_12.toNat FK.stop.zero).drop).sv)) (wrap (x_11 + (fo x_3 (x_5.getD x_12.toNat
  FK.stop.zero).order).size))]) (wrap ((begin_ (Win.mk (siteOf (fo x_3 (x_5.getD x_12.toNat FK.stop.zero).order) (x_5.getD x_12.toNat FK.stop.zero).drop).lo (siteOf (fo x_3 (x_5.getD x_12.toNat FK.stop.zero).order) (x_5.getD x_12.toNat
  FK.stop.zero).drop).hi) (wrap (x_9 + (mtime (some x) x_10 (siteOf (fo x_3 (x_5.getD x_12.toNat FK.stop.zero).order) (x_5.getD x_12.toNat FK.stop.zero).drop).pl).fst))).fst + (siteOf (fo x_3 (x_5.getD x_12.toNat FK.stop.zero).order)
  (x_5.getD x_12.toNat FK.stop.zero).drop).sv)) (siteOf (fo x_3 (x_5.getD x_12.toNat FK.stop.zero).order) (x_5.getD x_12.toNat FK.stop.zero).drop).pl (wrap (x_11 + (fo x_3 (x_5.getD x_12.toNat FK.stop.zero).order).size)) (wrap (x_12 + (1 :
  Int))) < μ x_8 x_9 x_10 x_11 x_12)) ∧ ((!(begin_ (Win.mk (siteOf (fo x_3 (x_5.getD x_12.toNat FK.stop.zero).order) (x_5.getD x_12.toNat FK.stop.zero).drop).lo (siteOf (fo x_3 (x_5.getD x_12.toNat FK.stop.zero).order) (x_5.getD x_12.toNat
  FK.stop.zero).drop).hi) (wrap (x_9 + (mtime (some x) x_10 (siteOf (fo x_3 (x_5.getD x_12.toNat FK.stop.zero).order) (x_5.getD x_12.toNat FK.stop.zero).drop).pl).fst))).snd) = !false → (x_12 = (fauR (driveT x x_2 x_3 x_5)).spot ∧ (15 : Int)
  = (fauR (driveT x x_2 x_3 x_5)).why) ∧ visR (driveT x x_2 x_3 x_5) = nilOf Visit))))) ∧ (decide (x_12 < (↑x_5.length : Int)) = false → (decide (x_11 > (0 : Int)) = true → ((↑x_5.length : Int) = (fauR (driveT x x_2 x_3 x_5)).spot ∧ (18 :
  Int) = (fauR (driveT x x_2 x_3 x_5)).why) ∧ visR (driveT x x_2 x_3 x_5) = nilOf Visit) ∧ (decide (x_11 > (0 : Int)) = false → ((0 : Int) = (fauR (driveT x x_2 x_3 x_5)).spot ∧ (0 : Int) = (fauR (driveT x x_2 x_3 x_5)).why) ∧ x_8 = visR
  (driveT x x_2 x_3 x_5)))
theorem timed_told (hc : CsOk Try.prog timed_cs) (h : timed_vc) : Told Try.prog 41 timed_con := told (A := timed_la) tabOk mixed hc Try.func41 (by kernel_rfl) (by kernel_rfl) h
def drive_vc : Prop :=
  (∀ (x : Driver) (x_1 : List Order), LenOk x_1.length → ∀ (x_3 : List Stop), LenOk x_3.length → (∀ (x : MapD), none = some x → MapOk x) → (∀ (x : MapD), none = some x → MapOk x) ∧ ((!fitB none x x_1 x_3) = true → ((0 : Int) = (fauR (drive
  none x x_1 x_3)).spot ∧ (1 : Int) = (fauR (drive none x x_1 x_3)).why) ∧ visR (drive none x x_1 x_3) = nilOf Visit) ∧ ((!fitB none x x_1 x_3) = false → Bad (nat_lit 4) Oper (Oper.mk (some (nat_lit 21)) (Op.call (Call.mk (Callee.value
  (Operand.func (nat_lit 41))) (Array.mk [Operand.tmp (nat_lit 17), Operand.tmp (nat_lit 18), Operand.tmp (nat_lit 19), Operand.tmp (nat_lit 20)]) (Array.mk [nat_lit 35, nat_lit 44, nat_lit 24, nat_lit 39]))) (nat_lit 84) "route.go:95"
  (Array.mk [Edge.mk (nat_lit 0) Ground.data, Edge.mk (nat_lit 1) Ground.data, Edge.mk (nat_lit 2) Ground.data, Edge.mk (nat_lit 3) Ground.data]) none))) ∧ ∀ (x : MapD), LenOk x.l.length → ∀ (x_2 : Driver) (x_3 : List Order), LenOk x_3.length
  → ∀ (x_5 : List Stop), LenOk x_5.length → (∀ (x_7 : MapD), some x = some x_7 → MapOk x_7) → (∀ (x_8 : MapD), some x = some x_8 → MapOk x_8) ∧ ((!fitB (some x) x_2 x_3 x_5) = true → ((0 : Int) = (fauR (drive (some x) x_2 x_3 x_5)).spot ∧ (1
  : Int) = (fauR (drive (some x) x_2 x_3 x_5)).why) ∧ visR (drive (some x) x_2 x_3 x_5) = nilOf Visit) ∧ ((!fitB (some x) x_2 x_3 x_5) = false → TimedPre x x_2 x_3 x_5 ∧ ((fauR (driveT x x_2 x_3 x_5)).spot = (fauR (drive (some x) x_2 x_3
  x_5)).spot ∧ (fauR (driveT x x_2 x_3 x_5)).why = (fauR (drive (some x) x_2 x_3 x_5)).why) ∧ visR (driveT x x_2 x_3 x_5) = visR (drive (some x) x_2 x_3 x_5))
theorem drive_told (hc : CsOk Try.prog drive_cs) (h : drive_vc) : Told Try.prog 30 drive_con := told (A := drive_la) tabOk mixed hc Try.func30 (by kernel_rfl) (by kernel_rfl) h
def good_vc : Prop :=
  ∀ (x : Fault), decide (x.why = (0 : Int)) = good x
theorem good_told (hc : CsOk Try.prog good_cs) (h : good_vc) : Told Try.prog 20 good_con := told (A := good_la) tabOk mixed hc Try.func20 (by kernel_rfl) (by kernel_rfl) h
def way_vc : Prop :=
  ∀ (x : MapD), LenOk x.l.length → ∀ (x_2 : Driver) (x_3 : List Order), LenOk x_3.length → ∀ (x_5 : List Stop), LenOk x_5.length → WayPre x x_2 x_3 x_5 → ∃ (inv : Int → Int → Int → Prop), ∃ (μ : Int → Int → Int → Nat), ((((0 : Int) = (0 :
  Int) ∧ x_2.home = x_2.home ∧ (↑x_5.length : Int) = (↑x_5.length : Int) ∧ (0 : Int) = (0 : Int)) ∧ x.n = x.n ∧ x.l = x.l ∧ x_5 = x_5 ∧ x_3 = x_3) ∧ inv (0 : Int) x_2.home (0 : Int)) ∧ ∀ (x_8 x_9 x_10 : Int), inv x_8 x_9 x_10 → (decide (x_10
  < (↑x_5.length : Int)) = true → ((0 : Int) ≤ x_10 ∧ x_10 < (↑x_5.length : Int)) ∧ x_10.toNat < x_5.length ∧ (∀ (x_13 : MapD), some x = some x_13 → MapOk x_13) ∧ ((wrap (x_8 + (mtime (some x) x_9 (siteOf (fo x_3 (x_5.getD x_10.toNat
  FK.stop.zero).order) (x_5.getD x_10.toNat FK.stop.zero).drop).pl).fst) = wrap (x_8 + (mtime (some x) x_9 (siteOf (fo x_3 (x_5.getD x_10.toNat FK.stop.zero).order) (x_5.getD x_10.toNat FK.stop.zero).drop).pl).fst) ∧ (siteOf (fo x_3 (x_5.getD
  x_10.toNat FK.stop.zero).order) (x_5.getD x_10.toNat FK.stop.zero).drop).pl = (siteOf (fo x_3 (x_5.getD x_10.toNat FK.stop.zero).order) (x_5.getD x_10.toNat FK.stop.zero).drop).pl ∧ (↑x_5.length : Int) = (↑x_5.length : Int) ∧ wrap (x_10 +
  (1 : Int)) = wrap (x_10 + (1 : Int))) ∧ x.n = x.n ∧ x.l = x.l ∧ x_5 = x_5 ∧ x_3 = x_3) ∧ inv (wrap (x_8 + (mtime (some x) x_9 (siteOf (fo x_3 (x_5.getD x_10.toNat FK.stop.zero).order) (x_5.getD x_10.toNat FK.stop.zero).drop).pl).fst))
  (siteOf (fo x_3 (x_5.getD x_10.toNat FK.stop.zero).order) (x_5.getD x_10.toNat FK.stop.zero).drop).pl (wrap (x_10 + (1 : Int))) ∧ μ (wrap (x_8 + (mtime (some x) x_9 (siteOf (fo x_3 (x_5.getD x_10.toNat FK.stop.zero).order) (x_5.getD
  x_10.toNat FK.stop.zero).drop).pl).fst)) (siteOf (fo x_3 (x_5.getD x_10.toNat FK.stop.zero).order) (x_5.getD x_10.toNat FK.stop.zero).drop).pl (wrap (x_10 + (1 : Int))) < μ x_8 x_9 x_10) ∧ (decide (x_10 < (↑x_5.length : Int)) = false → x_8
  = way x x_2 x_3 x_5)
theorem way_told (hc : CsOk Try.prog way_cs) (h : way_vc) : Told Try.prog 33 way_con := told (A := way_la) tabOk mixed hc Try.func33 (by kernel_rfl) (by kernel_rfl) h
def cost_vc : Prop :=
  (∀ (x : Driver) (x_1 : List Order), LenOk x_1.length → ∀ (x_3 : List Stop), LenOk x_3.length → (∀ (x : MapD), none = some x → MapOk x) → (∀ (x : MapD), none = some x → MapOk x) ∧ ((!good (fauR (drive none x x_1 x_3))) = true → (0 : Int) =
  (cost none x x_1 x_3).fst ∧ false = (cost none x x_1 x_3).snd) ∧ ((!good (fauR (drive none x x_1 x_3))) = false → Bad (nat_lit 4) Oper (Oper.mk (some (nat_lit 27)) (Op.call (Call.mk (Callee.value (Operand.func (nat_lit 33))) (Array.mk
  [Operand.tmp (nat_lit 23), Operand.tmp (nat_lit 24), Operand.tmp (nat_lit 25), Operand.tmp (nat_lit 26)]) (Array.mk [nat_lit 35, nat_lit 44, nat_lit 24, nat_lit 39]))) (nat_lit 3) "route.go:117" (Array.mk [Edge.mk (nat_lit 0) Ground.data,
  Edge.mk (nat_lit 1) Ground.data, Edge.mk (nat_lit 2) Ground.data, Edge.mk (nat_lit 3) Ground.data]) none))) ∧ ∀ (x : MapD), LenOk x.l.length → ∀ (x_2 : Driver) (x_3 : List Order), LenOk x_3.length → ∀ (x_5 : List Stop), LenOk x_5.length →
  (∀ (x_7 : MapD), some x = some x_7 → MapOk x_7) → (∀ (x_8 : MapD), some x = some x_8 → MapOk x_8) ∧ ((!good (fauR (drive (some x) x_2 x_3 x_5))) = true → (0 : Int) = (cost (some x) x_2 x_3 x_5).fst ∧ false = (cost (some x) x_2 x_3 x_5).snd)
  ∧ ((!good (fauR (drive (some x) x_2 x_3 x_5))) = false → WayPre x x_2 x_3 x_5 ∧ way x x_2 x_3 x_5 = (cost (some x) x_2 x_3 x_5).fst ∧ true = (cost (some x) x_2 x_3 x_5).snd)
theorem cost_told (hc : CsOk Try.prog cost_cs) (h : cost_vc) : Told Try.prog 14 cost_con := told (A := cost_la) tabOk mixed hc Try.func14 (by kernel_rfl) (by kernel_rfl) h
end Go.Eng

/- What the functions that drive tell is so: the program's. -/
set_option linter.unusedVariables false
set_option linter.unusedSimpArgs false
namespace Go.Eng
open Go Go.Proofs

theorem next_ix {α : Type} {d : α} {l : List α} {i : Int} (hl : l.length ≤ 9223372036854775807) (h0 : 0 ≤ i) (h : i < l.length) : wrap (i + 1) = i + 1 ∧ (i + 1).toNat = i.toNat + 1 ∧ l.drop i.toNat = l.getD i.toNat d :: l.drop (i.toNat + 1) :=
  ⟨wrap_id (by omega) (by omega), by omega, getD_drop (by omega)⟩
theorem end_ix {α : Type} {l : List α} {i : Int} (h : l.length ≤ i) : l.drop i.toNat = [] := List.drop_eq_nil_of_le (by omega)
theorem find_ok : find_vc := by
  unfold find_vc
  simp only [bad_false, int0, nilOf, decide_eq_true_eq, decide_eq_false_iff_not, Bool.not_eq_true', Bool.not_eq_false', Bool.not_true, Bool.not_false, Bool.false_eq_true, Bool.true_eq_false, eq_self, true_and, and_true, false_or, or_false, false_implies, true_implies, implies_true, Int.not_lt, Int.not_le, gt_iff_lt, ge_iff_le, ne_eq]
  intro os hl id
  have hl := hl.le
  refine ⟨fun i => 0 ≤ i ∧ i ≤ os.length ∧ findO os id = findO (os.drop i.toNat) id, fun i => os.length - i.toNat, ⟨by omega, by omega, rfl⟩, fun i hi => ⟨fun h => ?_, fun h => ?_⟩⟩
  · obtain ⟨i0, i1, i2⟩ := hi
    obtain ⟨e1, e2, e3⟩ := next_ix (d := FK.zero .order) hl i0 h
    rw [e3, findO] at i2
    rw [e1]
    refine ⟨⟨i0, h⟩, by omega, fun he => ?_, fun he => ⟨⟨by omega, by omega, ?_⟩, by dsimp only; omega⟩⟩
    · rw [if_pos he] at i2
      have : fo os id = os.getD i.toNat (FK.zero .order) := by unfold fo; rw [i2]; rfl
      rw [this, i2]
      exact ⟨⟨rfl, rfl, rfl, rfl, rfl, rfl, rfl, rfl, rfl, rfl⟩, rfl⟩
    · rw [if_neg he] at i2
      rw [e2]; exact i2
  · have i2 := hi.2.2
    rw [end_ix h, findO] at i2
    have : fo os id = FK.zero .order := by unfold fo; rw [i2]; rfl
    rw [this, i2]
    exact ⟨⟨rfl, rfl, rfl, rfl, rfl, rfl, rfl, rfl, rfl, rfl⟩, rfl⟩
theorem find_t : Told Try.prog 34 find_con := find_told csOk_nil find_ok
theorem site_ok : site_vc := by
  intro o b
  cases b <;> simp [siteOf, Order.pick, Order.drop]
theorem site_t : Told Try.prog 57 site_con := site_told csOk_nil site_ok
theorem good_ok : good_vc := fun f => rfl
theorem goodF_t : Told Try.prog 20 good_con := good_told csOk_nil good_ok
theorem fit_ok : fit_vc := by
  unfold fit_vc
  simp only [bad_false, int0, nilOf, decide_eq_true_eq, decide_eq_false_iff_not, Bool.not_eq_true', Bool.not_eq_false', Bool.not_true, Bool.not_false, Bool.false_eq_true, Bool.true_eq_false, eq_self, true_and, and_true, false_or, or_false, false_implies, true_implies, implies_true, Int.not_lt, Int.not_le, gt_iff_lt, ge_iff_le, ne_eq]
  refine ⟨fun d os _ ss _ hm => ⟨hm, ?_⟩, fun m _ d os _ ss _ hm => ⟨hm, ?_⟩⟩ <;> simp only [fitB]
  · grind
  · grind
theorem fit_t : Told Try.prog 53 fit_con := fit_told (csOk_cons driver_t (csOk_cons known_t csOk_nil)) fit_ok
theorem stands_step {l : List Stop} {s : Stop} {i : Nat} (h : i < l.length) : (l.take (i + 1)).any (fun x => sEq x s) = ((l.take i).any (fun x => sEq x s) || sEq (l.getD i (FK.zero .stop)) s) := by
  rw [List.take_add_one, List.getElem?_eq_getElem h, List.any_append]
  simp [h]
theorem stands_ok : stands_vc := by
  unfold stands_vc
  simp only [bad_false, int0, nilOf, decide_eq_true_eq, decide_eq_false_iff_not, Bool.not_eq_true', Bool.not_eq_false', Bool.not_true, Bool.not_false, Bool.false_eq_true, Bool.true_eq_false, eq_self, true_and, and_true, false_or, or_false, false_implies, true_implies, implies_true, Int.not_lt, Int.not_le, gt_iff_lt, ge_iff_le, ne_eq]
  intro l hl s
  have hl := hl.le
  refine ⟨fun i => 0 ≤ i ∧ i ≤ l.length ∧ (l.take i.toNat).any (fun x => sEq x s) = false, fun i => l.length - i.toNat, ⟨by omega, by omega, rfl⟩, fun i hi => ⟨fun h => ?_, fun h => ?_⟩⟩
  · obtain ⟨i0, i1, i2⟩ := hi
    obtain ⟨e1, e2, e3⟩ := next_ix (d := FK.zero .stop) hl i0 h
    have hs := stands_step (l := l) (s := s) (i := i.toNat) (by omega)
    rw [i2, Bool.false_or] at hs
    rw [e1]
    refine ⟨⟨i0, h⟩, by omega, fun he => ?_, fun he => ⟨⟨by omega, by omega, ?_⟩, by dsimp only; omega⟩⟩
    · unfold stands
      symm
      rw [List.any_eq_true]
      refine ⟨l.getD i.toNat (FK.zero .stop), ?_, ?_⟩
      · rw [getD_of (by omega)]; exact List.getElem_mem _
      · unfold sEq; simpa using he
    · rw [e2, hs]; unfold sEq; simpa using he
  · have i2 := hi.2.2
    rw [List.take_of_length_le (by omega)] at i2
    unfold stands; exact i2.symm
theorem stands_t : Told Try.prog 77 stands_con := stands_told csOk_nil stands_ok
theorem wrong_ok : wrong_vc := by
  unfold wrong_vc
  simp only [bad_false, int0, nilOf, decide_eq_true_eq, decide_eq_false_iff_not, Bool.not_eq_true', Bool.not_eq_false', Bool.not_true, Bool.not_false, Bool.false_eq_true, Bool.true_eq_false, eq_self, true_and, and_true, false_or, or_false, false_implies, true_implies, implies_true, Int.not_lt, Int.not_le, gt_iff_lt, ge_iff_le, ne_eq]
  intro os _ l _ s
  simp only [wrongE]
  cases hf : findO os s.order with
  | none => simp
  | some o => simp; grind
theorem wrong_t : Told Try.prog 62 wrong_con := wrong_told (csOk_cons find_t (csOk_cons stands_t csOk_nil)) wrong_ok

/-! ### Orders that are known -/
theorem findO_mem : ∀ {os : List Order} {id : Int} {o : Order}, findO os id = some o → o ∈ os ∧ o.id = id
  | [], _, _, h => by cases h
  | x :: l, id, o, h => by
    unfold findO at h
    split at h
    · rename_i e
      injection h with h
      subst h
      exact ⟨by simp, e⟩
    · obtain ⟨h1, h2⟩ := findO_mem h
      exact ⟨List.mem_cons_of_mem _ h1, h2⟩
theorem known_ok_of {m : MapD} {os : List Order} (h : knownO (some m) os = true) : ∀ o ∈ os, OrderOk m o := fun o ho => by
  obtain ⟨i, hi, rfl⟩ := List.getElem_of_mem ho
  have := (known_at h).2 i hi
  rw [getD_of hi] at this
  exact orderE_ok this.1
theorem fo_ok {m : MapD} {os : List Order} {id : Int} (h : knownO (some m) os = true) (hf : (findO os id).isSome = true) : OrderOk m (fo os id) ∧ (fo os id).id = id ∧ fo os id ∈ os := by
  obtain ⟨o, ho⟩ := Option.isSome_iff_exists.1 hf
  obtain ⟨h1, h2⟩ := findO_mem ho
  have : fo os id = o := by unfold fo; rw [ho]; rfl
  rw [this]
  exact ⟨known_ok_of h o h1, h2, h1⟩
theorem siteOf_ok {m : MapD} {o : Order} (h : OrderOk m o) (b : Bool) : SiteOk m (siteOf o b) := by
  cases b
  · exact h.pick
  · exact h.drop
theorem wrongE_some {os : List Order} {l : List Stop} {s : Stop} (h : wrongE os l s = 0) : (findO os s.order).isSome = true := by
  unfold wrongE at h
  split at h
  · cases h
  · rename_i hn
    cases hf : findO os s.order with
    | none => rw [hf] at hn; simp at hn
    | some o => rfl
theorem part_zero {α : Type} (l : List α) (i : Int) : part l (Int.toNat 0) (i.toNat - Int.toNat 0) = l.take i.toNat := by
  simp [part]

/-! ### The drive -/
/-- What a drive comes to, when some visits are made. -/
def rest (m : MapD) (d : Driver) (os : List Order) (out : List Visit) (ahead l : List Stop) (p : Pos) : Except Fault (List Visit) := match driveGo m d os ahead l p with
  | .error f => .error f
  | .ok vs => .ok (out ++ vs)
theorem rest_end {m : MapD} {d : Driver} {os : List Order} {out : List Visit} {ahead : List Stop} {p : Pos} : rest m d os out ahead [] p = if 0 < p.load then .error ⟨ahead.length, 18⟩ else .ok out := by
  unfold rest driveGo
  by_cases h : 0 < p.load
  · rw [if_pos h, if_pos h]
  · rw [if_neg h, if_neg h]; simp
theorem rest_wrong {m : MapD} {d : Driver} {os : List Order} {out : List Visit} {ahead l : List Stop} {s : Stop} {p : Pos} (h : ¬ wrongE os ahead s = 0) : rest m d os out ahead (s :: l) p = .error ⟨ahead.length, wrongE os ahead s⟩ := by
  unfold rest driveGo tryStop
  rw [if_pos h]
theorem rest_load {m : MapD} {d : Driver} {os : List Order} {out : List Visit} {ahead l : List Stop} {s : Stop} {p : Pos} (h : wrongE os ahead s = 0) (h2 : d.room < loadOf os s p.load) : rest m d os out ahead (s :: l) p = .error ⟨ahead.length, 14⟩ := by
  unfold rest driveGo tryStop
  rw [if_neg (by simp [h]), if_pos h2]
theorem rest_late {m : MapD} {d : Driver} {os : List Order} {out : List Visit} {ahead l : List Stop} {s : Stop} {p : Pos} (h : wrongE os ahead s = 0) (h2 : loadOf os s p.load ≤ d.room) (h3 : served m p.pos p.now (stopSite os s) d.hi = none) : rest m d os out ahead (s :: l) p = .error ⟨ahead.length, 15⟩ := by
  unfold rest driveGo tryStop
  rw [if_neg (by simp [h]), if_neg (by omega), h3]
theorem rest_next {m : MapD} {d : Driver} {os : List Order} {out : List Visit} {ahead l : List Stop} {s : Stop} {p : Pos} {b : Int × Int} (h : wrongE os ahead s = 0) (h2 : loadOf os s p.load ≤ d.room) (h3 : served m p.pos p.now (stopSite os s) d.hi = some b) :
    rest m d os out ahead (s :: l) p = rest m d os (out ++ [⟨s.order, s.drop, p.now + tm m p.pos (stopSite os s).pl, b.1, b.2, loadOf os s p.load⟩]) (ahead ++ [s]) l ⟨b.2, (stopSite os s).pl, loadOf os s p.load⟩ := by
  unfold rest
  rw [driveGo]
  unfold tryStop
  rw [if_neg (by simp [h]), if_neg (by omega), h3]
  simp only [after]
  cases driveGo m d os (ahead ++ [s]) l ⟨b.2, (stopSite os s).pl, loadOf os s p.load⟩ with
  | error f => rfl
  | ok vs => simp
theorem fauR_error {f : Fault} : fauR (.error f) = f := rfl
theorem take_snoc {α : Type} {d : α} {l : List α} {i : Nat} (h : i < l.length) : l.take i ++ [l.getD i d] = l.take (i + 1) := by
  rw [List.take_add_one, List.getElem?_eq_getElem h]; simp [h]
theorem timed_ok : timed_vc := by
  unfold timed_vc
  simp only [bad_false, int0, nilOf, decide_eq_true_eq, decide_eq_false_iff_not, Bool.not_eq_true', Bool.not_eq_false', Bool.not_true, Bool.not_false, Bool.false_eq_true, Bool.true_eq_false, eq_self, true_and, and_true, false_or, or_false, false_implies, true_implies, implies_true, Int.not_lt, Int.not_le, gt_iff_lt, ge_iff_le, ne_eq]
  intro m hml d os hos ss hss hp
  obtain ⟨hm, hd, hk, hfew⟩ := hp
  have hw := hd.win
  have hmO : ∀ (x : MapD), some m = some x → MapOk x := fun x hx => by injection hx with hx; subst hx; exact hm
  refine ⟨fun out now at' load i => 0 ≤ i ∧ i ≤ ss.length ∧ (out.length : Int) = i ∧ AtOk m at' now ∧ -(i * 1000) ≤ load ∧ load ≤ i * 1000 ∧ driveT m d os ss = rest m d os out (ss.take i.toNat) (ss.drop i.toNat) ⟨now, at', load⟩,
    fun _ _ _ _ i => ss.length - i.toNat, ⟨by omega, by omega, rfl, hd.start, by omega, by omega, ?_⟩, fun out now at' load i hi => ⟨fun h => ?_, fun h => ?_⟩⟩
  · unfold driveT rest
    show driveGo m d os [] ss ⟨d.lo, d.home, 0⟩ = match driveGo m d os [] ss ⟨d.lo, d.home, 0⟩ with | .error f => .error f | .ok vs => .ok ([] ++ vs)
    cases driveGo m d os [] ss ⟨d.lo, d.home, 0⟩ <;> rfl
  · obtain ⟨i0, i1, i2, hat, l0, l1, hR⟩ := hi
    obtain ⟨e1, e2, e3⟩ := next_ix (d := FK.zero .stop) hss.le i0 h
    have hil : i.toNat < ss.length := by omega
    have hlen : ((ss.take i.toNat).length : Int) = i := by rw [List.length_take]; omega
    have hsn := take_snoc (d := FK.zero .stop) hil
    rw [e3] at hR
    rw [part_zero, e1]
    generalize ss.getD i.toNat (FK.zero .stop) = s at *
    refine ⟨⟨i0, h⟩, hil, ⟨by omega, by omega, by omega⟩, by rw [show Int.toNat 0 = 0 from rfl]; omega, fun hw1 => ?_, fun hw1 => ?_⟩
    · rw [rest_wrong hw1] at hR
      rw [hR, fauR_error]
      exact ⟨⟨hlen.symm, rfl⟩, rfl⟩
    · obtain ⟨ho, _, _⟩ := fo_ok hk (wrongE_some hw1)
      have hsz := ho.size
      have hst : SiteOk m (stopSite os s) := siteOf_ok ho s.drop
      obtain ⟨r1, r2, r3⟩ := reach hm hat hst
      have hS : siteOf (fo os s.order) s.drop = stopSite os s := rfl
      have hsv1 := @served_none m at' now d.hi (stopSite os s)
      have hsv2 := @served_some m at' now d.hi (stopSite os s)
      rw [hS, r1, r2, show (Win.mk (stopSite os s).lo (stopSite os s).hi) = (stopSite os s).win from rfl]
      generalize begin_ (stopSite os s).win (now + tm m at' (stopSite os s).pl) = B at *
      generalize hA : now + tm m at' (stopSite os s).pl = arr at *
      have f14 : ∀ ld, loadOf os s load = ld → d.room < ld → (i = (fauR (driveT m d os ss)).spot ∧ 14 = (fauR (driveT m d os ss)).why) ∧ visR (driveT m d os ss) = [] := by
        rintro ld rfl hr
        have := rest_load (m := m) (out := out) (ahead := ss.take i.toNat) (l := ss.drop (i.toNat + 1)) (p := ⟨now, at', load⟩) hw1 hr
        rw [hR, this, fauR_error]
        exact ⟨⟨hlen.symm, rfl⟩, rfl⟩
      have f15 : ∀ ld, loadOf os s load = ld → ld ≤ d.room → served m at' now (stopSite os s) d.hi = none → (i = (fauR (driveT m d os ss)).spot ∧ 15 = (fauR (driveT m d os ss)).why) ∧ visR (driveT m d os ss) = [] := by
        rintro ld rfl hr hn
        have := rest_late (m := m) (out := out) (ahead := ss.take i.toNat) (l := ss.drop (i.toNat + 1)) (p := ⟨now, at', load⟩) hw1 hr hn
        rw [hR, this, fauR_error]
        exact ⟨⟨hlen.symm, rfl⟩, rfl⟩
      have fok : ∀ ld, loadOf os s load = ld → ld ≤ d.room → B.2 = true → B.1 + (stopSite os s).sv ≤ d.hi → AtOk m (stopSite os s).pl (B.1 + (stopSite os s).sv) ∧
          driveT m d os ss = rest m d os (out ++ [⟨s.order, s.drop, arr, B.1, B.1 + (stopSite os s).sv, ld⟩]) (ss.take (i + 1).toNat) (ss.drop (i + 1).toNat) ⟨B.1 + (stopSite os s).sv, (stopSite os s).pl, ld⟩ := by
        rintro ld rfl hr hb hl
        have hsv := hsv2 hb hl
        refine ⟨served_at (u := d.hi) hat.left.1 hm hst (by omega) hsv, ?_⟩
        have := rest_next (m := m) (out := out) (ahead := ss.take i.toNat) (l := ss.drop (i.toNat + 1)) (p := ⟨now, at', load⟩) hw1 hr hsv
        rw [hR, this, hsn, e2]
        dsimp only
        rw [hA]
      have hgot : (out.length + 1) * (8 * 6) ≤ 140737488355328 := by omega
      have all : ∀ ld, loadOf os s load = ld → -((i + 1) * 1000) ≤ ld → ld ≤ (i + 1) * 1000 → (d.room < ld → (i = (fauR (driveT m d os ss)).spot ∧ 14 = (fauR (driveT m d os ss)).why) ∧ visR (driveT m d os ss) = []) ∧
          (ld ≤ d.room → (∀ (x : MapD), some m = some x → MapOk x) ∧ (B.2 = true → (d.hi < wrap (B.1 + (stopSite os s).sv) → (i = (fauR (driveT m d os ss)).spot ∧ 15 = (fauR (driveT m d os ss)).why) ∧ visR (driveT m d os ss) = []) ∧
            (wrap (B.1 + (stopSite os s).sv) ≤ d.hi → (out.length + 1) * (8 * 6) ≤ 140737488355328 ∧
              (0 ≤ i + 1 ∧ i + 1 ≤ ss.length ∧ ((out ++ [Visit.mk s.order s.drop arr B.1 (wrap (B.1 + (stopSite os s).sv)) ld]).length : Int) = i + 1 ∧ AtOk m (stopSite os s).pl (wrap (B.1 + (stopSite os s).sv)) ∧ -((i + 1) * 1000) ≤ ld ∧ ld ≤ (i + 1) * 1000 ∧
                driveT m d os ss = rest m d os (out ++ [Visit.mk s.order s.drop arr B.1 (wrap (B.1 + (stopSite os s).sv)) ld]) (ss.take (i + 1).toNat) (ss.drop (i + 1).toNat) ⟨wrap (B.1 + (stopSite os s).sv), (stopSite os s).pl, ld⟩) ∧
              ss.length - (i + 1).toNat < ss.length - i.toNat)) ∧
            (B.2 = false → (i = (fauR (driveT m d os ss)).spot ∧ 15 = (fauR (driveT m d os ss)).why) ∧ visR (driveT m d os ss) = [])) := by
        intro ld hld b0 b1
        refine ⟨f14 ld hld, fun hr => ⟨hmO, fun hb => ?_, fun hb => f15 ld hld hr (hsv1 (.inl hb))⟩⟩
        rw [(r3 hb).2.2]
        refine ⟨fun hl => f15 ld hld hr (hsv1 (.inr hl)), fun hl => ⟨hgot, ?_, by omega⟩⟩
        obtain ⟨k1, k2⟩ := fok ld hld hr hb hl
        exact ⟨by omega, by omega, (by simp; omega), k1, b0, b1, k2⟩
      refine ⟨fun hdr => ?_, fun hdr => ?_⟩
      · have hld : loadOf os s load = load - (fo os s.order).size := by unfold loadOf; rw [if_pos hdr]
        rw [wrap_id (n := load - (fo os s.order).size) (by omega) (by omega)]
        exact all _ hld (by omega) (by omega)
      · have hld : loadOf os s load = load + (fo os s.order).size := by unfold loadOf; rw [if_neg (by rw [hdr]; decide)]
        rw [wrap_id (n := load + (fo os s.order).size) (by omega) (by omega)]
        exact all _ hld (by omega) (by omega)
  · obtain ⟨i0, i1, i2, hat, l0, l1, hR⟩ := hi
    rw [end_ix h, rest_end, List.take_of_length_le (by omega)] at hR
    refine ⟨fun hl => ?_, fun hl => ?_⟩
    · rw [if_pos hl] at hR
      rw [hR]; exact ⟨⟨rfl, rfl⟩, rfl⟩
    · rw [if_neg (by dsimp only; omega)] at hR
      rw [hR]; exact ⟨⟨rfl, rfl⟩, rfl⟩
theorem timed_t : Told Try.prog 41 timed_con := timed_told (csOk_cons wrong_t (csOk_cons site_t (csOk_cons time_t (csOk_cons begin_t csOk_nil)))) timed_ok
end Go.Eng

/- What the functions that drive tell is so: driving whole routes, what they cost; the document's own. -/
set_option linter.unusedVariables false
set_option linter.unusedSimpArgs false
namespace Go.Eng
open Go Go.Proofs

theorem fitB_iff {m : MapD} {d : Driver} {os : List Order} {ss : List Stop} : fitB (some m) d os ss = true ↔ driverE (some m) d = 0 ∧ knownO (some m) os = true ∧ ss.length ≤ 80 := by
  simp only [fitB, Bool.and_eq_true, decide_eq_true_eq, and_assoc]
theorem fitB_none {d : Driver} {os : List Order} {ss : List Stop} : fitB none d os ss = false := by
  simp [fitB, driverE_none]
theorem fit_pre {m : MapD} {d : Driver} {os : List Order} {ss : List Stop} (hm : MapOk m) (h : fitB (some m) d os ss = true) : TimedPre m d os ss := by
  obtain ⟨h1, h2, h3⟩ := fitB_iff.1 h
  exact ⟨hm, driverE_ok h1, h2, h3⟩
theorem drive_unfit {m : Option MapD} {d : Driver} {os : List Order} {ss : List Stop} (h : fitB m d os ss = false) : drive m d os ss = .error ⟨0, 1⟩ := by
  cases m with
  | none => rfl
  | some m => simp [drive, h]
theorem drive_fit {m : MapD} {d : Driver} {os : List Order} {ss : List Stop} (h : fitB (some m) d os ss = true) : drive (some m) d os ss = driveT m d os ss := by
  simp [drive, h]
theorem drive_ok : drive_vc := by
  unfold drive_vc
  simp only [bad_false, int0, nilOf, decide_eq_true_eq, decide_eq_false_iff_not, Bool.not_eq_true', Bool.not_eq_false', Bool.not_true, Bool.not_false, Bool.false_eq_true, Bool.true_eq_false, eq_self, true_and, and_true, false_or, or_false, false_implies, true_implies, implies_true, Int.not_lt, Int.not_le, gt_iff_lt, ge_iff_le, ne_eq]
  refine ⟨fun d os _ ss _ hm => ⟨hm, fun h => ?_, fun h => ?_⟩, fun m _ d os _ ss _ hm => ⟨hm, fun h => ?_, fun h => ?_⟩⟩
  · rw [drive_unfit h]; exact ⟨⟨rfl, rfl⟩, rfl⟩
  · rw [fitB_none] at h; cases h
  · rw [drive_unfit h]; exact ⟨⟨rfl, rfl⟩, rfl⟩
  · rw [drive_fit h]
    exact ⟨fit_pre (hm m rfl) h, ⟨rfl, rfl⟩, rfl⟩
theorem drive_t : Told Try.prog 30 drive_con := drive_told (csOk_cons fit_t (csOk_cons timed_t csOk_nil)) drive_ok

/-! ### What a drive says of its stops -/
theorem driveGo_all {m : MapD} {d : Driver} {os : List Order} : ∀ {l ahead : List Stop} {p : Pos} {vs : List Visit}, driveGo m d os ahead l p = .ok vs → vs.length = l.length ∧ ∀ s ∈ l, (findO os s.order).isSome = true
  | [], ahead, p, vs, h => by
    unfold driveGo at h
    split at h
    · cases h
    · injection h with h; subst h; exact ⟨rfl, fun s hs => by cases hs⟩
  | s :: l, ahead, p, vs, h => by
    unfold driveGo at h
    split at h
    · cases h
    · rename_i v hv
      split at h
      · cases h
      · rename_i vs' hvs
        injection h with h
        subst h
        obtain ⟨h1, h2⟩ := driveGo_all hvs
        refine ⟨by simp [h1], fun s' hs' => ?_⟩
        rcases List.mem_cons.1 hs' with rfl | hs'
        · unfold tryStop at hv
          split at hv
          · cases hv
          · rename_i hw
            exact wrongE_some (by simpa using hw)
        · exact h2 s' hs'
theorem tryStop_err {m : MapD} {d : Driver} {os : List Order} {ahead : List Stop} {s : Stop} {p : Pos} {e : Int} (h : tryStop m d os ahead s p = .error e) : e = wrongE os ahead s ∧ e ≠ 0 ∨ e = 14 ∨ e = 15 := by
  unfold tryStop at h
  split at h
  · rename_i hw
    injection h with h
    exact .inl ⟨h.symm, by rw [← h]; exact hw⟩
  · split at h
    · injection h with h; exact .inr (.inl h.symm)
    · split at h
      · injection h with h; exact .inr (.inr h.symm)
      · cases h
theorem driveGo_why {m : MapD} {d : Driver} {os : List Order} : ∀ {l ahead : List Stop} {p : Pos} {f : Fault}, driveGo m d os ahead l p = .error f → f.why ≠ 0
  | [], ahead, p, f, h => by
    unfold driveGo at h
    split at h
    · injection h with h; subst h; exact (by decide : (18 : Int) ≠ 0)
    · cases h
  | s :: l, ahead, p, f, h => by
    unfold driveGo at h
    split at h
    · rename_i e he
      injection h with h
      subst h
      rcases tryStop_err he with ⟨_, h⟩ | h | h
      · exact h
      · show e ≠ 0; omega
      · show e ≠ 0; omega
    · split at h
      · rename_i f' hf
        injection h with h
        subst h
        exact driveGo_why hf
      · cases h
theorem drive_good {m : Option MapD} {d : Driver} {os : List Order} {ss : List Stop} (h : good (fauR (drive m d os ss)) = true) : ∃ x vs, m = some x ∧ fitB m d os ss = true ∧ driveT x d os ss = .ok vs ∧ drive m d os ss = .ok vs := by
  cases hf : fitB m d os ss with
  | false =>
    rw [drive_unfit hf] at h
    cases h
  | true =>
    cases m with
    | none => rw [fitB_none] at hf; cases hf
    | some x =>
      rw [drive_fit hf] at h ⊢
      cases hr : driveT x d os ss with
      | ok vs => exact ⟨x, vs, rfl, rfl, hr, rfl⟩
      | error f =>
        rw [hr] at h
        have := driveGo_why hr
        exact absurd (of_decide_eq_true h) this
theorem cost_bad {m : Option MapD} {d : Driver} {os : List Order} {ss : List Stop} (h : good (fauR (drive m d os ss)) = false) : cost m d os ss = (0, false) := by
  cases m with
  | none => rfl
  | some m => simp [cost, h]
theorem cost_good {m : MapD} {d : Driver} {os : List Order} {ss : List Stop} (h : good (fauR (drive (some m) d os ss)) = true) : cost (some m) d os ss = (way m d os ss, true) := by
  simp [cost, h]
theorem way_pre {m : MapD} {d : Driver} {os : List Order} {ss : List Stop} (hm : MapOk m) (h : good (fauR (drive (some m) d os ss)) = true) : WayPre m d os ss := by
  obtain ⟨x, vs, hx, hf, hr, _⟩ := drive_good h
  injection hx with hx
  subst hx
  obtain ⟨h1, h2, h3⟩ := fitB_iff.1 hf
  exact ⟨hm, (driverE_ok h1).home, h2, h3, (driveGo_all hr).2⟩
theorem way_ok : way_vc := by
  unfold way_vc
  simp only [bad_false, int0, nilOf, decide_eq_true_eq, decide_eq_false_iff_not, Bool.not_eq_true', Bool.not_eq_false', Bool.not_true, Bool.not_false, Bool.false_eq_true, Bool.true_eq_false, eq_self, true_and, and_true, false_or, or_false, false_implies, true_implies, implies_true, Int.not_lt, Int.not_le, gt_iff_lt, ge_iff_le, ne_eq]
  intro m hml d os hos ss hss hp
  obtain ⟨hm, hh, hk, hfew, hall⟩ := hp
  have hmO : ∀ (x : MapD), some m = some x → MapOk x := fun x hx => by injection hx with hx; subst hx; exact hm
  refine ⟨fun n at' i => 0 ≤ i ∧ i ≤ ss.length ∧ 0 ≤ at' ∧ at' < m.n ∧ 0 ≤ n ∧ n ≤ i * 1000000 ∧ way m d os ss = n + wayGo m os at' (ss.drop i.toNat), fun _ _ i => ss.length - i.toNat, ⟨by omega, by omega, hh.1, hh.2, by omega, by omega, ?_⟩, fun n at' i hi => ⟨fun h => ?_, fun h => ?_⟩⟩
  · unfold way; rw [Int.zero_add]; rfl
  · obtain ⟨i0, i1, a0, a1, n0, n1, hR⟩ := hi
    obtain ⟨e1, e2, e3⟩ := next_ix (d := FK.zero .stop) hss.le i0 h
    have hmem : ss.getD i.toNat (FK.zero .stop) ∈ ss := by rw [getD_of (by omega)]; exact List.getElem_mem _
    rw [e3] at hR
    rw [e1]
    generalize ss.getD i.toNat (FK.zero .stop) = s at *
    obtain ⟨ho, _, _⟩ := fo_ok hk (hall s hmem)
    have hst : SiteOk m (stopSite os s) := siteOf_ok ho s.drop
    have ht := tm_bound hm at' (stopSite os s).pl
    rw [show siteOf (fo os s.order) s.drop = stopSite os s from rfl, mtime_in a0 a1 hst.pl.1 hst.pl.2]
    rw [wrap_id (n := n + tm m at' (stopSite os s).pl) (by omega) (by omega)]
    refine ⟨⟨i0, h⟩, by omega, hmO, ⟨by omega, by omega, hst.pl.1, hst.pl.2, by omega, by omega, ?_⟩, by dsimp only; omega⟩
    rw [hR, e2, wayGo]; omega
  · have hR := hi.2.2.2.2.2.2
    rw [end_ix h, wayGo] at hR
    omega
theorem way_t : Told Try.prog 33 way_con := way_told (csOk_cons find_t (csOk_cons site_t (csOk_cons time_t csOk_nil))) way_ok
theorem cost_ok : cost_vc := by
  unfold cost_vc
  simp only [bad_false, int0, nilOf, decide_eq_true_eq, decide_eq_false_iff_not, Bool.not_eq_true', Bool.not_eq_false', Bool.not_true, Bool.not_false, Bool.false_eq_true, Bool.true_eq_false, eq_self, true_and, and_true, false_or, or_false, false_implies, true_implies, implies_true, Int.not_lt, Int.not_le, gt_iff_lt, ge_iff_le, ne_eq]
  refine ⟨fun d os _ ss _ hm => ⟨hm, fun h => ?_, fun h => ?_⟩, fun m _ d os _ ss _ hm => ⟨hm, fun h => ?_, fun h => ?_⟩⟩
  · exact ⟨rfl, rfl⟩
  · rw [drive_unfit fitB_none] at h; cases h
  · rw [cost_bad h]; exact ⟨rfl, rfl⟩
  · rw [cost_good h]; exact ⟨way_pre (hm m rfl) h, rfl, rfl⟩
theorem cost_t : Told Try.prog 14 cost_con := cost_told (csOk_cons drive_t (csOk_cons goodF_t (csOk_cons way_t csOk_nil))) cost_ok

end Go.Eng

/- Numbers brought into bounds; a world's driver. -/
set_option linter.unusedVariables false
set_option linter.unusedSimpArgs false
namespace Go.Eng
open Go Go.Proofs
/-- A number brought into bounds. -/
def bwithin (n lo hi : Int) : Int := lo + n % (hi - lo + 1)
def bWithin_con : Con := ⟨[.c .i, .c .i, .c .i], fun n lo hi => ⟨some (lo ≤ hi ∧ 0 ≤ lo ∧ hi ≤ 9223372036854775806), [⟨none, [.c (.i (bwithin n lo hi))]⟩]⟩⟩
def bWithin_cs : Cons := []
def bWithin_la : List (Nat × LA) := []
def wdriver (w : WorldD) (at' : Int) : Driver := if w.drivers.length = 0 then (FK.zero .driver) else w.drivers.getD (bwithin at' 0 ((w.drivers.length : Int) - 1)).toNat (FK.zero .driver)
def wDriver_con : Con := ⟨[.r .world, .c .i], fun w a => one [.r (SK.enc (.f .driver) (wdriver w a))]⟩
def wDriver_cs : Cons := [(28, bWithin_con)]
def wDriver_la : List (Nat × LA) := []
end Go.Eng

/- The conditions of functions, as print.. of the engine told them. -/
set_option linter.unusedVariables false
namespace Go.Eng
open Go Go.Proofs
def bWithin_vc : Prop :=
  ∀ (x x_1 x_2 : Int), x_1 ≤ x_2 ∧ (0 : Int) ≤ x_1 ∧ x_2 ≤ (9223372036854775806 : Int) → wrap (wrap (x_2 - x_1) + (1 : Int)) ≠ (0 : Int) ∧ (decide (x.tmod (wrap (wrap (x_2 - x_1) + (1 : Int))) < (0 : Int)) = true → wrap (x_1 + wrap (wrap
  (wrap (x.tmod (wrap (wrap (x_2 - x_1) + (1 : Int))) + x_2) - x_1) + (1 : Int))) = bwithin x x_1 x_2) ∧ (decide (x.tmod (wrap (wrap (x_2 - x_1) + (1 : Int))) < (0 : Int)) = false → wrap (x_1 + x.tmod (wrap (wrap (x_2 - x_1) + (1 : Int)))) =
  bwithin x x_1 x_2)
theorem bWithin_told (hc : CsOk Try.prog bWithin_cs) (h : bWithin_vc) : Told Try.prog 28 bWithin_con := told (A := bWithin_la) tabOk mixed hc Try.func28 (by kernel_rfl) (by kernel_rfl) h
def wDriver_vc : Prop :=
  ∀ (x : WorldD), (LenOk x.times.length ∧ LenOk x.drivers.length ∧ LenOk x.orders.length ∧ LenOk x.plan.length ∧ ∀ (r : Route), List.Mem r x.plan → LenOk r.stops.length) → ∀ (x_2 : Int), (decide ((↑x.drivers.length : Int) = (0 : Int)) = true
  → (0 : Int) = (wdriver x x_2).id ∧ (0 : Int) = (wdriver x x_2).room ∧ (0 : Int) = (wdriver x x_2).home ∧ (0 : Int) = (wdriver x x_2).lo ∧ (0 : Int) = (wdriver x x_2).hi ∧ false = (wdriver x x_2).retired) ∧ (decide ((↑x.drivers.length : Int)
  = (0 : Int)) = false → ((0 : Int) ≤ wrap ((↑x.drivers.length : Int) - (1 : Int)) ∧ (0 : Int) ≤ (0 : Int) ∧ wrap ((↑x.drivers.length : Int) - (1 : Int)) ≤ (9223372036854775806 : Int)) ∧ ((0 : Int) ≤ bwithin x_2 (0 : Int) (wrap
  ((↑x.drivers.length : Int) - (1 : Int))) ∧ bwithin x_2 (0 : Int) (wrap ((↑x.drivers.length : Int) - (1 : Int))) < (↑x.drivers.length : Int)) ∧ (bwithin x_2 (0 : Int) (wrap ((↑x.drivers.length : Int) - (1 : Int)))).toNat < x.drivers.length ∧
  (x.drivers.getD (bwithin x_2 (0 : Int) (wrap ((↑x.drivers.length : Int) - (1 : Int)))).toNat FK.driver.zero).id = (wdriver x x_2).id ∧ (x.drivers.getD (bwithin x_2 (0 : Int) (wrap ((↑x.drivers.length : Int) - (1 : Int)))).toNat
  FK.driver.zero).room = (wdriver x x_2).room ∧ (x.drivers.getD (bwithin x_2 (0 : Int) (wrap ((↑x.drivers.length : Int) - (1 : Int)))).toNat FK.driver.zero).home = (wdriver x x_2).home ∧ (x.drivers.getD (bwithin x_2 (0 : Int) (wrap
  ((↑x.drivers.length : Int) - (1 : Int)))).toNat FK.driver.zero).lo = (wdriver x x_2).lo ∧ (x.drivers.getD (bwithin x_2 (0 : Int) (wrap ((↑x.drivers.length : Int) - (1 : Int)))).toNat FK.driver.zero).hi = (wdriver x x_2).hi ∧ (x.drivers.getD
  (bwithin x_2 (0 : Int) (wrap ((↑x.drivers.length : Int) - (1 : Int)))).toNat FK.driver.zero).retired = (wdriver x x_2).retired)
theorem wDriver_told (hc : CsOk Try.prog wDriver_cs) (h : wDriver_vc) : Told Try.prog 12 wDriver_con := told (A := wDriver_la) tabOk mixed hc Try.func12 (by kernel_rfl) (by kernel_rfl) h
end Go.Eng

/- Numbers brought into bounds: it is so. -/
set_option linter.unusedVariables false
set_option linter.unusedSimpArgs false
namespace Go.Eng
open Go Go.Proofs
theorem tmod_emod {n k : Int} (hk : 0 < k) : (n.tmod k < 0 → n % k = n.tmod k + k) ∧ (0 ≤ n.tmod k → n % k = n.tmod k) ∧ -k < n.tmod k ∧ n.tmod k < k := by
  have h1 : n.tmod k < k := Int.tmod_lt_of_pos n hk
  have h2 : -k < n.tmod k := by
    have := Int.lt_tmod_of_pos n hk
    exact this
  have h3 : n = n.tmod k + k * n.tdiv k := (Int.tmod_add_mul_tdiv n k).symm
  have h4 : n % k = n.tmod k % k := by
    have : (n.tmod k + k * n.tdiv k) % k = n.tmod k % k := Int.add_mul_emod_self_left _ _ _
    rw [← h3] at this; exact this
  refine ⟨fun h => ?_, fun h => ?_, h2, h1⟩
  · rw [h4, ← Int.add_emod_right, Int.emod_eq_of_lt (by omega) (by omega)]
  · rw [h4, Int.emod_eq_of_lt h h1]
theorem bwithin_bound {n lo hi : Int} (h : lo ≤ hi) : lo ≤ bwithin n lo hi ∧ bwithin n lo hi ≤ hi := by
  unfold bwithin
  have h1 := Int.emod_nonneg n (show hi - lo + 1 ≠ 0 by omega)
  have h2 := Int.emod_lt_of_pos n (show 0 < hi - lo + 1 by omega)
  omega
theorem bWithin_ok : bWithin_vc := by
  unfold bWithin_vc
  simp only [bad_false, int0, nilOf, decide_eq_true_eq, decide_eq_false_iff_not, Bool.not_eq_true', Bool.not_eq_false', Bool.not_true, Bool.not_false, Bool.false_eq_true, Bool.true_eq_false, eq_self, true_and, and_true, false_or, or_false, false_implies, true_implies, implies_true, Int.not_lt, Int.not_le, gt_iff_lt, ge_iff_le, ne_eq]
  rintro n lo hi ⟨h1, h2, h3⟩
  have e1 : wrap (hi - lo) = hi - lo := wrap_id (by omega) (by omega)
  have e2 : wrap (hi - lo + 1) = hi - lo + 1 := wrap_id (by omega) (by omega)
  obtain ⟨t1, t2, t3, t4⟩ := tmod_emod (n := n) (k := hi - lo + 1) (by omega)
  rw [e1, e2]
  refine ⟨by omega, fun h => ?_, fun h => ?_⟩
  · have f1 : wrap (n.tmod (hi - lo + 1) + hi) = n.tmod (hi - lo + 1) + hi := wrap_id (by omega) (by omega)
    have f2 : wrap (n.tmod (hi - lo + 1) + hi - lo) = n.tmod (hi - lo + 1) + hi - lo := wrap_id (by omega) (by omega)
    have f3 : wrap (n.tmod (hi - lo + 1) + hi - lo + 1) = n.tmod (hi - lo + 1) + hi - lo + 1 := wrap_id (by omega) (by omega)
    rw [f1, f2, f3, wrap_id (by omega) (by omega)]
    unfold bwithin
    rw [t1 h]; omega
  · rw [wrap_id (by omega) (by omega)]
    unfold bwithin
    rw [t2 h]
theorem bWithin_t : Told Try.prog 28 bWithin_con := bWithin_told csOk_nil bWithin_ok
theorem wDriver_ok : wDriver_vc := by
  unfold wDriver_vc
  simp only [bad_false, int0, nilOf, decide_eq_true_eq, decide_eq_false_iff_not, Bool.not_eq_true', Bool.not_eq_false', Bool.not_true, Bool.not_false, Bool.false_eq_true, Bool.true_eq_false, eq_self, true_and, and_true, false_or, or_false, false_implies, true_implies, implies_true, Int.not_lt, Int.not_le, gt_iff_lt, ge_iff_le, ne_eq]
  intro w ho a
  have hl := ho.2.1.le
  refine ⟨fun h => ?_, fun h => ?_⟩
  · have : wdriver w a = FK.zero .driver := by unfold wdriver; rw [if_pos (by omega)]
    rw [this]
    exact ⟨rfl, rfl, rfl, rfl, rfl, rfl⟩
  · have e : wrap ((w.drivers.length : Int) - 1) = (w.drivers.length : Int) - 1 := wrap_id (by omega) (by omega)
    have hd : wdriver w a = w.drivers.getD (bwithin a 0 ((w.drivers.length : Int) - 1)).toNat (FK.zero .driver) := by unfold wdriver; rw [if_neg (by omega)]
    have hb := bwithin_bound (n := a) (lo := 0) (hi := (w.drivers.length : Int) - 1) (by omega)
    rw [e, hd]
    refine ⟨by omega, by omega, by omega, rfl, rfl, rfl, rfl, rfl, rfl⟩
theorem wDriver_t : Told Try.prog 12 wDriver_con := wDriver_told (csOk_cons bWithin_t csOk_nil) wDriver_ok
end Go.Eng

/- Plans, in plain words: what is right about one, where an order stands, which driver's it is; what the functions tell. -/
set_option linter.unusedVariables false
set_option linter.unusedSimpArgs false
namespace Go.Eng
open Go Go.Proofs
deriving instance DecidableEq for Stop
def okS : List Stop → List Stop → Prop
  | _, [] => True
  | all, s :: l => (1 ≤ s.order ∧ s.order ≤ 1000000 ∧ s ∉ all) ∧ okS (all ++ [s]) l
def okR1 (last : Int) (r : Route) : Prop := last < r.driver ∧ r.driver ≤ 1000000 ∧ r.stops.length ≤ 80 ∧ 0 ≤ r.served ∧ r.served ≤ r.stops.length
def okR : Int → List Stop → List Route → Prop
  | _, _, [] => True
  | last, all, r :: l => okR1 last r ∧ okS all r.stops ∧ okR r.driver (all ++ r.stops) l
def RightP (p : List Route) : Prop := p.length ≤ 8 ∧ okR 0 [] p
noncomputable def rightP (p : List Route) : Bool := @decide (RightP p) (Classical.propDecidable _)
def findD (id : Int) : List Driver → Option Driver
  | [] => none
  | d :: l => if d.id = id then some d else findD id l
def okD (m : Option MapD) (ds : List Driver) (k : Nat) : Bool := decide (driverE m (ds.getD k (FK.zero .driver)) = 0) && (findD (ds.getD k (FK.zero .driver)).id (ds.take k)).isNone
noncomputable def wellP (m : Option MapD) (ds : List Driver) (os : List Order) (p : List Route) : Bool :=
  m.isSome && decide (ds.length ≤ 8) && knownO m os && rightP p && (List.range ds.length).all (okD m ds)
noncomputable def pright_con : Con := ⟨[.c (.a .route)], fun p => one [.c (.b (rightP p))]⟩
def pright_cs : Cons := []
def pright_la : List (Nat × LA) := [(6, ⟨[4, 13, 14], [.i 3, .i 15, .mp 4 .stop]⟩), (12, ⟨[3, 4, 13, 14, 15, 50, 51], [.i 52, .mp 4 .stop]⟩)]
def cdriver_con : Con := ⟨[.c (.a (.f .driver)), .c .i], fun ds id => one [.r (SK.enc (.f .driver) ((findD id ds).getD (FK.zero .driver))), .c (.b (findD id ds).isSome)]⟩
def cdriver_cs : Cons := []
def cdriver_la : List (Nat × LA) := [(2, ⟨[1, 4, 8, 9], [.i 10]⟩)]
noncomputable def ctog_con : Con := ⟨[.q .map 101, .c (.a (.f .driver)), .c (.a (.f .order)), .c (.a .route)], fun m ds os p => ⟨some (MapOkO m), [⟨none, [.c (.b (wellP m ds os p))]⟩]⟩⟩
noncomputable def ctog_cs : Cons := [(60, known_con), (37, pright_con), (40, cdriver_con), (61, driver_con)]
def ctog_la : List (Nat × LA) := [(4, ⟨[0, 1, 31, 32], [.i 33]⟩)]
end Go.Eng

/- The conditions of functions, as print.. of the engine told them. -/
set_option linter.unusedVariables false
namespace Go.Eng
open Go Go.Proofs
def pright_vc : Prop :=
  ∀ (x : List Route), (LenOk x.length ∧ ∀ (r : Route), List.Mem r x → LenOk r.stops.length) → (decide ((↑x.length : Int) > (8 : Int)) = true → false = rightP x) ∧ (decide ((↑x.length : Int) > (8 : Int)) = false → ∃ (inv : Int → Int →
  (MK.stop.T → Int) → Prop), ∃ (μ : Int → Int → (MK.stop.T → Int) → Nat), ((((0 : Int) = (0 : Int) ∧ (↑x.length : Int) = (↑x.length : Int) ∧ (0 : Int) = (0 : Int)) ∧ x = x ∧ noF MK.stop.T = noF MK.stop.T) ∧ inv (0 : Int) (0 : Int) (noF
  MK.stop.T)) ∧ ∀ (x_3 x_4 : Int) (x_5 : MK.stop.T → Int), inv x_3 x_4 x_5 → (decide (x_4 < (↑x.length : Int)) = true → ((0 : Int) ≤ x_4 ∧ x_4 < (↑x.length : Int)) ∧ x_4.toNat < x.length ∧ (decide ((x.getD x_4.toNat (Route.mk (0 : Int) (0 :
  Int) [])).driver ≤ x_3) = false → (decide ((x.getD x_4.toNat (Route.mk (0 : Int) (0 : Int) [])).driver > (1000000 : Int)) = false → (decide ((↑(x.getD x_4.toNat (Route.mk (0 : Int) (0 : Int) [])).stops.length : Int) > (80 : Int)) = false →
  (decide ((x.getD x_4.toNat (Route.mk (0 : Int) (0 : Int) [])).served < (0 : Int)) = false → (decide ((x.getD x_4.toNat (Route.mk (0 : Int) (0 : Int) [])).served > (↑(x.getD x_4.toNat (Route.mk (0 : Int) (0 : Int) [])).stops.length : Int)) =
  true → false = rightP x) ∧ (decide ((x.getD x_4.toNat (Route.mk (0 : Int) (0 : Int) [])).served > (↑(x.getD x_4.toNat (Route.mk (0 : Int) (0 : Int) [])).stops.length : Int)) = false → ∃ (inv_1 : Int → (MK.stop.T → Int) → Prop), ∃ (μ_1 : Int
  → (MK.stop.T → Int) → Nat), ((((x.getD x_4.toNat (Route.mk (0 : Int) (0 : Int) [])).driver = (x.getD x_4.toNat (Route.mk (0 : Int) (0 : Int) [])).driver ∧ (↑x.length : Int) = (↑x.length : Int) ∧ x_4 = x_4 ∧ (↑(x.getD x_4.toNat (Route.mk (0
  : Int) (0 : Int) [])).stops.length : Int) = (↑(x.getD x_4.toNat (Route.mk (0 : Int) (0 : Int) [])).stops.length : Int) ∧ (0 : Int) = (0 : Int)) ∧ (x.getD x_4.toNat (Route.mk (0 : Int) (0 : Int) [])).stops = (x.getD x_4.toNat (Route.mk (0 :
  Int) (0 : Int) [])).stops ∧ x = x ∧ x_5 = x_5) ∧ inv_1 (0 : Int) x_5) ∧ ∀ (x_13 : Int) (x_14 : MK.stop.T → Int), inv_1 x_13 x_14 → (decide (x_13 < (↑(x.getD x_4.toNat (Route.mk (0 : Int) (0 : Int) [])).stops.length : Int)) = true → ((0 :
  Int) ≤ x_13 ∧ x_13 < (↑(x.getD x_4.toNat (Route.mk (0 : Int) (0 : Int) [])).stops.length : Int)) ∧ x_13.toNat < (x.getD x_4.toNat (Route.mk (0 : Int) (0 : Int) [])).stops.length ∧ (decide (((x.getD x_4.toNat (Route.mk (0 : Int) (0 : Int)
  [])).stops.getD x_13.toNat FK.stop.zero).order < (1 : Int)) = false → (decide (((x.getD x_4.toNat (Route.mk (0 : Int) (0 : Int) [])).stops.getD x_13.toNat FK.stop.zero).order > (1000000 : Int)) = false → (decide (x_14 ((x.getD x_4.toNat
  (Route.mk (0 : Int) (0 : Int) [])).stops.getD x_13.toNat FK.stop.zero) > (0 : Int)) = true → false = rightP x) ∧ (decide (x_14 ((x.getD x_4.toNat (Route.mk (0 : Int) (0 : Int) [])).stops.getD x_13.toNat FK.stop.zero) > (0 : Int)) = false →
  (((x.getD x_4.toNat (Route.mk (0 : Int) (0 : Int) [])).driver = (x.getD x_4.toNat (Route.mk (0 : Int) (0 : Int) [])).driver ∧ (↑x.length : Int) = (↑x.length : Int) ∧ x_4 = x_4 ∧ (↑(x.getD x_4.toNat (Route.mk (0 : Int) (0 : Int)
  [])).stops.length : Int) = (↑(x.getD x_4.toNat (Route.mk (0 : Int) (0 : Int) [])).stops.length : Int) ∧ wrap (x_13 + (1 : Int)) = wrap (x_13 + (1 : Int))) ∧ (x.getD x_4.toNat (Route.mk (0 : Int) (0 : Int) [])).stops = (x.getD x_4.toNat
  (Route.mk (0 : Int) (0 : Int) [])).stops ∧ x = x ∧ upF x_14 ((x.getD x_4.toNat (Route.mk (0 : Int) (0 : Int) [])).stops.getD x_13.toNat FK.stop.zero) (wrap (x_14 ((x.getD x_4.toNat (Route.mk (0 : Int) (0 : Int) [])).stops.getD x_13.toNat
  FK.stop.zero) + (1 : Int))) = upF x_14 ((x.getD x_4.toNat (Route.mk (0 : Int) (0 : Int) [])).stops.getD x_13.toNat FK.stop.zero) (wrap (x_14 ((x.getD x_4.toNat (Route.mk (0 : Int) (0 : Int) [])).stops.getD x_13.toNat FK.stop.zero) + (1 :
  Int)))) ∧ inv_1 (wrap (x_13 + (1 : Int))) (upF x_14 ((x.getD x_4.toNat (Route.mk (0 : Int) (0 : Int) [])).stops.getD x_13.toNat FK.stop.zero) (wrap (x_14 ((x.getD x_4.toNat (Route.mk (0 : Int) (0 : Int) [])).stops.getD x_13.toNat
  FK.stop.zero) + (1 : Int)))) ∧ μ_1 (wrap (x_13 + (1 : Int))) (upF x_14 ((x.getD x_4.toNat (Route.mk (0 : Int) (0 : Int) [])).stops.getD x_13.toNat FK.stop.zero) (wrap (x_14 ((x.getD x_4.toNat (Route.mk (0 : Int) (0 : Int) [])).stops.getD
  x_13.toNat FK.stop.zero) + (1 : Int)))) < μ_1 x_13 x_14)) ∧ (decide (((x.getD x_4.toNat (Route.mk (0 : Int) (0 : Int) [])).stops.getD x_13.toNat FK.stop.zero).order > (1000000 : Int)) = !false → false = rightP x)) ∧ (decide (((x.getD
  x_4.toNat (Route.mk (0 : Int) (0 : Int) [])).stops.getD x_13.toNat FK.stop.zero).order < (1 : Int)) = !false → false = rightP x)) ∧ (decide (x_13 < (↑(x.getD x_4.toNat (Route.mk (0 : Int) (0 : Int) [])).stops.length : Int)) = false →
  (((x.getD x_4.toNat (Route.mk (0 : Int) (0 : Int) [])).driver = (x.getD x_4.toNat (Route.mk (0 : Int) (0 : Int) [])).driver ∧ (↑x.length : Int) = (↑x.length : Int) ∧ wrap (x_4 + (1 : Int)) = wrap (x_4 + (1 : Int))) ∧ x = x ∧ x_14 = x_14) ∧
  inv (x.getD x_4.toNat (Route.mk (0 : Int) (0 : Int) [])).driver (wrap (x_4 + (1 : Int))) x_14 ∧ μ (x.getD x_4.toNat (Route.mk (0 : Int) (0 : Int) [])).driver (wrap (x_4 + (1 : Int))) x_14 < μ x_3 x_4 x_5))) ∧ (decide ((x.getD x_4.toNat
  (Route.mk (0 : Int) (0 : Int) [])).served < (0 : Int)) = !false → false = rightP x)) ∧ (decide ((↑(x.getD x_4.toNat (Route.mk (0 : Int) (0 : Int) [])).stops.length : Int) > (80 : Int)) = !false → false = rightP x)) ∧ (decide ((x.getD
  x_4.toNat (Route.mk (0 : Int) (0 : Int) [])).driver > (1000000 : Int)) = !false → false = rightP x)) ∧ (decide ((x.getD x_4.toNat (Route.mk (0 : Int) (0 : Int) [])).driver ≤ x_3) = !false → false = rightP x)) ∧ (decide (x_4 < (↑x.length :
  Int)) = false → true = rightP x))
theorem pright_told (hc : CsOk Try.prog pright_cs) (h : pright_vc) : Told Try.prog 37 pright_con := told (A := pright_la) tabOk mixed hc Try.func37 (by kernel_rfl) (by kernel_rfl) h
def cdriver_vc : Prop :=
  ∀ (x : List Driver), LenOk x.length → ∀ (x_2 : Int), ∃ (inv : Int → Prop), ∃ (μ : Int → Nat), (((x_2 = x_2 ∧ (↑x.length : Int) = (↑x.length : Int) ∧ (0 : Int) = (0 : Int)) ∧ ((0 : Int) = (0 : Int) ∧ (0 : Int) = (0 : Int) ∧ (0 : Int) = (0 :
  Int) ∧ (0 : Int) = (0 : Int) ∧ (0 : Int) = (0 : Int)) ∧ x = x) ∧ inv (0 : Int)) ∧ ∀ (x_3 : Int), inv x_3 → (decide (x_3 < (↑x.length : Int)) = true → ((0 : Int) ≤ x_3 ∧ x_3 < (↑x.length : Int)) ∧ x_3.toNat < x.length ∧ (decide ((x.getD
  x_3.toNat FK.driver.zero).id = x_2) = true → ((x.getD x_3.toNat FK.driver.zero).id = ((findD x_2 x).getD FK.driver.zero).id ∧ (x.getD x_3.toNat FK.driver.zero).room = ((findD x_2 x).getD FK.driver.zero).room ∧ (x.getD x_3.toNat
  FK.driver.zero).home = ((findD x_2 x).getD FK.driver.zero).home ∧ (x.getD x_3.toNat FK.driver.zero).lo = ((findD x_2 x).getD FK.driver.zero).lo ∧ (x.getD x_3.toNat FK.driver.zero).hi = ((findD x_2 x).getD FK.driver.zero).hi ∧ (x.getD
  x_3.toNat FK.driver.zero).retired = ((findD x_2 x).getD FK.driver.zero).retired) ∧ true = (findD x_2 x).isSome) ∧ (decide ((x.getD x_3.toNat FK.driver.zero).id = x_2) = false → ((x_2 = x_2 ∧ (↑x.length : Int) = (↑x.length : Int) ∧ wrap (x_3
  + (1 : Int)) = wrap (x_3 + (1 : Int))) ∧ ((0 : Int) = (0 : Int) ∧ (0 : Int) = (0 : Int) ∧ (0 : Int) = (0 : Int) ∧ (0 : Int) = (0 : Int) ∧ (0 : Int) = (0 : Int)) ∧ x = x) ∧ inv (wrap (x_3 + (1 : Int))) ∧ μ (wrap (x_3 + (1 : Int))) < μ x_3))
  ∧ (decide (x_3 < (↑x.length : Int)) = false → ((0 : Int) = ((findD x_2 x).getD FK.driver.zero).id ∧ (0 : Int) = ((findD x_2 x).getD FK.driver.zero).room ∧ (0 : Int) = ((findD x_2 x).getD FK.driver.zero).home ∧ (0 : Int) = ((findD x_2
  x).getD FK.driver.zero).lo ∧ (0 : Int) = ((findD x_2 x).getD FK.driver.zero).hi ∧ false = ((findD x_2 x).getD FK.driver.zero).retired) ∧ false = (findD x_2 x).isSome)
theorem cdriver_told (hc : CsOk Try.prog cdriver_cs) (h : cdriver_vc) : Told Try.prog 40 cdriver_con := told (A := cdriver_la) tabOk mixed hc Try.func40 (by kernel_rfl) (by kernel_rfl) h
def ctog_vc : Prop :=
  (∀ (x : List Driver), LenOk x.length → ∀ (x_2 : List Order), LenOk x_2.length → ∀ (x_4 : List Route), (LenOk x_4.length ∧ ∀ (r : Route), List.Mem r x_4 → LenOk r.stops.length) → (∀ (x : MapD), none = some x → MapOk x) → false = wellP none x
  x_2 x_4) ∧ ∀ (x : MapD), LenOk x.l.length → ∀ (x_2 : List Driver), LenOk x_2.length → ∀ (x_4 : List Order), LenOk x_4.length → ∀ (x_6 : List Route), (LenOk x_6.length ∧ ∀ (r : Route), List.Mem r x_6 → LenOk r.stops.length) → (∀ (x_8 :
  MapD), some x = some x_8 → MapOk x_8) → (decide ((↑x_2.length : Int) > (8 : Int)) = false → (∀ (x_10 : MapD), some x = some x_10 → MapOk x_10) ∧ ((!knownO (some x) x_4) = false → ((!rightP x_6) = true → false = wellP (some x) x_2 x_4 x_6) ∧
  ((!rightP x_6) = false → ∃ (inv : Int → Prop), ∃ (μ : Int → Nat), ((((↑x_2.length : Int) = (↑x_2.length : Int) ∧ (0 : Int) = (0 : Int)) ∧ x.n = x.n ∧ x.l = x.l ∧ x_2 = x_2) ∧ inv (0 : Int)) ∧ ∀ (x_12 : Int), inv x_12 → (decide (x_12 <
  (↑x_2.length : Int)) = true → ((0 : Int) ≤ x_12 ∧ x_12 < (↑x_2.length : Int)) ∧ x_12.toNat < x_2.length ∧ ((0 : Int) ≤ (0 : Int) ∧ (0 : Int) ≤ x_12 ∧ x_12 ≤ (↑x_2.length : Int)) ∧ Int.toNat (0 : Int) + (x_12.toNat - Int.toNat (0 : Int)) ≤
  x_2.length ∧ ((findD (x_2.getD x_12.toNat FK.driver.zero).id (part x_2 (Int.toNat (0 : Int)) (x_12.toNat - Int.toNat (0 : Int)))).isSome = false → (∀ (x_16 : MapD), some x = some x_16 → MapOk x_16) ∧ ((!decide (driverE (some x) (x_2.getD
  x_12.toNat FK.driver.zero) = (0 : Int))) = true → false = wellP (some x) x_2 x_4 x_6) ∧ ((!decide (driverE (some x) (x_2.getD x_12.toNat FK.driver.zero) = (0 : Int))) = false → (((↑x_2.length : Int) = (↑x_2.length : Int) ∧ wrap (x_12 + (1 :
  Int)) = wrap (x_12 + (1 : Int))) ∧ x.n = x.n ∧ x.l = x.l ∧ x_2 = x_2) ∧ inv (wrap (x_12 + (1 : Int))) ∧ μ (wrap (x_12 + (1 : Int))) < μ x_12)) ∧ ((findD (x_2.getD x_12.toNat FK.driver.zero).id (part x_2 (Int.toNat (0 : Int)) (x_12.toNat -
  Int.toNat (0 : Int)))).isSome = !false → false = wellP (some x) x_2 x_4 x_6)) ∧ (decide (x_12 < (↑x_2.length : Int)) = false → true = wellP (some x) x_2 x_4 x_6))) ∧ ((!knownO (some x) x_4) = !false → false = wellP (some x) x_2 x_4 x_6)) ∧
  (decide ((↑x_2.length : Int) > (8 : Int)) = !false → false = wellP (some x) x_2 x_4 x_6)
theorem ctog_told (hc : CsOk Try.prog ctog_cs) (h : ctog_vc) : Told Try.prog 39 ctog_con := told (A := ctog_la) tabOk mixed hc Try.func39 (by kernel_rfl) (by kernel_rfl) h
end Go.Eng

/- Books of memory: lists with room, compared. What is told of them. -/
set_option linter.unusedVariables false
set_option linter.unusedSimpArgs false
namespace Go.Eng
open Go Go.Proofs
end Go.Eng

/- The conditions of functions, as print.. of the engine told them. -/
set_option linter.unusedVariables false
namespace Go.Eng
open Go Go.Proofs
end Go.Eng

/- Books of memory: it is so. -/
set_option linter.unusedVariables false
set_option linter.unusedSimpArgs false
namespace Go.Eng
open Go Go.Proofs
end Go.Eng

/- Plans: it is so. -/
set_option linter.unusedVariables false
set_option linter.unusedSimpArgs false
namespace Go.Eng
open Go Go.Proofs
abbrev rz : Route := ⟨0, 0, []⟩
theorem ix {α : Type} {l : List α} {i : Int} (d : α) (hl : l.length ≤ 9223372036854775807) (h0 : 0 ≤ i) (h : i < l.length) : wrap (i + 1) = i + 1 ∧ (i + 1).toNat = i.toNat + 1 ∧ i.toNat < l.length ∧ l.drop i.toNat = l.getD i.toNat d :: l.drop (i.toNat + 1) := by
  refine ⟨wrap_id (by omega) (by omega), by omega, by omega, getD_drop (by omega)⟩
theorem ixEnd {α : Type} {l : List α} {i : Int} (h : l.length ≤ i) : l.drop i.toNat = [] := List.drop_eq_nil_of_le (by omega)
theorem getD_get {α : Type} {l : List α} {k : Nat} (d : α) (hk : k < l.length) : l.getD k d = l[k] := by simp [List.getD, hk]
theorem getD_mem {α : Type} {l : List α} {k : Nat} (d : α) (hk : k < l.length) : l.getD k d ∈ l := by
  rw [getD_get d hk]; exact List.getElem_mem hk
theorem route_len {x : List Route} (h : ∀ (r : Route), List.Mem r x → LenOk r.stops.length) (r : Route) (hr : r ∈ x) : r.stops.length ≤ 9223372036854775807 := (h r hr).le
theorem rightP_iff {p : List Route} : rightP p = true ↔ RightP p := by simp [rightP]
theorem right_no {p : List Route} (h : ¬ RightP p) : false = rightP p := by
  cases e : rightP p with
  | false => rfl
  | true => exact absurd (rightP_iff.1 e) h
theorem right_yes {p : List Route} (h : RightP p) : true = rightP p := (rightP_iff.2 h).symm
/-- The stops that were seen, in a map. -/
def Seen (f : Stop → Int) (all : List Stop) : Prop := ∀ s, (f s = 0 ∧ s ∉ all) ∨ (f s = 1 ∧ s ∈ all)
theorem seen_none : Seen (noF MK.stop.T) [] := fun s => Or.inl ⟨rfl, by simp⟩
theorem seen_more {f : Stop → Int} {all : List Stop} {s : Stop} (h : Seen f all) (hs : f s ≤ 0) : Seen (upF f s (wrap (f s + 1))) (all ++ [s]) := by
  intro t
  have hf : f s = 0 := by rcases h s with ⟨a, _⟩ | ⟨a, _⟩ <;> omega
  unfold upF
  by_cases e : t = s
  · subst e
    rw [if_pos rfl, hf]; exact Or.inr ⟨by decide, by simp⟩
  · rw [if_neg e]
    rcases h t with ⟨a, b⟩ | ⟨a, b⟩
    · exact Or.inl ⟨a, by simp [b, e]⟩
    · exact Or.inr ⟨a, by simp [b]⟩
theorem pright_ok : pright_vc := by
  unfold pright_vc
  simp only [bad_false, int0, nilOf, decide_eq_true_eq, decide_eq_false_iff_not, Bool.not_eq_true', Bool.not_eq_false', Bool.not_true, Bool.not_false, Bool.false_eq_true, Bool.true_eq_false, eq_self, true_and, and_true, false_or, or_false, false_implies, true_implies, implies_true, Int.not_lt, Int.not_le, gt_iff_lt, ge_iff_le, ne_eq]
  rintro x ⟨hl, hr⟩
  have hl := hl.le
  refine ⟨fun h8 => right_no fun hR => by have := hR.1; omega, fun h8 => ⟨fun last i f => 0 ≤ i ∧ ∃ all, (okR last all (x.drop i.toNat) ↔ okR 0 [] x) ∧ Seen f all, fun _ i _ => x.length - i.toNat, ⟨by omega, [], Iff.rfl, seen_none⟩, fun last i f hi => ⟨fun h => ?_, fun h => ?_⟩⟩⟩
  · obtain ⟨h0, all, hI, hS⟩ := hi
    obtain ⟨e1, e2, e3, e4⟩ := ix rz hl h0 h
    have hrl := route_len hr _ (getD_mem rz e3)
    rw [e4, okR] at hI
    rw [e1]; dsimp only; rw [e2]
    change List Route at x
    generalize x.getD i.toNat { driver := 0, served := 0, stops := [] } = r at *
    unfold okR1 at hI
    refine ⟨⟨h0, h⟩, e3, fun a1 => ⟨fun a2 => ⟨fun a3 => ⟨fun a4 => ⟨fun a5 => right_no fun hR => by have := hI.2 hR.2; omega, fun a5 => ?_⟩, fun a4 => right_no fun hR => by have := hI.2 hR.2; omega⟩, fun a3 => right_no fun hR => by have := hI.2 hR.2; omega⟩, fun a2 => right_no fun hR => by have := hI.2 hR.2; omega⟩, fun a1 => right_no fun hR => by have := hI.2 hR.2; omega⟩
    have hI' : (okS all r.stops ∧ okR r.driver (all ++ r.stops) (x.drop (i.toNat + 1))) ↔ okR 0 [] x := by
      rw [← hI]; exact ⟨fun q => ⟨⟨a1, a2, by omega, a4, a5⟩, q⟩, fun q => q.2⟩
    refine ⟨fun j g => 0 ≤ j ∧ ∃ al, ((okS al (r.stops.drop j.toNat) ∧ okR r.driver (al ++ r.stops.drop j.toNat) (x.drop (i.toNat + 1))) ↔ okR 0 [] x) ∧ Seen g al, fun j _ => r.stops.length - j.toNat, ⟨by omega, all, by simpa using hI', hS⟩, fun j g hj => ⟨fun k => ?_, fun k => ?_⟩⟩
    · obtain ⟨j0, al, hJ, hG⟩ := hj
      obtain ⟨d1, d2, d3, d4⟩ := ix (FK.zero .stop) hrl j0 k
      rw [d4, okS] at hJ
      rw [d1]; dsimp only; rw [d2]
      generalize r.stops.getD j.toNat (FK.zero .stop) = s at *
      refine ⟨⟨j0, k⟩, d3, fun b1 => ⟨fun b2 => ⟨fun b3 => right_no fun hR => ?_, fun b3 => ⟨⟨by omega, al ++ [s], ?_, seen_more hG b3⟩, by omega⟩⟩, fun b2 => right_no fun hR => by have := (hJ.2 hR.2).1.1; omega⟩, fun b1 => right_no fun hR => by have := (hJ.2 hR.2).1.1; omega⟩
      · have := (hJ.2 hR.2).1.1.2.2
        rcases hG s with ⟨a, b⟩ | ⟨a, b⟩
        · omega
        · exact this b
      · rw [← hJ]
        have hn : s ∉ al := by rcases hG s with ⟨a, b⟩ | ⟨a, b⟩; exact b; omega
        simp only [List.append_assoc, List.singleton_append]
        exact ⟨fun q => ⟨⟨⟨b1, b2, hn⟩, q.1⟩, q.2⟩, fun q => ⟨q.1.2, q.2⟩⟩
    · obtain ⟨j0, al, hJ, hG⟩ := hj
      rw [ixEnd k, List.append_nil] at hJ
      exact ⟨⟨by omega, al, ⟨fun q => hJ.1 ⟨trivial, q⟩, fun q => (hJ.2 q).2⟩, hG⟩, by omega⟩
  · obtain ⟨h0, all, hI, hS⟩ := hi
    rw [ixEnd h] at hI
    exact right_yes ⟨by omega, hI.1 trivial⟩
theorem pright_t : Told Try.prog 37 pright_con := pright_told csOk_nil pright_ok
theorem findD_step {id : Int} {r : Driver} {l : List Driver} {w : Option Driver} (h : findD id (r :: l) = w) : (r.id = id → w = some r) ∧ (¬ r.id = id → findD id l = w) := by
  rw [findD] at h
  refine ⟨fun a => ?_, fun a => ?_⟩
  · rw [if_pos a] at h; exact h.symm
  · rw [if_neg a] at h; exact h
theorem cdriver_ok : cdriver_vc := by
  unfold cdriver_vc
  simp only [bad_false, int0, nilOf, decide_eq_true_eq, decide_eq_false_iff_not, Bool.not_eq_true', Bool.not_eq_false', Bool.not_true, Bool.not_false, Bool.false_eq_true, Bool.true_eq_false, eq_self, true_and, and_true, false_or, or_false, false_implies, true_implies, implies_true, Int.not_lt, Int.not_le, gt_iff_lt, ge_iff_le, ne_eq]
  rintro x hl id
  have hl := hl.le
  refine ⟨fun i => 0 ≤ i ∧ findD id (x.drop i.toNat) = findD id x, fun i => x.length - i.toNat, ⟨by omega, rfl⟩, fun i hi => ⟨fun h => ?_, fun h => ?_⟩⟩
  · obtain ⟨h0, hI⟩ := hi
    obtain ⟨e1, e2, e3, e4⟩ := ix (FK.zero .driver) hl h0 h
    rw [e4] at hI
    obtain ⟨s1, s2⟩ := findD_step hI
    rw [e1]; dsimp only; rw [e2]
    refine ⟨⟨h0, h⟩, e3, fun a => ?_, fun a => ⟨⟨by omega, s2 a⟩, by omega⟩⟩
    rw [s1 a]; exact ⟨⟨rfl, rfl, rfl, rfl, rfl, rfl⟩, rfl⟩
  · obtain ⟨h0, hI⟩ := hi
    rw [ixEnd h] at hI
    rw [← hI]; exact ⟨⟨rfl, rfl, rfl, rfl, rfl, rfl⟩, rfl⟩
theorem cdriver_t : Told Try.prog 40 cdriver_con := cdriver_told csOk_nil cdriver_ok
end Go.Eng

/- Plans: the document's own Right; what goes together; what is kept: it is so. -/
set_option linter.unusedVariables false
set_option linter.unusedSimpArgs false
namespace Go.Eng
open Go Go.Proofs
theorem wellP_iff {m : Option MapD} {ds : List Driver} {os : List Order} {p : List Route} : wellP m ds os p = true ↔ m.isSome = true ∧ ds.length ≤ 8 ∧ knownO m os = true ∧ rightP p = true ∧ ∀ k, k < ds.length → okD m ds k = true := by
  unfold wellP
  simp [and_assoc]
theorem well_no {m : Option MapD} {ds : List Driver} {os : List Order} {p : List Route} (h : ¬ wellP m ds os p = true) : false = wellP m ds os p := by simpa using h
theorem okD_iff {m : Option MapD} {ds : List Driver} {k : Nat} : okD m ds k = true ↔ driverE m (ds.getD k (FK.zero .driver)) = 0 ∧ (findD (ds.getD k (FK.zero .driver)).id (ds.take k)) = none := by
  simp [okD]
theorem ctog_ok : ctog_vc := by
  unfold ctog_vc
  simp only [bad_false, int0, nilOf, decide_eq_true_eq, decide_eq_false_iff_not, Bool.not_eq_true', Bool.not_eq_false', Bool.not_true, Bool.not_false, Bool.false_eq_true, Bool.true_eq_false, eq_self, true_and, and_true, false_or, or_false, false_implies, true_implies, implies_true, Int.not_lt, Int.not_le, gt_iff_lt, ge_iff_le, ne_eq]
  refine ⟨fun ds _ os _ p _ _ => rfl, ?_⟩
  intro m hm ds hd os ho p hp hmo
  have hd := hd.le
  refine ⟨fun a => ⟨hmo, fun b => ⟨fun c => well_no fun hw => by have := (wellP_iff.1 hw).2.2.2.1; exact absurd (c.symm.trans this) (by decide), fun c => ?_⟩, fun b => well_no fun hw => by have := (wellP_iff.1 hw).2.2.1; exact absurd (b.symm.trans this) (by decide)⟩, fun a => well_no fun hw => by have := (wellP_iff.1 hw).2.1; omega⟩
  refine ⟨fun i => 0 ≤ i ∧ i ≤ ds.length ∧ ∀ k, k < i.toNat → okD (some m) ds k = true, fun i => ds.length - i.toNat, ⟨by omega, by omega, fun k hk => by simp at hk⟩, fun i hi => ⟨fun h => ?_, fun h => ?_⟩⟩
  · obtain ⟨h0, h1, hI⟩ := hi
    obtain ⟨e1, e2, e3, e4⟩ := ix (FK.zero .driver) hd h0 h
    rw [e1]; dsimp only; rw [e2]
    have hp : part ds (Int.toNat 0) (i.toNat - Int.toNat 0) = ds.take i.toNat := by simp [part]
    rw [hp]
    refine ⟨⟨h0, h⟩, e3, ⟨by omega, by omega, by omega⟩, by simp; omega, fun q => ⟨hmo, fun r => well_no fun hw => ?_, fun r => ⟨⟨by omega, by omega, fun k hk => ?_⟩, by omega⟩⟩, fun q => well_no fun hw => ?_⟩
    · exact r (okD_iff.1 ((wellP_iff.1 hw).2.2.2.2 _ e3)).1
    · by_cases e : k < i.toNat
      · exact hI k e
      · rw [show k = i.toNat by omega, okD_iff]; exact ⟨r, by simpa using q⟩
    · have := (okD_iff.1 ((wellP_iff.1 hw).2.2.2.2 _ e3)).2
      rw [this] at q; cases q
  · obtain ⟨h0, h1, hI⟩ := hi
    exact (wellP_iff.2 ⟨rfl, by omega, b, c, fun k hk => hI k (by omega)⟩).symm
theorem ctog_t : Told Try.prog 39 ctog_con := ctog_told (csOk_cons known_t (csOk_cons pright_t (csOk_cons cdriver_t (csOk_cons driver_t csOk_nil)))) ctog_ok
theorem okR_mem {p : List Route} {last : Int} {all : List Stop} (h : okR last all p) : ∀ r ∈ p, last < r.driver ∧ r.driver ≤ 1000000 ∧ r.stops.length ≤ 80 ∧ 0 ≤ r.served ∧ r.served ≤ r.stops.length := by
  induction p generalizing last all with
  | nil => simp
  | cons a l ih =>
    intro r hr
    rcases List.mem_cons.1 hr with rfl | hr
    · exact h.1
    · have := ih h.2.2 r hr
      have := h.1.1
      refine ⟨by omega, by omega, by omega, by omega, by omega⟩
end Go.Eng

/- Certificates, in plain words; what the functions tell. -/
set_option linter.unusedVariables false
set_option linter.unusedSimpArgs false
namespace Go.Eng
open Go Go.Proofs
def makeGo (m : MapD) (ds : List Driver) (os : List Order) : Nat → List Route → Except Fault (List (List Visit))
  | _, [] => .ok []
  | i, r :: l => match findD r.driver ds with
    | none => .error ⟨i, 8⟩
    | some d => match drive (some m) d os r.stops with
      | .error f => .error ⟨i, f.why⟩
      | .ok v => match makeGo m ds os (i + 1) l with
        | .error f => .error f
        | .ok vs => .ok (v :: vs)
noncomputable def makeP (m : Option MapD) (ds : List Driver) (os : List Order) (p : List Route) : Except Fault (List (List Visit)) := match m with
  | none => .error ⟨0, 1⟩
  | some x => if wellP m ds os p then makeGo x ds os 0 p else .error ⟨0, 1⟩
def certR (r : Except Fault (List (List Visit))) : List (List Visit) := match r with | .ok vs => vs | .error _ => []
def cfauR (r : Except Fault (List (List Visit))) : Fault := match r with | .ok _ => ⟨0, 0⟩ | .error f => f
def Visit.stop (v : Visit) : Stop := ⟨v.order, v.drop⟩
structure NextPre (m : MapD) (o : Order) (ahead v : Visit) (at' : Int) : Prop where
  map : MapOk m
  site : SiteOk m (siteOf o v.drop)
  at_ : AtOk m at' ahead.leave
  load : -1000000 ≤ ahead.load ∧ ahead.load ≤ 1000000
  size : 0 ≤ o.size ∧ o.size ≤ 1000
structure CheckPre (m : MapD) (d : Driver) (os : List Order) (ss : List Stop) : Prop where
  timed : TimedPre m d os ss
  nodup : ss.Nodup
/-! ### Contracts -/
noncomputable def cmake_con : Con := ⟨[.q .map 101, .c (.a (.f .driver)), .c (.a (.f .order)), .c (.a .route)], fun m ds os p => ⟨some (MapOkO m), [⟨none, [.c (.od (.rows .visit) 83 (certR (makeP m ds os p))), .r (SK.enc (.f .fault) (cfauR (makeP m ds os p)))]⟩]⟩⟩
noncomputable def cmake_cs : Cons := [(39, ctog_con), (40, cdriver_con), (41, timed_con), (20, good_con)]
def cmake_la : List (Nat × LA) := [(5, ⟨[0, 1, 2, 9, 24, 25], [.appd 10 (.rows .visit) 83, .i 26]⟩)]
end Go.Eng

/- The conditions of functions, as print.. of the engine told them. -/
set_option linter.unusedVariables false
namespace Go.Eng
open Go Go.Proofs
def cmake_vc : Prop :=
  (∀ (x : List Driver), LenOk x.length → ∀ (x_2 : List Order), LenOk x_2.length → ∀ (x_4 : List Route), (LenOk x_4.length ∧ ∀ (r : Route), List.Mem r x_4 → LenOk r.stops.length) → (∀ (x : MapD), none = some x → MapOk x) → (∀ (x : MapD), none
  = some x → MapOk x) ∧ ((!wellP none x x_2 x_4) = true → ((0 : Int) = (cfauR (makeP none x x_2 x_4)).spot ∧ (1 : Int) = (cfauR (makeP none x x_2 x_4)).why) ∧ certR (makeP none x x_2 x_4) = nilOf (List Visit)) ∧ ((!wellP none x x_2 x_4) =
  false → ∃ (inv : List (List Visit) → Int → Prop), ∃ (μ : List (List Visit) → Int → Nat), ((((↑x_4.length : Int) = (↑x_4.length : Int) ∧ (0 : Int) = (0 : Int)) ∧ ((0 : Int) = (0 : Int) ∧ (0 : Int) = (0 : Int)) ∧ x_4 = x_4 ∧ nilOf (List
  Visit) = nilOf (List Visit) ∧ x_2 = x_2 ∧ x = x) ∧ inv [] (0 : Int)) ∧ ∀ (x_8 : List (List Visit)) (x_9 : Int), inv x_8 x_9 → (decide (x_9 < (↑x_4.length : Int)) = true → ((0 : Int) ≤ x_9 ∧ x_9 < (↑x_4.length : Int)) ∧ x_9.toNat <
  x_4.length ∧ ((!(findD (x_4.getD x_9.toNat (Route.mk (0 : Int) (0 : Int) [])).driver x).isSome) = true → (x_9 = (cfauR (makeP none x x_2 x_4)).spot ∧ (8 : Int) = (cfauR (makeP none x x_2 x_4)).why) ∧ certR (makeP none x x_2 x_4) = nilOf
  (List Visit)) ∧ ((!(findD (x_4.getD x_9.toNat (Route.mk (0 : Int) (0 : Int) [])).driver x).isSome) = false → Bad (nat_lit 4) Oper (Oper.mk (some (nat_lit 48)) (Op.call (Call.mk (Callee.value (Operand.func (nat_lit 41))) (Array.mk
  [Operand.tmp (nat_lit 43), Operand.tmp (nat_lit 44), Operand.tmp (nat_lit 45), Operand.tmp (nat_lit 47)]) (Array.mk [nat_lit 35, nat_lit 44, nat_lit 24, nat_lit 39]))) (nat_lit 84) "cert.go:47" (Array.mk [Edge.mk (nat_lit 0) Ground.data,
  Edge.mk (nat_lit 1) Ground.data, Edge.mk (nat_lit 2) Ground.data, Edge.mk (nat_lit 4) Ground.data]) none))) ∧ (decide (x_9 < (↑x_4.length : Int)) = false → ((0 : Int) = (cfauR (makeP none x x_2 x_4)).spot ∧ (0 : Int) = (cfauR (makeP none x
  x_2 x_4)).why) ∧ x_8 = certR (makeP none x x_2 x_4)))) ∧ ∀ (x : MapD), LenOk x.l.length → ∀ (x_2 : List Driver), LenOk x_2.length → ∀ (x_4 : List Order), LenOk x_4.length → ∀ (x_6 : List Route), (LenOk x_6.length ∧ ∀ (r : Route), List.Mem r
  x_6 → LenOk r.stops.length) → (∀ (x_8 : MapD), some x = some x_8 → MapOk x_8) → (∀ (x_9 : MapD), some x = some x_9 → MapOk x_9) ∧ ((!wellP (some x) x_2 x_4 x_6) = true → ((0 : Int) = (cfauR (makeP (some x) x_2 x_4 x_6)).spot ∧ (1 : Int) =
  (cfauR (makeP (some x) x_2 x_4 x_6)).why) ∧ certR (makeP (some x) x_2 x_4 x_6) = nilOf (List Visit)) ∧ ((!wellP (some x) x_2 x_4 x_6) = false → ∃ (inv : List (List Visit) → Int → Prop), ∃ (μ : List (List Visit) → Int → Nat), ((((↑x_6.length
  : Int) = (↑x_6.length : Int) ∧ (0 : Int) = (0 : Int)) ∧ (x.n = x.n ∧ (0 : Int) = (0 : Int) ∧ (0 : Int) = (0 : Int)) ∧ x.l = x.l ∧ x_6 = x_6 ∧ nilOf (List Visit) = nilOf (List Visit) ∧ x_4 = x_4 ∧ x_2 = x_2) ∧ inv [] (0 : Int)) ∧ ∀ (x_10 :
  List (List Visit)) (x_11 : Int), inv x_10 x_11 → (decide (x_11 < (↑x_6.length : Int)) = true → ((0 : Int) ≤ x_11 ∧ x_11 < (↑x_6.length : Int)) ∧ x_11.toNat < x_6.length ∧ ((!(findD (x_6.getD x_11.toNat (Route.mk (0 : Int) (0 : Int)
  [])).driver x_2).isSome) = true → (x_11 = (cfauR (makeP (some x) x_2 x_4 x_6)).spot ∧ (8 : Int) = (cfauR (makeP (some x) x_2 x_4 x_6)).why) ∧ certR (makeP (some x) x_2 x_4 x_6) = nilOf (List Visit)) ∧ ((!(findD (x_6.getD x_11.toNat
  (Route.mk (0 : Int) (0 : Int) [])).driver x_2).isSome) = false → TimedPre x ((findD (x_6.getD x_11.toNat (Route.mk (0 : Int) (0 : Int) [])).driver x_2).getD FK.driver.zero) x_4 (x_6.getD x_11.toNat (Route.mk (0 : Int) (0 : Int) [])).stops ∧
  ((!good (fauR (driveT x ((findD (x_6.getD x_11.toNat (Route.mk (0 : Int) (0 : Int) [])).driver x_2).getD FK.driver.zero) x_4 (x_6.getD x_11.toNat (Route.mk (0 : Int) (0 : Int) [])).stops))) = true → (x_11 = (cfauR (makeP (some x) x_2 x_4
  x_6)).spot ∧ (fauR (driveT x ((findD (x_6.getD x_11.toNat (Route.mk (0 : Int) (0 : Int) [])).driver x_2).getD FK.driver.zero) x_4 (x_6.getD x_11.toNat (Route.mk (0 : Int) (0 : Int) [])).stops)).why = (cfauR (makeP (some x) x_2 x_4
  x_6)).why) ∧ certR (makeP (some x) x_2 x_4 x_6) = nilOf (List Visit)) ∧ ((!good (fauR (driveT x ((findD (x_6.getD x_11.toNat (Route.mk (0 : Int) (0 : Int) [])).driver x_2).getD FK.driver.zero) x_4 (x_6.getD x_11.toNat (Route.mk (0 : Int) (0
  : Int) [])).stops))) = false → (x_10.length + [visR (driveT x ((findD (x_6.getD x_11.toNat (Route.mk (0 : Int) (0 : Int) [])).driver x_2).getD FK.driver.zero) x_4 (x_6.getD x_11.toNat (Route.mk (0 : Int) (0 : Int) [])).stops)].length) *
  (K.rows FK.visit).byt ≤ (140737488355328 : Nat) ∧ (((↑x_6.length : Int) = (↑x_6.length : Int) ∧ wrap (x_11 + (1 : Int)) = wrap (x_11 + (1 : Int))) ∧ (x.n = x.n ∧ (0 : Int) = (0 : Int) ∧ (0 : Int) = (0 : Int)) ∧ x.l = x.l ∧ x_6 = x_6 ∧ x_10
  ++ [visR (driveT x ((findD (x_6.getD x_11.toNat (Route.mk (0 : Int) (0 : Int) [])).driver x_2).getD FK.driver.zero) x_4 (x_6.getD x_11.toNat (Route.mk (0 : Int) (0 : Int) [])).stops)] = x_10 ++ [visR (driveT x ((findD (x_6.getD x_11.toNat
  (Route.mk (0 : Int) (0 : Int) [])).driver x_2).getD FK.driver.zero) x_4 (x_6.getD x_11.toNat (Route.mk (0 : Int) (0 : Int) [])).stops)] ∧ x_4 = x_4 ∧ x_2 = x_2) ∧ inv (x_10 ++ [visR (driveT x ((findD (x_6.getD x_11.toNat (Route.mk (0 : Int)
  (0 : Int) [])).driver x_2).getD FK.driver.zero) x_4 (x_6.getD x_11.toNat (Route.mk (0 : Int) (0 : Int) [])).stops)]) (wrap (x_11 + (1 : Int))) ∧ μ (x_10 ++ [visR (driveT x ((findD (x_6.getD x_11.toNat (Route.mk (0 : Int) (0 : Int)
  [])).driver x_2).getD FK.driver.zero) x_4 (x_6.getD x_11.toNat (Route.mk (0 : Int) (0 : Int) [])).stops)]) (wrap (x_11 + (1 : Int))) < μ x_10 x_11))) ∧ (decide (x_11 < (↑x_6.length : Int)) = false → ((0 : Int) = (cfauR (makeP (some x) x_2
  x_4 x_6)).spot ∧ (0 : Int) = (cfauR (makeP (some x) x_2 x_4 x_6)).why) ∧ x_10 = certR (makeP (some x) x_2 x_4 x_6)))
theorem cmake_told (hc : CsOk Try.prog cmake_cs) (h : cmake_vc) : Told Try.prog 19 cmake_con := told (A := cmake_la) tabOk mixed hc Try.func19 (by kernel_rfl) (by kernel_rfl) h
end Go.Eng

/- How late stops may be begun; an order put between stops: in plain words; what the functions tell. -/
set_option linter.unusedVariables false
set_option linter.unusedSimpArgs false
namespace Go.Eng
open Go Go.Proofs
def putOk (ss : List Stop) (i j : Int) : Bool := decide (0 ≤ i) && decide (i ≤ j) && decide (j ≤ ss.length)
def putS (ss : List Stop) (id i j : Int) : List Stop := if putOk ss i j then ss.take i.toNat ++ [⟨id, false⟩] ++ (ss.drop i.toNat).take (j.toNat - i.toNat) ++ [⟨id, true⟩] ++ ss.drop j.toNat else []
def fits (m : Option MapD) (d : Driver) (os : List Order) (ss : List Stop) (o : Order) (i j : Int) : Bool :=
  putOk ss i j && good (fauR (drive m d os ss)) && (findO os o.id).isNone && good (fauR (drive m d (os ++ [o]) (putS ss o.id i j)))

/-! ### Contracts -/
def sput_con : Con := ⟨[.c (.a (.f .stop)), .c .i, .c .i, .c .i], fun ss id i j => ⟨some (ss.length * 16 ≤ 140737488351232), [⟨none, [.c (.o .stop 70 (putS ss id i j))]⟩]⟩⟩
def sput_cs : Cons := []
def sput_la : List (Nat × LA) := []
def sfits_con : Con := ⟨[.q .map 101, .r (.f .driver), .c (.a (.f .order)), .c (.a (.f .stop)), .r (.f .order), .c .i, .c .i], fun m d os ss o i j => ⟨some (MapOkO m ∧ os.length * 80 ≤ 140737488351232 ∧ ss.length * 16 ≤ 140737488351232), [⟨none, [.c (.b (fits m d os ss o i j))]⟩]⟩⟩
def sfits_cs : Cons := [(30, drive_con), (34, find_con), (20, good_con), (16, sput_con)]
def sfits_la : List (Nat × LA) := []
end Go.Eng

/- The conditions of functions, as print.. of the engine told them. -/
set_option linter.unusedVariables false
namespace Go.Eng
open Go Go.Proofs
def sput_vc : Prop :=
  ∀ (x : List Stop), LenOk x.length → ∀ (x_2 x_3 x_4 : Int), x.length * (16 : Nat) ≤ (140737488351232 : Nat) → (decide (x_3 < (0 : Int)) = false → (decide (x_4 < x_3) = false → (decide (x_4 > (↑x.length : Int)) = true → putS x x_2 x_3 x_4 =
  nilOf Stop) ∧ (decide (x_4 > (↑x.length : Int)) = false → ((0 : Int) ≤ (0 : Int) ∧ (0 : Int) ≤ wrap ((↑x.length : Int) + (2 : Int)) ∧ wrap ((↑x.length : Int) + (2 : Int)) * ((8 : Int) * (↑(2 : Nat) : Int)) ≤ (281474976710656 : Int)) ∧ ((0 :
  Int) ≤ (0 : Int) ∧ (0 : Int) ≤ x_3 ∧ x_3 ≤ (↑x.length : Int)) ∧ ((Int.toNat (0 : Int) + (x_3.toNat - Int.toNat (0 : Int))).le x.length ∧ ((List.replicate (Int.toNat (0 : Int)) FK.stop.zero).length + (part x (Int.toNat (0 : Int)) (x_3.toNat
  - Int.toNat (0 : Int))).length) * ((8 : Nat) * (2 : Nat)) ≤ (140737488355328 : Nat)) ∧ (True ∧ ((List.replicate (Int.toNat (0 : Int)) FK.stop.zero ++ part x (Int.toNat (0 : Int)) (x_3.toNat - Int.toNat (0 : Int))).length + [Stop.mk x_2
  false].length) * ((8 : Nat) * (2 : Nat)) ≤ (140737488355328 : Nat)) ∧ ((0 : Int) ≤ x_3 ∧ x_3 ≤ x_4 ∧ x_4 ≤ (↑x.length : Int)) ∧ ((x_3.toNat + (x_4.toNat - x_3.toNat)).le x.length ∧ ((List.replicate (Int.toNat (0 : Int)) FK.stop.zero ++ part
  x (Int.toNat (0 : Int)) (x_3.toNat - Int.toNat (0 : Int)) ++ [Stop.mk x_2 false]).length + (part x x_3.toNat (x_4.toNat - x_3.toNat)).length) * ((8 : Nat) * (2 : Nat)) ≤ (140737488355328 : Nat)) ∧ (True ∧ ((List.replicate (Int.toNat (0 :
  Int)) FK.stop.zero ++ part x (Int.toNat (0 : Int)) (x_3.toNat - Int.toNat (0 : Int)) ++ [Stop.mk x_2 false] ++ part x x_3.toNat (x_4.toNat - x_3.toNat)).length + [Stop.mk x_2 true].length) * ((8 : Nat) * (2 : Nat)) ≤ (140737488355328 :
  Nat)) ∧ ((0 : Int) ≤ x_4 ∧ x_4 ≤ (↑x.length : Int) ∧ (↑x.length : Int) ≤ (↑x.length : Int)) ∧ ((x_4.toNat + ((↑x.length : Int).toNat - x_4.toNat)).le x.length ∧ ((List.replicate (Int.toNat (0 : Int)) FK.stop.zero ++ part x (Int.toNat (0 :
  Int)) (x_3.toNat - Int.toNat (0 : Int)) ++ [Stop.mk x_2 false] ++ part x x_3.toNat (x_4.toNat - x_3.toNat) ++ [Stop.mk x_2 true]).length + (part x x_4.toNat ((↑x.length : Int).toNat - x_4.toNat)).length) * ((8 : Nat) * (2 : Nat)) ≤
  (140737488355328 : Nat)) ∧ List.replicate (Int.toNat (0 : Int)) FK.stop.zero ++ part x (Int.toNat (0 : Int)) (x_3.toNat - Int.toNat (0 : Int)) ++ [Stop.mk x_2 false] ++ part x x_3.toNat (x_4.toNat - x_3.toNat) ++ [Stop.mk x_2 true] ++ part
  x x_4.toNat ((↑x.length : Int).toNat - x_4.toNat) = putS x x_2 x_3 x_4)) ∧ (decide (x_4 < x_3) = !false → putS x x_2 x_3 x_4 = nilOf Stop)) ∧ (decide (x_3 < (0 : Int)) = !false → putS x x_2 x_3 x_4 = nilOf Stop)
theorem sput_told (hc : CsOk Try.prog sput_cs) (h : sput_vc) : Told Try.prog 16 sput_con := told (A := sput_la) tabOk mixed hc Try.func16 (by kernel_rfl) (by kernel_rfl) h
def sfits_vc : Prop :=
  (∀ (x : Driver) (x_1 : List Order), LenOk x_1.length → ∀ (x_3 : List Stop), LenOk x_3.length → ∀ (x_5 : Order) (x_6 x_7 : Int), (∀ (x : MapD), none = some x → MapOk x) ∧ x_1.length * (80 : Nat) ≤ (140737488351232 : Nat) ∧ x_3.length * (16 :
  Nat) ≤ (140737488351232 : Nat) → (decide (x_6 < (0 : Int)) = false → (decide (x_7 < x_6) = false → (decide (x_7 > (↑x_3.length : Int)) = true → false = fits none x x_1 x_3 x_5 x_6 x_7) ∧ (decide (x_7 > (↑x_3.length : Int)) = false → (∀ (x :
  MapD), none = some x → MapOk x) ∧ ((!good (fauR (drive none x x_1 x_3))) = false → ((findO x_1 x_5.id).isSome = true → false = fits none x x_1 x_3 x_5 x_6 x_7) ∧ ((findO x_1 x_5.id).isSome = false → ((0 : Int) ≤ (0 : Int) ∧ (0 : Int) ≤ wrap
  ((↑x_1.length : Int) + (1 : Int)) ∧ wrap ((↑x_1.length : Int) + (1 : Int)) * ((8 : Int) * (↑(10 : Nat) : Int)) ≤ (281474976710656 : Int)) ∧ (True ∧ ((List.replicate (Int.toNat (0 : Int)) FK.order.zero).length + x_1.length) * ((8 : Nat) *
  (10 : Nat)) ≤ (140737488355328 : Nat)) ∧ (True ∧ ((List.replicate (Int.toNat (0 : Int)) FK.order.zero ++ x_1).length + [x_5].length) * ((8 : Nat) * (10 : Nat)) ≤ (140737488355328 : Nat)) ∧ x_3.length * (16 : Nat) ≤ (140737488351232 : Nat) ∧
  (∀ (x : MapD), none = some x → MapOk x) ∧ good (fauR (drive none x (List.replicate (Int.toNat (0 : Int)) FK.order.zero ++ x_1 ++ [x_5]) (putS x_3 x_5.id x_6 x_7))) = fits none x x_1 x_3 x_5 x_6 x_7)) ∧ ((!good (fauR (drive none x x_1 x_3)))
  = !false → false = fits none x x_1 x_3 x_5 x_6 x_7))) ∧ (decide (x_7 < x_6) = !false → false = fits none x x_1 x_3 x_5 x_6 x_7)) ∧ (decide (x_6 < (0 : Int)) = !false → false = fits none x x_1 x_3 x_5 x_6 x_7)) ∧ ∀ (x : MapD), LenOk
  x.l.length → ∀ (x_2 : Driver) (x_3 : List Order), LenOk x_3.length → ∀ (x_5 : List Stop), LenOk x_5.length → ∀ (x_7 : Order) (x_8 x_9 : Int), (∀ (x_10 : MapD), some x = some x_10 → MapOk x_10) ∧ x_3.length * (80 : Nat) ≤ (140737488351232 :
  Nat) ∧ x_5.length * (16 : Nat) ≤ (140737488351232 : Nat) → (decide (x_8 < (0 : Int)) = false → (decide (x_9 < x_8) = false → (decide (x_9 > (↑x_5.length : Int)) = true → false = fits (some x) x_2 x_3 x_5 x_7 x_8 x_9) ∧ (decide (x_9 >
  (↑x_5.length : Int)) = false → (∀ (x_14 : MapD), some x = some x_14 → MapOk x_14) ∧ ((!good (fauR (drive (some x) x_2 x_3 x_5))) = false → ((findO x_3 x_7.id).isSome = true → false = fits (some x) x_2 x_3 x_5 x_7 x_8 x_9) ∧ ((findO x_3
  x_7.id).isSome = false → ((0 : Int) ≤ (0 : Int) ∧ (0 : Int) ≤ wrap ((↑x_3.length : Int) + (1 : Int)) ∧ wrap ((↑x_3.length : Int) + (1 : Int)) * ((8 : Int) * (↑(10 : Nat) : Int)) ≤ (281474976710656 : Int)) ∧ (True ∧ ((List.replicate
  (Int.toNat (0 : Int)) FK.order.zero).length + x_3.length) * ((8 : Nat) * (10 : Nat)) ≤ (140737488355328 : Nat)) ∧ (True ∧ ((List.replicate (Int.toNat (0 : Int)) FK.order.zero ++ x_3).length + [x_7].length) * ((8 : Nat) * (10 : Nat)) ≤
  (140737488355328 : Nat)) ∧ x_5.length * (16 : Nat) ≤ (140737488351232 : Nat) ∧ (∀ (x_16 : MapD), some x = some x_16 → MapOk x_16) ∧ good (fauR (drive (some x) x_2 (List.replicate (Int.toNat (0 : Int)) FK.order.zero ++ x_3 ++ [x_7]) (putS
  x_5 x_7.id x_8 x_9))) = fits (some x) x_2 x_3 x_5 x_7 x_8 x_9)) ∧ ((!good (fauR (drive (some x) x_2 x_3 x_5))) = !false → false = fits (some x) x_2 x_3 x_5 x_7 x_8 x_9))) ∧ (decide (x_9 < x_8) = !false → false = fits (some x) x_2 x_3 x_5
  x_7 x_8 x_9)) ∧ (decide (x_8 < (0 : Int)) = !false → false = fits (some x) x_2 x_3 x_5 x_7 x_8 x_9)
theorem sfits_told (hc : CsOk Try.prog sfits_cs) (h : sfits_vc) : Told Try.prog 15 sfits_con := told (A := sfits_la) tabOk mixed hc Try.func15 (by kernel_rfl) (by kernel_rfl) h
end Go.Eng

/- How late stops may be begun; an order put between stops: it is so. -/
set_option linter.unusedVariables false
set_option linter.unusedSimpArgs false
namespace Go.Eng
open Go Go.Proofs

theorem putOk_iff {ss : List Stop} {i j : Int} : putOk ss i j = true ↔ 0 ≤ i ∧ i ≤ j ∧ j ≤ ss.length := by
  simp [putOk, and_assoc]
theorem putS_in {ss : List Stop} {id i j : Int} (h : 0 ≤ i ∧ i ≤ j ∧ j ≤ ss.length) : putS ss id i j = ss.take i.toNat ++ [⟨id, false⟩] ++ (ss.drop i.toNat).take (j.toNat - i.toNat) ++ [⟨id, true⟩] ++ ss.drop j.toNat := by
  unfold putS; rw [if_pos (putOk_iff.2 h)]
theorem putS_out {ss : List Stop} {id i j : Int} (h : ¬ (0 ≤ i ∧ i ≤ j ∧ j ≤ ss.length)) : putS ss id i j = [] := by
  unfold putS; rw [if_neg]; rw [putOk_iff]; exact h
theorem putS_length {ss : List Stop} {id i j : Int} (h : 0 ≤ i ∧ i ≤ j ∧ j ≤ ss.length) : (putS ss id i j).length = ss.length + 2 := by
  rw [putS_in h]
  simp only [List.length_append, List.length_take, List.length_drop, List.length_cons, List.length_nil]
  omega
theorem sput_ok : sput_vc := by
  unfold sput_vc
  simp only [bad_false, int0, nilOf, decide_eq_true_eq, decide_eq_false_iff_not, Bool.not_eq_true', Bool.not_eq_false', Bool.not_true, Bool.not_false, Bool.false_eq_true, Bool.true_eq_false, eq_self, true_and, and_true, false_or, or_false, false_implies, true_implies, implies_true, Int.not_lt, Int.not_le, gt_iff_lt, ge_iff_le, ne_eq]
  intro ss hl id i j hb
  have hl := hl.le
  refine ⟨fun h1 => ⟨fun h2 => ⟨fun h3 => putS_out (by omega), fun h3 => ?_⟩, fun h2 => putS_out (by omega)⟩, fun h1 => putS_out (by omega)⟩
  rw [putS_in ⟨h1, h2, h3⟩, wrap_id (by omega) (by omega)]
  simp only [part, List.length_append, List.length_take, List.length_drop, List.length_cons, List.length_nil, List.length_replicate, Int.toNat_zero, Nat.le_eq, List.replicate_zero, List.nil_append, List.drop_zero, Nat.sub_zero, Int.toNat_natCast]
  refine ⟨by omega, by omega, by omega, by omega, by omega, by omega, by omega, by omega, by omega, ?_⟩
  congr 1
  exact List.take_of_length_le (by rw [List.length_drop]; omega)
theorem sput_t : Told Try.prog 16 sput_con := sput_told csOk_nil sput_ok
theorem findO_isNone {os : List Order} {id : Int} : (findO os id).isNone = !(findO os id).isSome := by cases findO os id <;> rfl
theorem fits_out {m : Option MapD} {d : Driver} {os : List Order} {ss : List Stop} {o : Order} {i j : Int} (h : ¬ (0 ≤ i ∧ i ≤ j ∧ j ≤ ss.length)) : fits m d os ss o i j = false := by
  have : putOk ss i j = false := by
    cases hh : putOk ss i j with
    | false => rfl
    | true => exact absurd (putOk_iff.1 hh) h
  simp [fits, this]
theorem fits_in {m : Option MapD} {d : Driver} {os : List Order} {ss : List Stop} {o : Order} {i j : Int} (h : 0 ≤ i ∧ i ≤ j ∧ j ≤ ss.length) : fits m d os ss o i j = (good (fauR (drive m d os ss)) && !(findO os o.id).isSome && good (fauR (drive m d (os ++ [o]) (putS ss o.id i j)))) := by
  unfold fits
  rw [putOk_iff.2 h, findO_isNone, Bool.true_and]
theorem sfits_gen (m : Option MapD) (d : Driver) (os : List Order) (ss : List Stop) (o : Order) (i j : Int) (hl : LenOk os.length) (hm : MapOkO m) (hb : os.length * 80 ≤ 140737488351232) (hb' : ss.length * 16 ≤ 140737488351232) :
    (0 ≤ i → (i ≤ j → ((ss.length : Int) < j → false = fits m d os ss o i j) ∧ (j ≤ ss.length → MapOkO m ∧ (good (fauR (drive m d os ss)) = true → ((findO os o.id).isSome = true → false = fits m d os ss o i j) ∧
      ((findO os o.id).isSome = false → ((0 : Int) ≤ 0 ∧ 0 ≤ wrap (↑os.length + 1) ∧ wrap (↑os.length + 1) * (8 * ((10 : Nat) : Int)) ≤ 281474976710656) ∧ ((List.replicate (Int.toNat 0) (FK.zero .order)).length + os.length) * (8 * 10) ≤ 140737488355328 ∧
        ((List.replicate (Int.toNat 0) (FK.zero .order) ++ os).length + [o].length) * (8 * 10) ≤ 140737488355328 ∧ ss.length * 16 ≤ 140737488351232 ∧ MapOkO m ∧ good (fauR (drive m d (List.replicate (Int.toNat 0) (FK.zero .order) ++ os ++ [o]) (putS ss o.id i j))) = fits m d os ss o i j)) ∧
      (good (fauR (drive m d os ss)) = false → false = fits m d os ss o i j))) ∧ (j < i → false = fits m d os ss o i j)) ∧ (i < 0 → false = fits m d os ss o i j) := by
  have hl := hl.le
  refine ⟨fun h1 => ⟨fun h2 => ⟨fun h3 => (fits_out (by omega)).symm, fun h3 => ⟨hm, fun h4 => ⟨fun h5 => ?_, fun h5 => ?_⟩, fun h4 => ?_⟩⟩, fun h2 => (fits_out (by omega)).symm⟩, fun h1 => (fits_out (by omega)).symm⟩
  · rw [fits_in ⟨h1, h2, h3⟩, h5]; simp
  · rw [fits_in ⟨h1, h2, h3⟩, h5, h4, wrap_id (by omega) (by omega)]
    refine ⟨by omega, by simp; omega, by simp; omega, by omega, hm, ?_⟩
    simp
  · rw [fits_in ⟨h1, h2, h3⟩, h4]; simp
theorem sfits_ok : sfits_vc := by
  unfold sfits_vc
  simp only [bad_false, int0, nilOf, decide_eq_true_eq, decide_eq_false_iff_not, Bool.not_eq_true', Bool.not_eq_false', Bool.not_true, Bool.not_false, Bool.false_eq_true, Bool.true_eq_false, eq_self, true_and, and_true, false_or, or_false, false_implies, true_implies, implies_true, Int.not_lt, Int.not_le, gt_iff_lt, ge_iff_le, ne_eq]
  exact ⟨fun d os hl ss _ o i j ⟨hm, hb, hb'⟩ => sfits_gen none d os ss o i j hl hm hb hb', fun m _ d os hl ss _ o i j ⟨hm, hb, hb'⟩ => sfits_gen (some m) d os ss o i j hl hm hb hb'⟩
theorem sfits_t : Told Try.prog 15 sfits_con := sfits_told (csOk_cons drive_t (csOk_cons find_t (csOk_cons goodF_t (csOk_cons sput_t csOk_nil)))) sfits_ok

end Go.Eng

/- Plans copied, stops put in and taken out, in plain words; what the functions tell. -/
set_option linter.unusedVariables false
set_option linter.unusedSimpArgs false
namespace Go.Eng
open Go Go.Proofs
end Go.Eng

/- The conditions of functions, as print.. of the engine told them. -/
set_option linter.unusedVariables false
namespace Go.Eng
open Go Go.Proofs
end Go.Eng

/- Plans copied, stops put in and taken out: it is so. -/
set_option linter.unusedVariables false
set_option linter.unusedSimpArgs false
namespace Go.Eng
open Go Go.Proofs
end Go.Eng

/- Plans: plain laws that others use. -/
set_option linter.unusedVariables false
set_option linter.unusedSimpArgs false
namespace Go.Eng
open Go Go.Proofs
theorem stands_iff {l : List Stop} {s : Stop} : stands l s = true ↔ s ∈ l := by
  unfold stands
  rw [List.any_eq_true]
  constructor
  · rintro ⟨x, hx, he⟩
    have : x = s := by cases x; cases s; simpa [sEq] using he
    exact this ▸ hx
  · intro h
    exact ⟨s, h, by simp [sEq]⟩
theorem findD_mem {id : Int} {l : List Driver} {d : Driver} (h : findD id l = some d) : d ∈ l ∧ d.id = id := by
  induction l with
  | nil => cases h
  | cons a l ih =>
    rw [findD] at h
    split at h
    · cases h; simp [*]
    · exact ⟨List.mem_cons_of_mem _ (ih h).1, (ih h).2⟩
theorem well_driver {m : MapD} {ds : List Driver} {os : List Order} {p : List Route} (h : wellP (some m) ds os p = true) {d : Driver} (hd : d ∈ ds) : driverE (some m) d = 0 := by
  obtain ⟨k, hk, rfl⟩ := List.getElem_of_mem hd
  have := (okD_iff.1 ((wellP_iff.1 h).2.2.2.2 k hk)).1
  rwa [getD_get _ hk] at this
theorem well_timed {m : MapD} {ds : List Driver} {os : List Order} {p : List Route} (hm : MapOk m) (h : wellP (some m) ds os p = true) {r : Route} (hr : r ∈ p) {d : Driver} (hd : d ∈ ds) : TimedPre m d os r.stops :=
  ⟨hm, driverE_ok (well_driver h hd), (wellP_iff.1 h).2.2.1, (okR_mem (rightP_iff.1 (wellP_iff.1 h).2.2.2.1).2 r hr).2.2.1⟩
end Go.Eng

/- Certificates: it is so. -/
set_option linter.unusedVariables false
set_option linter.unusedSimpArgs false
namespace Go.Eng
open Go Go.Proofs
/-- What is still to be made. -/
theorem makeGo_step {m : MapD} {ds : List Driver} {os : List Order} {i : Nat} {r : Route} {l : List Route} {vs : List (List Visit)} {W : Except Fault (List (List Visit))} (h : W = match makeGo m ds os i (r :: l) with | .error f => .error f | .ok w => .ok (vs ++ w)) :
    (findD r.driver ds = none → W = .error ⟨i, 8⟩) ∧ (∀ d, findD r.driver ds = some d → (∀ f, drive (some m) d os r.stops = .error f → W = .error ⟨i, f.why⟩) ∧
      ∀ v, drive (some m) d os r.stops = .ok v → W = match makeGo m ds os (i + 1) l with | .error f => .error f | .ok w => .ok (vs ++ [v] ++ w)) := by
  rw [makeGo] at h
  refine ⟨fun e => by rw [e] at h; exact h, fun d e => ⟨fun f ef => by rw [e] at h; dsimp only at h; rw [ef] at h; exact h, fun v ev => ?_⟩⟩
  rw [e] at h; dsimp only at h; rw [ev] at h; dsimp only at h
  rw [h]
  cases makeGo m ds os (i + 1) l with
  | error f => rfl
  | ok w => simp
theorem well_drive {m : MapD} {ds : List Driver} {os : List Order} {p : List Route} (h : wellP (some m) ds os p = true) {r : Route} (hr : r ∈ p) {d : Driver} (hd : d ∈ ds) : drive (some m) d os r.stops = driveT m d os r.stops := by
  have hR := rightP_iff.1 (wellP_iff.1 h).2.2.2.1
  have : fitB (some m) d os r.stops = true := by
    simp [fitB, well_driver h hd, (wellP_iff.1 h).2.2.1, (okR_mem hR.2 r hr).2.2.1]
  unfold drive
  dsimp only
  rw [if_pos this]
theorem driveT_good {r : Except Fault (List Visit)} : (good (fauR r) = true → (∃ v, r = .ok v) ∨ ∃ f, r = .error f ∧ f.why = 0) ∧ (good (fauR r) = false → ∃ f, r = .error f) := by
  cases r with
  | ok v => exact ⟨fun _ => .inl ⟨v, rfl⟩, fun h => by simp [fauR, good] at h⟩
  | error f => exact ⟨fun h => .inr ⟨f, rfl, of_decide_eq_true h⟩, fun _ => ⟨f, rfl⟩⟩
theorem driveT_ok {m : MapD} {d : Driver} {os : List Order} {ss : List Stop} (h : good (fauR (driveT m d os ss)) = true) : ∃ v, driveT m d os ss = .ok v := by
  rcases driveT_good.1 h with h | ⟨f, h1, h2⟩
  · exact h
  · exact absurd h2 (driveGo_why h1)
theorem byt_rows : (K.rows FK.visit).byt = 24 := rfl
theorem cmake_ok : cmake_vc := by
  unfold cmake_vc
  simp only [bad_false, int0, nilOf, decide_eq_true_eq, decide_eq_false_iff_not, Bool.not_eq_true', Bool.not_eq_false', Bool.not_true, Bool.not_false, Bool.false_eq_true, Bool.true_eq_false, eq_self, true_and, and_true, false_or, or_false, false_implies, true_implies, implies_true, Int.not_lt, Int.not_le, gt_iff_lt, ge_iff_le, ne_eq]
  refine ⟨fun ds _ os _ p _ hmo => ⟨hmo, fun _ => ⟨⟨rfl, rfl⟩, rfl⟩, fun h => by cases h⟩, ?_⟩
  intro m hm ds hd os ho p hp hmo
  have hpl := hp.1.le
  refine ⟨hmo, fun h => by simp [makeP, h, cfauR, certR], fun hw => ?_⟩
  have hR := rightP_iff.1 (wellP_iff.1 hw).2.2.2.1
  have hM : makeP (some m) ds os p = makeGo m ds os 0 p := by simp [makeP, hw]
  rw [hM]
  refine ⟨fun vs i => 0 ≤ i ∧ i ≤ p.length ∧ vs.length ≤ i.toNat ∧ makeGo m ds os 0 p = (match makeGo m ds os i.toNat (p.drop i.toNat) with | .error f => .error f | .ok w => .ok (vs ++ w)), fun _ i => p.length - i.toNat, ⟨by omega, by omega, by simp, ?_⟩, fun vs i hi => ⟨fun h => ?_, fun h => ?_⟩⟩
  · simp only [Int.toNat_zero, List.drop_zero, List.nil_append]
    cases makeGo m ds os 0 p <;> rfl
  · obtain ⟨h0, h1, hL, hI⟩ := hi
    obtain ⟨e1, e2, e3, e4⟩ := ix rz hpl h0 h
    have hrm := getD_mem rz e3
    have h8 := hR.1
    rw [e4] at hI
    rw [e1]; dsimp only; rw [e2]
    obtain ⟨s1, s2⟩ := makeGo_step hI
    change List Route at p
    generalize p.getD i.toNat { driver := 0, served := 0, stops := [] } = r at *
    refine ⟨⟨h0, h⟩, e3, fun q => ?_, fun q => ?_⟩
    · rw [s1 (by simpa using q)]
      exact ⟨⟨by show i = ((i.toNat : Nat) : Int); omega, rfl⟩, rfl⟩
    · obtain ⟨d, hd'⟩ := Option.isSome_iff_exists.1 q
      obtain ⟨t1, t2⟩ := s2 d hd'
      have hwd := well_drive hw hrm (findD_mem hd').1
      rw [hd']
      dsimp only [Option.getD]
      rw [hwd] at t1 t2
      refine ⟨well_timed (hmo m rfl) hw hrm (findD_mem hd').1, fun g => ?_, fun g => ?_⟩
      · obtain ⟨f, hf⟩ := driveT_good.2 g
        rw [t1 f hf, hf]
        exact ⟨⟨by show i = ((i.toNat : Nat) : Int); omega, rfl⟩, rfl⟩
      · obtain ⟨v, hv⟩ := driveT_ok g
        rw [byt_rows, hv]
        refine ⟨by simp only [List.length_cons, List.length_nil]; omega, ⟨by omega, by omega, by simp only [List.length_append, List.length_cons, List.length_nil]; omega, t2 v hv⟩, by omega⟩
  · obtain ⟨h0, h1, hL, hI⟩ := hi
    rw [ixEnd h] at hI
    rw [hI]
    simp [makeGo, cfauR, certR]
theorem cmake_t : Told Try.prog 19 cmake_con := cmake_told (csOk_cons ctog_t (csOk_cons cdriver_t (csOk_cons timed_t (csOk_cons goodF_t csOk_nil)))) cmake_ok
end Go.Eng

/- Plans: plain laws of what is right, and what is kept. -/
set_option linter.unusedVariables false
set_option linter.unusedSimpArgs false
namespace Go.Eng
open Go Go.Proofs
/-- Routes of the same drivers, with the same done. -/
def SimR (r r' : Route) : Prop := r'.driver = r.driver ∧ r'.served = r.served ∧ r'.stops.take r.served.toNat = r.stops.take r.served.toNat
inductive SimL : List Route → List Route → Prop
  | nil : SimL [] []
  | cons {r r' : Route} {l l' : List Route} : SimR r r' → SimL l l' → SimL (r :: l) (r' :: l')
theorem SimL.symm {l l' : List Route} (h : SimL l l') : SimL l' l := by
  induction h with
  | nil => exact .nil
  | cons h _ ih => exact .cons ⟨h.1.symm, h.2.1.symm, by rw [h.2.1]; exact h.2.2.symm⟩ ih
end Go.Eng

/- Certificates looked at: it is so. -/
set_option linter.unusedVariables false
set_option linter.unusedSimpArgs false
namespace Go.Eng
open Go Go.Proofs
end Go.Eng

/- An order's place looked for, in plain words; what the functions tell. -/
set_option linter.unusedVariables false
set_option linter.unusedSimpArgs false
namespace Go.Eng
open Go Go.Proofs
@[reducible] def eLeg : Nat := 119
@[reducible] def eState : Nat := 126
@[reducible] def tMap : Nat := 101
@[reducible] def tSearch : Nat := 124
def legO (o : Order) (drop : Bool) : Leg := if drop then ⟨o.dp, o.df, o.dt, o.ds, wrap (-o.size)⟩ else ⟨o.pp, o.pf, o.pt, o.ps, o.size⟩
def legT (os : List Order) (s : Stop) : Leg := legO (fo os s.order) s.drop
def stepT (m : MapD) (s : State) (l : Leg) : Int := (mtime (some m) s.pos l.pl).1
def stepB (m : MapD) (s : State) (l : Leg) : Int × Bool := begin_ ⟨l.lo, l.hi⟩ (wrap (s.now + stepT m s l))
def stepN (m : MapD) (s : State) (l : Leg) : State := ⟨wrap ((stepB m s l).1 + l.sv), l.pl, wrap (s.load + l.more), wrap (s.way + stepT m s l)⟩
def stepS (m : MapD) (d : Driver) (s : State) (l : Leg) : State × Bool := (stepN m s l, (stepB m s l).2 && decide ((stepN m s l).now ≤ d.hi) && decide ((stepN m s l).load ≤ d.room))
def runS (m : MapD) (d : Driver) : State × Bool → List Leg → State × Bool
  | r, [] => r
  | r, l :: ls => if r.2 then runS m d (stepS m d r.1 l) ls else r
def sz : State := FK.zero .state
def priceR (x : SearchD) (i j : Int) : State × Bool := runS x.m x.d (stepS x.m x.d (x.pre.getD i.toNat sz) x.pick) ((x.legs.drop i.toNat).take (j.toNat - i.toNat) ++ x.drop :: x.legs.drop j.toNat)
def priceS (x : SearchD) (i j : Int) : Int × Bool := (wrap ((priceR x i j).1.way - (x.pre.getD x.legs.length sz).way), (priceR x i j).2 && !x.full)
structure PricePre (x : SearchD) (i j : Int) : Prop where
  map : MapOk x.m
  i : 0 ≤ i ∧ i ≤ j
  j : j ≤ x.legs.length
  pre : x.pre.length = x.legs.length + 1
/-- The open places, one behind the other. -/
def rowP (i : Int) : Nat → Int → List (Int × Int)
  | 0, _ => []
  | k + 1, j => (i, j) :: rowP i k (j + 1)
def pairsP : Nat → Int → List (Int × Int)
  | 0, _ => []
  | k + 1, i => rowP i (k + 1) i ++ pairsP k (i + 1)
def hz : Hunt := ⟨0, 0, 0, 0, false, 0⟩
def huntStep (id : Int) (pr : Int → Int → Int × Bool) (h : Hunt) (p : Int × Int) : Hunt :=
  if (pr p.1 p.2).2 && (!h.found || decide ((pr p.1 p.2).1 < h.cost)) then ⟨id, p.1, p.2, (pr p.1 p.2).1, true, h.steps + 1⟩ else ⟨h.driver, h.pick, h.drop, h.cost, h.found, h.steps + 1⟩
def huntGo (id : Int) (pr : Int → Int → Int × Bool) (b : Int) : List (Int × Int) → Hunt → Hunt
  | [], h => h
  | p :: l, h => if b ≤ h.steps then h else huntGo id pr b l (huntStep id pr h p)
def places_ (served : Int) (n : Nat) : List (Int × Int) := pairsP ((n : Int) + 1 - served).toNat served
def bestS (x : SearchD) (served b : Int) : Hunt := huntGo x.d.id (priceS x) b (places_ served x.legs.length) hz
structure BestPre (x : SearchD) (served : Int) : Prop where
  map : MapOk x.m
  served : 0 ≤ served
  few : x.legs.length ≤ 1000
  pre : x.pre.length = x.legs.length + 1
def preGo (m : MapD) (d : Driver) (os : List Order) : State → List Stop → List State
  | _, [] => []
  | s, t :: l => stepN m s (legT os t) :: preGo m d os (stepN m s (legT os t)) l
def start (d : Driver) : State := ⟨d.lo, d.home, 0, 0⟩
def mkS (m : MapD) (d : Driver) (os : List Order) (ss : List Stop) (o : Order) : SearchD :=
  ⟨m, d, ss.map (legT os), start d :: preGo m d os (start d) ss, legO o false, legO o true, decide (40 ≤ (os.length : Int))⟩
def askedP (m : Option MapD) (os : List Order) (o : Order) (b : Int) : Bool := decide (orderE m o = 0) && !(findO os o.id).isSome && decide (0 ≤ b) && decide (b ≤ 100000)
/-- What bars the looking on a route. -/
def barP (m : Option MapD) (d : Driver) (os : List Order) (r : Route) (o : Order) (b : Int) : Int :=
  if !askedP m os o b || decide (r.driver ≠ d.id) || decide (r.served < 0) || decide ((r.stops.length : Int) < r.served) then 1
  else if !good (fauR (drive m d os r.stops)) then 1 else if d.retired then 23 else if 78 < (r.stops.length : Int) then 10 else 0
def tellH (h : Hunt) : Hunt × Int := if h.found then (h, 0) else (⟨0, 0, 0, 0, false, h.steps⟩, 20)
def bestP (m : Option MapD) (d : Driver) (os : List Order) (r : Route) (o : Order) (b : Int) : Hunt × Int :=
  if barP m d os r o b ≠ 0 then (hz, barP m d os r o b) else match m with
    | none => (hz, 1)
    | some x => tellH (bestS (mkS x d os r.stops o) r.served b)
def hspot (h : Hunt) : Spot := ⟨h.driver, h.pick, h.drop, h.cost⟩
def huntR (h : Hunt × Int) : List AV := [.r (SK.enc (.f .spot) (hspot h.1)), .c (.i h.1.steps), .c (.i h.2)]
/-- The best of two. -/
def huntJoin (h g : Hunt) : Hunt := if g.found && (!h.found || decide (g.cost < h.cost)) then ⟨g.driver, g.pick, g.drop, g.cost, true, h.steps + g.steps⟩ else ⟨h.driver, h.pick, h.drop, h.cost, h.found, h.steps + g.steps⟩
def fdD (ds : List Driver) (id : Int) : Driver := (findD id ds).getD (FK.zero .driver)
def closedTo (d : Driver) (r : Route) : Bool := d.retired || decide (78 < (r.stops.length : Int))
def lookGo (m : MapD) (ds : List Driver) (os : List Order) (o : Order) (b : Int) : List Route → Hunt → Hunt
  | [], h => h
  | r :: l, h => if closedTo (fdD ds r.driver) r then lookGo m ds os o b l h
    else lookGo m ds os o b l (huntJoin h (bestS (mkS m (fdD ds r.driver) os r.stops o) r.served (b - h.steps)))
def lookP (m : Option MapD) (ds : List Driver) (os : List Order) (p : List Route) (o : Order) (b : Int) : Hunt := match m with
  | none => hz
  | some x => lookGo x ds os o b p hz
structure LookPre (m : Option MapD) (p : List Route) (b : Int) : Prop where
  is : m.isSome = true
  map : ∀ x, m = some x → MapOk x
  b : 0 ≤ b ∧ b ≤ 100000
  few : p.length ≤ 1000
  served : ∀ r ∈ p, 0 ≤ r.served
noncomputable def cheapP (m : Option MapD) (ds : List Driver) (os : List Order) (p : List Route) (o : Order) (b : Int) : Hunt × Int :=
  if good (cfauR (makeP m ds os p)) && askedP m os o b then tellH (lookP m ds os p o b) else (hz, 1)
/-! ### The document's own -/
def alongPr (m : MapD) (d : Driver) (os : List Order) (ss : List Stop) (o : Order) (i j : Int) : Int × Bool :=
  (wrap ((cost (some m) d (os ++ [o]) (putS ss o.id i j)).1 - (cost (some m) d os ss).1), (cost (some m) d (os ++ [o]) (putS ss o.id i j)).2)
def alongP (m : MapD) (d : Driver) (os : List Order) (r : Route) (o : Order) (b : Int) (h : Hunt) : Hunt := huntGo d.id (alongPr m d os r.stops o) b (places_ r.served r.stops.length) h
structure AlongPre (m : MapD) (os : List Order) (r : Route) (h : Hunt) : Prop where
  map : MapOk m
  orders : os.length ≤ 1000
  served : 0 ≤ r.served
  few : r.stops.length ≤ 1000
  steps : 0 ≤ h.steps ∧ h.steps ≤ 100000000
def rBestP (m : Option MapD) (d : Driver) (os : List Order) (r : Route) (o : Order) (b : Int) : Hunt × Int :=
  if barP m d os r o b ≠ 0 then (hz, barP m d os r o b) else match m with
    | none => (hz, 1)
    | some x => tellH (alongP x d os r o b hz)
/-! ### Contracts -/
def legOf_con : Con := ⟨[.r (.f .order), .c .b], fun o b => one [.r (SK.enc (.f .leg) (legO o b))]⟩
def legOf_cs : Cons := []
def legOf_la : List (Nat × LA) := []
def step_con : Con := ⟨[.p (.search tMap) tSearch, .r (.f .state), .r (.f .leg)], fun x s l => ⟨some (MapOk x.m), [⟨none, [.r (SK.enc (.f .state) (stepS x.m x.d s l).1), .c (.b (stepS x.m x.d s l).2)]⟩]⟩⟩
def step_cs : Cons := [(58, time_con), (63, begin_con)]
def step_la : List (Nat × LA) := []
def price_con : Con := ⟨[.p (.search tMap) tSearch, .c .i, .c .i], fun x i j => ⟨some (PricePre x i j), [⟨none, [.c (.i (priceS x i j).1), .c (.b (priceS x i j).2)]⟩]⟩⟩
def price_cs : Cons := [(55, step_con)]
def price_la : List (Nat × LA) := [(3, ⟨[0, 2, 8], [.b 9, .i 10, .ci 8 0, .ci 8 1, .ci 8 2, .ci 8 3]⟩), (9, ⟨[0, 8], [.b 9, .i 11, .ci 8 0, .ci 8 1, .ci 8 2, .ci 8 3]⟩), (1000006, ⟨[0, 2, 8], [.b 9, .ci 8 0, .ci 8 1, .ci 8 2, .ci 8 3]⟩), (1000008, ⟨[0, 2, 8], [.b 9, .ci 8 0, .ci 8 1, .ci 8 2, .ci 8 3]⟩)]
def sbest_con : Con := ⟨[.p (.search tMap) tSearch, .c .i, .c .i], fun x s b => ⟨some (BestPre x s), [⟨none, [.r (SK.enc (.f .spot) (hspot (bestS x s b))), .c (.i (bestS x s b).steps), .c (.b (bestS x s b).found)]⟩]⟩⟩
def sbest_cs : Cons := [(56, price_con)]
def sbest_la : List (Nat × LA) := [(5, ⟨[0, 2, 6, 9, 12], [.i 10, .b 11, .i 13, .ci 9 0, .ci 9 1, .ci 9 2, .ci 9 3]⟩), (8, ⟨[0, 2, 6, 9, 12, 13], [.i 10, .b 11, .i 14, .ci 9 0, .ci 9 1, .ci 9 2, .ci 9 3]⟩)]
def made_con : Con := ⟨[.p .map tMap, .r (.f .driver), .c (.a (.f .order)), .c (.a (.f .stop)), .r (.f .order)], fun m d os ss o => ⟨some (MapOk m ∧ ss.length ≤ 1000),
  [⟨none, [.p true tSearch [.al 0, .i d.id, .i d.room, .i d.home, .i d.lo, .i d.hi, .b d.retired, .o .leg eLeg (mkS m d os ss o).legs, .o .state eState (mkS m d os ss o).pre, .i (legO o false).pl, .i (legO o false).lo, .i (legO o false).hi, .i (legO o false).sv, .i (legO o false).more,
    .i (legO o true).pl, .i (legO o true).lo, .i (legO o true).hi, .i (legO o true).sv, .i (legO o true).more, .b (mkS m d os ss o).full]]⟩]⟩⟩
def made_cs : Cons := [(54, legOf_con), (34, find_con), (55, step_con)]
def made_la : List (Nat × LA) := [(5, ⟨[2, 11, 12, 45, 46], [.i 47, .capp 11 7 .leg eLeg, .capp 11 8 .state eState, .ci 12 0, .ci 12 1, .ci 12 2, .ci 12 3]⟩)]
def asked_con : Con := ⟨[.q .map tMap, .c (.a (.f .order)), .r (.f .order), .c .i], fun m os o b => ⟨some (MapOkO m), [⟨none, [.c (.b (askedP m os o b))]⟩]⟩⟩
def asked_cs : Cons := [(34, find_con), (52, order_con)]
def asked_la : List (Nat × LA) := []
def ibest_con : Con := ⟨[.q .map tMap, .r (.f .driver), .c (.a (.f .order)), .r .route, .r (.f .order), .c .i], fun m d os r o b => ⟨some (MapOkO m), [⟨none, huntR (bestP m d os r o b)⟩]⟩⟩
def ibest_cs : Cons := [(29, asked_con), (30, drive_con), (20, good_con), (31, made_con), (32, sbest_con)]
def ibest_la : List (Nat × LA) := []
def look_con : Con := ⟨[.q .map tMap, .c (.a (.f .driver)), .c (.a (.f .order)), .c (.a .route), .r (.f .order), .c .i], fun m ds os p o b => ⟨some (LookPre m p b), [⟨none, huntR (tellH (lookP m ds os p o b))⟩]⟩⟩
def look_cs : Cons := [(40, cdriver_con), (31, made_con), (32, sbest_con)]
def look_la : List (Nat × LA) := [(4, ⟨[0, 1, 2, 5, 10, 12, 15, 25, 26], [.i 16, .b 17, .i 27, .ci 15 0, .ci 15 1, .ci 15 2, .ci 15 3]⟩)]
noncomputable def cheap_con : Con := ⟨[.q .map tMap, .c (.a (.f .driver)), .c (.a (.f .order)), .c (.a .route), .r (.f .order), .c .i], fun m ds os p o b => ⟨some (MapOkO m), [⟨none, huntR (cheapP m ds os p o b)⟩]⟩⟩
noncomputable def cheap_cs : Cons := [(19, cmake_con), (20, good_con), (29, asked_con), (35, look_con)]
def cheap_la : List (Nat × LA) := []
end Go.Eng

/- The conditions of functions, as print.. of the engine told them. -/
set_option linter.unusedVariables false
namespace Go.Eng
open Go Go.Proofs
end Go.Eng
