/- The engine: ESound, ESound2, ESound3, EMap, ESound4, ESound5, ESound6, EDeep, ESound7, ESound8. -/
import Derived.Test.YtidneanbjijjjaaEMem
import Derived.Laws.CopyRow
import Derived.Laws.Rows
import Derived.Laws.Entries
import Derived.Laws.MakeOwn
import Derived.Maps.AppendAt
import Derived.Laws.IdiomRangeMap
import Derived.ChangeKeysEq
import Derived.Laws.StructEq
import Derived.MapKept
import Derived.Carry
import Derived.WalkArith
import Derived.WalkLawsBesides
/- The evaluation of one operation is sound: first what makes no memory and variables of structs. -/
set_option linter.unusedVariables false
set_option linter.unusedSimpArgs false
namespace Go.Eng
open Go Go.RowKit

/-! ### The table of types -/
def plainD : TypeDesc → Bool
  | .struct _ | .array _ _ => false
  | _ => true
def scz : SC → Value → Bool
  | .i n, .int .i64 m => decide (n = m)
  | .b x, .bool y => x == y
  | .l x, .bool y => x == y
  | .nls, .slice none 0 0 => true
  | .nlp, .pointer none => true
  | _, _ => false
def cvz : CV → Value → Bool
  | .i n, .int .i64 m => decide (n = m)
  | .b x, .bool y => x == y
  | .sl _ [], .slice none 0 0 => true
  | _, _ => false
def all2 {α β : Type} (p : α → β → Bool) : List α → List β → Bool
  | [], [] => true
  | a :: l, b :: m => p a b && all2 p l m
  | _, _ => false
def elChk (P : Program) (e : Nat) (k : K) : Bool := match P.info? e with
  | some i => decide (i.size = k.size) && decide (i.bytes ≤ k.byt) && (match i.zero with | some z => all2 cvz (k.enc k.zero) z.cells.toList | none => false)
  | none => false
def kindD : SC → TypeDesc → Bool
  | .i _, .int .i64 => true
  | .l _, .bool => true
  | .nlp, .pointer _ => true
  | .nls, .slice _ => true
  | _, _ => false
def fdChk (P : Program) (eq : Bool) (fd : FD) (f : Field) : Bool := match P.info? f.type, P.underlying f.type with
  | some i, some d => decide (f.offset = fd.off) && decide (f.type = fd.ty) && decide (i.size = fd.size) && decide (0 < fd.size) && ((!plainD d) == fd.agg) && (!eq || decide (f.name ≠ "_"))
  | _, _ => false
def scChk (P : Program) (t : Nat) (k : Option (K × Nat)) (z : SC) : Bool := match P.info? t, P.underlying t with
    | some i, some d => decide (i.size = 1) && plainD d && (match i.zero with | some v => scz z v | none => false) && kindD z d &&
      (match k with | none => true | some (k, e) => (match d with | .slice e' => decide (e' = e) | _ => false) && elChk P e k)
    | _, _ => false
def stChk (P : Program) (t n : Nat) (fs : List FD) (z : List SC) (eq : Bool) : Bool := match P.info? t, P.underlying t with
    | some i, some (.struct F) => decide (i.size = n) && (match i.zero with | some (.agg v) => all2 scz z v.toList | _ => false) && decide (z.length = n) && all2 (fdChk P eq) fs F.toList &&
      (!eq || (!P.stoodInHeld t && !P.eqGuardType P.depth t))
    | _, _ => false
def mpChk (P : Program) (t : Nat) (k : MK) (kt et t0 t1 : Nat) : Bool := (match P.underlying t with | some (.map a b) => decide (a = kt) && decide (b = et) | _ => false) && scChk P et none (.i 0) &&
  (match k with | .int => scChk P kt none (.i 0) | .stop => stChk P kt 2 [⟨0, 1, false, t0⟩, ⟨1, 1, false, t1⟩] [.i 0, .l false] true && scChk P t0 none (.i 0) && scChk P t1 none (.l false))
def arChk (P : Program) (t n e : Nat) : Bool := match P.underlying t, P.info? e with
  | some (.array m a), some i => decide (m = n) && decide (a = e) && decide (i.size = 1)
  | _, _ => false
def tdChk (P : Program) (t : Nat) : TD → Bool
  | .mp k kt et t0 t1 => mpChk P t k kt et t0 t1
  | .ar n e => arChk P t n e
  | .sc k z => scChk P t k z
  | .st n fs z eq => stChk P t n fs z eq
def TabOk (P : Program) (T : Tab) : Prop := ∀ t td, look T t = some td → tdChk P t td = true
theorem tabOk_of {P : Program} {T : Tab} (h : T.all (fun x => tdChk P x.1 x.2) = true) : TabOk P T := by
  induction T with
  | nil => intro t td h; cases h
  | cons x l ih =>
    obtain ⟨a, d⟩ := x
    simp only [List.all_cons, Bool.and_eq_true] at h
    intro t td ht
    rw [look_cons] at ht
    split at ht
    · rename_i e
      subst e
      injection ht with ht
      subst ht
      exact h.1
    · exact ih h.2 t td ht

theorem scz_den {ρ : Nat → Value} {z : SC} {v : Value} (h : scz z v = true) : DenC ρ z v := by
  unfold scz at h
  split at h <;> simp_all [DenC]
theorem scz_wf {z : SC} {v : Value} (h : scz z v = true) (U : Nat → Prop) : z.wf U := by
  unfold scz at h
  split at h <;> simp_all [SC.wf, SC.ids]
theorem scz_one {z : SC} {v : Value} (h : scz z v = true) : v.oneCell' = true ∧ v.cells = #[v] := by
  unfold scz at h
  split at h <;> simp_all [Value.oneCell', Value.cells]
theorem all2_length {α β : Type} {p : α → β → Bool} : ∀ {l : List α} {m : List β}, all2 p l m = true → l.length = m.length
  | [], [], _ => rfl
  | a :: l, b :: m, h => by simp only [all2, Bool.and_eq_true] at h; simp [all2_length h.2]
theorem all2_get {α β : Type} {p : α → β → Bool} : ∀ {l : List α} {m : List β}, all2 p l m = true → ∀ (j : Nat) (a : α), l[j]? = some a → ∃ b, m[j]? = some b ∧ p a b = true
  | a :: l, b :: m, h, 0, x, hx => by
    simp only [all2, Bool.and_eq_true] at h
    simp at hx; subst hx
    exact ⟨b, rfl, h.1⟩
  | a :: l, b :: m, h, j + 1, x, hx => by
    simp only [all2, Bool.and_eq_true] at h
    simp at hx
    exact all2_get h.2 j x hx
  | [], [], _, j, x, hx => by simp at hx

section
variable {P : Program} {T : Tab}
theorem td_sc {t : Nat} {k : Option (K × Nat)} {z : SC} (hT : TabOk P T) (h : look T t = some (.sc k z)) :
    ∃ i d v, P.info? t = some i ∧ i.size = 1 ∧ P.underlying t = some d ∧ plainD d = true ∧ i.zero = some v ∧ scz z v = true ∧ kindD z d = true ∧ ∀ k' e, k = some (k', e) → d = .slice e ∧ elChk P e k' = true := by
  have h1 : scChk P t k z = true := hT t _ h
  unfold scChk at h1
  split at h1
  · rename_i i d hi hd
    simp only [Bool.and_eq_true, decide_eq_true_eq] at h1
    obtain ⟨⟨⟨⟨h2, h3⟩, h4⟩, h5⟩, h6⟩ := h1
    split at h4
    · rename_i v hv
      refine ⟨i, d, v, hi, h2, hd, h3, hv, h4, h5, ?_⟩
      rintro k' e rfl
      simp only [Bool.and_eq_true] at h6
      obtain ⟨h7, h8⟩ := h6
      split at h7
      · simp at h7; subst h7; exact ⟨rfl, h8⟩
      · cases h7
    · cases h4
  · cases h1
theorem td_st {t n : Nat} {fs : List FD} {z : List SC} {eq : Bool} (hT : TabOk P T) (h : look T t = some (.st n fs z eq)) :
    ∃ i F v, P.info? t = some i ∧ P.underlying t = some (.struct F) ∧ i.size = n ∧ i.zero = some (.agg v) ∧ all2 scz z v.toList = true ∧ z.length = n ∧ all2 (fdChk P eq) fs F.toList = true ∧
      (eq = true → P.stoodInHeld t = false ∧ P.eqGuardType P.depth t = false) := by
  have h1 : stChk P t n fs z eq = true := hT t _ h
  unfold stChk at h1
  split at h1
  · rename_i i F hi hd
    simp only [Bool.and_eq_true, decide_eq_true_eq] at h1
    obtain ⟨⟨⟨⟨h2, h3⟩, h4⟩, h5⟩, h6⟩ := h1
    split at h3
    · rename_i v hv
      refine ⟨i, F, v, hi, hd, h2, hv, h3, h4, h5, ?_⟩
      rintro rfl
      simpa using h6
    · cases h3
  · cases h1
end

/-! ### What an operation comes to -/
def applyD (H : Nat → HB) : List (Nat × HB) → Nat → HB
  | [] => H
  | (i, x) :: l => applyD (upd H i x) l
def U' (U : Nat → Prop) (n n' : Nat) : Nat → Prop := fun y => U y ∨ (n ≤ y ∧ y < n')
def Fine (B : Nat) (w0 : Base) (ρ : Nat → Value) (U : Nat → Prop) (H : Nat → HB) (r : Result Next) (v : SV) (d : List (Nat × HB)) (n n' : Nat) : Prop :=
  ∃ u w' ρ' φ', (r = .ok (.value u) w' ∨ (r = .ok .skip w' ∧ u = undef)) ∧ Mem B w0 ρ' φ' (U' U n n') (applyD H d) w' ∧ (∀ x, U x → ρ' x = ρ x) ∧ DenV ρ' v u ∧ v.wf (U' U n n')
theorem Mem.mono {B : Nat} {w0 : Base} {w : World} {ρ : Nat → Value} {φ : Nat → Nat → Prop} {U V : Nat → Prop} {H : Nat → HB} (h : Mem B w0 ρ φ U H w) (hU : ∀ x, U x → V x) : Mem B w0 ρ φ V H w :=
  ⟨h.base, h.below, fun id hl => hU _ (h.used id hl), fun id => (h.wf id).mono hU, h.holds, h.lt, h.low, h.apart, h.foot⟩
theorem U'_self {U : Nat → Prop} {n : Nat} {x : Nat} (h : U x) : U' U n n x := .inl h

section
variable {P : Program} {T : Tab} {B : Nat} {w0 : Base} {w : World} {ρ : Nat → Value} {φ : Nat → Nat → Prop} {U : Nat → Prop} {H : Nat → HB} {n : Nat}

theorem fine_same {r : Result Next} {v : SV} {u : Value} (hm : Mem B w0 ρ φ U H w) (hr : r = .ok (.value u) w) (hd : DenV ρ v u) (hw : v.wf U) : Fine B w0 ρ U H r v [] n n :=
  ⟨u, w, ρ, φ, .inl hr, hm.mono fun _ h => .inl h, fun _ _ => rfl, hd, hw.mono fun _ h => .inl h⟩

theorem den_i {s : Int} {v : Value} (h : DenV ρ (.w (.c (.i s))) v) : v = .int .i64 s := h
theorem den_l {s : Bool} {v : Value} (h : DenV ρ (.w (.c (.l s))) v) : v = .bool s := h
theorem den_b {s : Bool} {v : Value} (h : DenV ρ (.w (.c (.b s))) v) : v = .bool s := h

theorem alloc_row (cs : Array Value) (t : Nat) (b : Nat) (h : b < w.heap.size) : (w.alloc (.cells cs t)).heap[b]? = w.heap[b]? := Below.heap_alloc w _ b h

/-- A new variable. -/
theorem fine_var {t : Nat} {l : List SC} {cs : Array Value} {r : Result Next} (hm : Mem B w0 ρ φ U H w) (hn : ¬ U n) (hl : DenL ρ l cs) (hw : ∀ c ∈ l, c.wf U)
    (hr : r = .ok (.value (.pointer (some ⟨w.heap.size, 0, none⟩))) (w.alloc (.cells cs t))) : Fine B w0 ρ U H r (.w (.c (.p n 0))) [(n, .cells true t l)] n (n + 1) := by
  have hH : (H n).live = false := by
    cases hh : (H n).live
    · rfl
    · exact absurd (hm.used n hh) hn
  have hp := hm.put (w' := w.alloc (.cells cs t)) n (.cells true t l) (.pointer (some ⟨w.heap.size, 0, none⟩)) (fun b => b = w.heap.size) (fun h => absurd h hn)
    (fun b hb _ => alloc_row cs t b hb) rfl rfl rfl (by simp)
    (fun c hc => (hw c hc).mono fun _ h => .inl h)
    ⟨w.heap.size, cs, rfl, rfl, heap_alloc_new w _, hl.anchors hw fun x hx => upd_ne _ _ (by rintro rfl; exact hn hx)⟩
    (fun _ b hb => by subst hb; simp)
    (fun b hb => .inl (by omega))
  refine ⟨_, _, _, _, .inl hr, hp.mono fun x hx => ?_, fun x hx => upd_ne _ _ (by rintro rfl; exact hn hx), ⟨w.heap.size, upd_same _ _ _, rfl⟩, ?_⟩
  · rcases hx with hx | rfl
    · exact .inl hx
    · exact .inr ⟨Nat.le_refl _, Nat.lt_succ_self _⟩
  · intro x hx
    simp only [SC.ids] at hx
    subst hx
    exact .inr ⟨Nat.le_refl _, Nat.lt_succ_self _⟩

theorem run_isAgg_sc {t : Nat} {d : TypeDesc} (h : P.underlying t = some d) (hd : plainD d = true) (w : World) : (isAgg t).run P w = .ok false w := by
  unfold isAgg
  simp only [Sem.run_bind, run_underlying h, Result.andThen_ok]
  cases d <;> simp_all [plainD]
theorem run_isAgg_st {t : Nat} {F : Array Field} (h : P.underlying t = some (.struct F)) (w : World) : (isAgg t).run P w = .ok true w := by
  unfold isAgg
  simp [run_underlying h]
theorem run_sizeOf' {t : Nat} {i : TypeInfo} (h : P.info? t = some i) (w : World) : (sizeOf t).run P w = .ok i.size w := by
  simp [sizeOf, typeInfo, h]
theorem run_zero {t : Nat} {i : TypeInfo} {v : Value} (h : P.info? t = some i) (hz : i.zero = some v) (w : World) : (zeroValue t).run P w = .ok v w := by
  simp [zeroValue, typeInfo, h, hz]

theorem fine_alloc_sc {t : Nat} {k : Option (K × Nat)} {z : SC} (hT : TabOk P T) (ht : look T t = some (.sc k z)) (hm : Mem B w0 ρ φ U H w) (hn : ¬ U n) (ev : Operand → Value) (dst) (ty) (pos) (af) (gd) :
    Fine B w0 ρ U H ((execOp ev ⟨dst, .alloc t, ty, pos, af, gd⟩).run P w) (.w (.c (.p n 0))) [(n, .cells true t [z])] n (n + 1) := by
  obtain ⟨i, d, v, hi, hs, hu, hp, hz, hsz, _⟩ := td_sc hT ht
  obtain ⟨h1, h2⟩ := scz_one hsz
  refine fine_var hm hn (cs := v.cells) ⟨by rw [h2]; rfl, fun j c hc => ?_⟩ (fun c hc => ?_) ?_
  · match j, hc with
    | 0, hc =>
      simp at hc; subst hc
      exact ⟨v, by rw [h2]; rfl, scz_den hsz⟩
    | j + 1, hc => simp at hc
  · simp at hc; subst hc; exact scz_wf hsz U
  · simp [execOp, Instr.alloc, run_zero hi hz, newVar, newRow]
theorem fine_alloc_st {t m : Nat} {fs : List FD} {z : List SC} {eq : Bool} (hT : TabOk P T) (ht : look T t = some (.st m fs z eq)) (hm : Mem B w0 ρ φ U H w) (hn : ¬ U n) (ev : Operand → Value) (dst) (ty) (pos) (af) (gd) :
    Fine B w0 ρ U H ((execOp ev ⟨dst, .alloc t, ty, pos, af, gd⟩).run P w) (.w (.c (.p n 0))) [(n, .cells true t z)] n (n + 1) := by
  obtain ⟨i, F, v, hi, hu, hs, hz, hv, hl, _⟩ := td_st hT ht
  refine fine_var hm hn (cs := v) ⟨by rw [← Array.length_toList, ← all2_length hv], fun j c hc => ?_⟩ (fun c hc => ?_) ?_
  · obtain ⟨b, hb, hp⟩ := all2_get hv j c hc
    exact ⟨b, by simpa using hb, scz_den hp⟩
  · obtain ⟨j, hj⟩ := List.getElem?_of_mem hc
    obtain ⟨b, hb, hp⟩ := all2_get hv j c hj
    exact scz_wf hp U
  · simp [execOp, Instr.alloc, run_zero hi hz, newVar, newRow, Value.cells]
theorem DenC.one {ρ : Nat → Value} {c : SC} {v : Value} (h : DenC ρ c v) (hk : c.known = true) : v.oneCell' = true ∧ v.cells = #[v] := by
  cases c <;> simp only [DenC, SC.known] at h hk <;> first
    | (cases hk; done)
    | (subst h; exact ⟨rfl, rfl⟩)
    | (obtain ⟨_, _, rfl⟩ := h; exact ⟨rfl, rfl⟩)
    | (obtain ⟨_, _, _, _, rfl⟩ := h; exact ⟨rfl, rfl⟩)
    | (obtain ⟨_, _, _, _, rfl⟩ := h; exact ⟨rfl, rfl⟩)
    | (obtain ⟨_, _, _, _, _, _, rfl, _⟩ := h; exact ⟨rfl, rfl⟩)
    | (obtain ⟨_, _, _, rfl, _⟩ := h; exact ⟨rfl, rfl⟩)
theorem known_mem {l : List SC} (h : known l = true) : ∀ c ∈ l, c.known = true := by
  induction l with
  | nil => intro c hc; cases hc
  | cons a l ih =>
    unfold known at h
    split at h
    · rename_i ha
      intro c hc
      rcases List.mem_cons.1 hc with rfl | hc
      · exact ha
      · exact ih h c hc
    · cases h
theorem SW.denL {ρ : Nat → Value} {s : SW} {v : Value} (h : DenW ρ s v) (hk : known s.cells = true) : DenL ρ s.cells v.cells := by
  cases s with
  | c x =>
    have hx : x.known = true := known_mem hk x (by simp [SW.cells])
    obtain ⟨_, h2⟩ := DenC.one h hx
    refine ⟨by rw [h2]; rfl, fun j c hc => ?_⟩
    match j, hc with
    | 0, hc =>
      simp [SW.cells] at hc; subst hc
      exact ⟨v, by rw [h2]; rfl, h⟩
    | j + 1, hc => simp [SW.cells] at hc
  | g l =>
    obtain ⟨vs, rfl, hl⟩ := h
    exact hl
theorem DenL.one {ρ : Nat → Value} {l : List SC} {vs : Array Value} (h : DenL ρ l vs) (hk : known l = true) : ∀ v ∈ vs.toList, v.oneCell' = true := by
  intro v hv
  obtain ⟨j, hj⟩ := List.getElem?_of_mem hv
  have hlt : j < vs.size := by
    have := (List.getElem?_eq_some_iff.1 hj).1
    simpa using this
  have hl : j < l.length := by rw [← h.1]; exact hlt
  obtain ⟨u, hu, hd⟩ := h.2 j _ (List.getElem?_eq_getElem hl)
  have : u = v := by
    rw [Array.getElem?_toList] at hj
    exact Option.some.inj (hu.symm.trans hj)
  subst this
  exact (hd.one (known_mem hk _ (List.getElem_mem hl))).1
theorem fine_box {t : Nat} {s : SW} {x : Operand} (ev : Operand → Value) (hm : Mem B w0 ρ φ U H w) (hn : ¬ U n) (hd : DenW ρ s (ev x)) (hw : s.wf U) (hk : known s.cells = true) (dst) (ty) (pos) (af) (gd) :
    Fine B w0 ρ U H ((execOp ev ⟨dst, .box t x, ty, pos, af, gd⟩).run P w) (.w (.c (.p n 0))) [(n, .cells true t s.cells)] n (n + 1) := by
  refine fine_var hm hn (SW.denL hd hk) (fun c hc => ?_) ?_
  · cases s with
    | c x => simp [SW.cells] at hc; subst hc; exact hw
    | g l => exact hw c hc
  · simp [execOp, Instr.box, newVar, newRow]
end
end Go.Eng

/- The evaluation of one operation is sound: reading and writing variables of structs, records, numbers. -/
set_option linter.unusedVariables false
set_option linter.unusedSimpArgs false
namespace Go.Eng
open Go Go.RowKit

theorem tk_eq {α : Type} (n : Nat) (l : List α) : tk n l = l.take n := by
  induction n generalizing l with
  | zero => cases l <;> rfl
  | succ n ih => cases l <;> simp [tk_nil, tk_succ, ih]
theorem dr_eq {α : Type} (n : Nat) (l : List α) : dr n l = l.drop n := by
  induction n generalizing l with
  | zero => cases l <;> rfl
  | succ n ih => cases l <;> simp [dr_nil, dr_succ, ih]
theorem splice_eq {α : Type} (l : List α) (off : Nat) (xs : List α) : splice l off xs = l.take off ++ (xs ++ l.drop (off + xs.length)) := by
  simp [splice, app_eq, tk_eq, dr_eq, len_eq]
theorem splice_length {α : Type} {l : List α} {off : Nat} {xs : List α} (h : off + xs.length ≤ l.length) : (splice l off xs).length = l.length := by
  rw [splice_eq]; simp; omega
theorem splice_get {α : Type} {l : List α} {off : Nat} {xs : List α} (h : off + xs.length ≤ l.length) (j : Nat) :
    (splice l off xs)[j]? = if off ≤ j ∧ j < off + xs.length then xs[j - off]? else l[j]? := by
  rw [splice_eq]
  by_cases h1 : j < off
  · rw [List.getElem?_append_left (by simp; omega), if_neg (by omega), List.getElem?_take, if_pos h1]
  · rw [List.getElem?_append_right (by simp; omega)]
    have : (l.take off).length = off := by simp; omega
    rw [this]
    by_cases h2 : j < off + xs.length
    · rw [if_pos (by omega), List.getElem?_append_left (by omega)]
    · rw [if_neg (by omega), List.getElem?_append_right (by omega), List.getElem?_drop]
      congr 1; omega

section
variable {P : Program} {T : Tab} {B : Nat} {w0 : Base} {w : World} {ρ : Nat → Value} {φ : Nat → Nat → Prop} {U : Nat → Prop} {H : Nat → HB} {n : Nat}

theorem DenL.take_drop {ρ : Nat → Value} {l : List SC} {vs : Array Value} {off m : Nat} (h : DenL ρ l vs) (hl : off + m ≤ l.length) : DenL ρ (tk m (dr off l)) (vs.extract off (off + m)) := by
  have hs := h.1
  refine ⟨by simp [tk_eq, dr_eq]; omega, fun j c hc => ?_⟩
  rw [tk_eq, dr_eq, List.getElem?_take] at hc
  split at hc
  · rw [List.getElem?_drop] at hc
    obtain ⟨v, hv, hd⟩ := h.2 _ c hc
    refine ⟨v, ?_, hd⟩
    rw [Array.getElem?_extract]
    rw [if_pos (by omega)]
    exact hv
  · cases hc

/-- The cells of a variable. -/
theorem mem_cells {id ty : Nat} {l : List SC} {o : Bool} (hm : Mem B w0 ρ φ U H w) (h : H id = .cells o ty l) : ∃ g cs, ρ id = .pointer (some ⟨g, 0, none⟩) ∧ φ id g ∧ w.heap[g]? = some (.cells cs ty (0, 0)) ∧ DenL ρ l cs := by
  have := hm.holds id
  rw [h] at this
  exact this
theorem den_p {id off g : Nat} {v : Value} (h : DenV ρ (.w (.c (.p id off))) v) (hg : ρ id = .pointer (some ⟨g, 0, none⟩)) : v = .pointer (some ⟨g, off, none⟩) := by
  obtain ⟨g', h1, h2⟩ := h
  rw [hg] at h1
  injection h1 with h1
  injection h1 with h1
  injection h1 with h1
  subst h1
  exact h2
theorem wf_cells {id ty : Nat} {l : List SC} {o : Bool} (hm : Mem B w0 ρ φ U H w) (h : H id = .cells o ty l) : ∀ c ∈ l, c.wf U := by
  have := hm.wf id
  rw [h] at this
  exact this
theorem nth_mem {l : List SC} {off : Nat} (h : off < l.length) : nth .u l off ∈ l := by
  rw [nth_eq, List.getD_eq_getElem?_getD, List.getElem?_eq_getElem h]
  exact List.getElem_mem h

theorem plain_addr (g i j : Nat) : (⟨g, i, none⟩ : Addr).add j = ⟨g, i + j, none⟩ := by unfold Addr.add; split <;> simp_all

theorem fine_load_sc {o : Bool} {t id off ty : Nat} {l : List SC} {k : Option (K × Nat)} {z : SC} {x : Operand} {ev : Operand → Value} (hT : TabOk P T) (ht : look T t = some (.sc k z)) (hm : Mem B w0 ρ φ U H w) (hH : H id = .cells o ty l) (ho : off < l.length)
    (hd : DenV ρ (.w (.c (.p id off))) (ev x)) (dst) (tt) (pos) (af) (gd) : Fine B w0 ρ U H ((execOp ev ⟨dst, .load t x, tt, pos, af, gd⟩).run P w) (.w (.c (nth .u l off))) [] n n := by
  obtain ⟨g, cs, hg, hφ, hh, hl⟩ := mem_cells hm hH
  obtain ⟨i, d, v, hi, hs, hu, hp, _⟩ := td_sc hT ht
  have hv := den_p hd hg
  have hc : l[off]? = some (nth .u l off) := by rw [nth_eq, List.getD_eq_getElem?_getD, List.getElem?_eq_getElem ho]; rfl
  obtain ⟨u, hu', hdu⟩ := hl.2 off _ hc
  refine fine_same hm (u := u) ?_ hdu (wf_cells hm hH _ (nth_mem ho))
  have hcell : w.cell? ⟨g, off, none⟩ = some u := by rw [cell_of_row w g off cs ty (0, 0) hh]; exact hu'
  simp [execOp, hv, Instr.loadAt, Instr.sureAddr, loadVar, run_isAgg_sc hu hp, hcell]
theorem fine_load_st {o : Bool} {t id off ty m : Nat} {l : List SC} {fs : List FD} {z : List SC} {eq : Bool} {x : Operand} {ev : Operand → Value} (hT : TabOk P T) (ht : look T t = some (.st m fs z eq)) (hm : Mem B w0 ρ φ U H w) (hH : H id = .cells o ty l) (ho : off + m ≤ l.length)
    (hd : DenV ρ (.w (.c (.p id off))) (ev x)) (dst) (tt) (pos) (af) (gd) : Fine B w0 ρ U H ((execOp ev ⟨dst, .load t x, tt, pos, af, gd⟩).run P w) (.w (.g (tk m (dr off l)))) [] n n := by
  obtain ⟨g, cs, hg, hφ, hh, hl⟩ := mem_cells hm hH
  obtain ⟨i, F, v, hi, hu, hs, _⟩ := td_st hT ht
  have hv := den_p hd hg
  have hsz := hl.1
  have hrun : (loadCells (⟨g, off, none⟩ : Addr) m).run P w = .ok (cs.extract off (off + m)) w := by
    have := run_loadCells_list (P := P) w ⟨g, off, none⟩ (cs.extract off (off + m)).toList (fun j v hj => by
      rw [plain_addr, cell_of_row w g _ cs ty (0, 0) hh]
      rw [Array.getElem?_toList, Array.getElem?_extract] at hj
      split at hj
      · exact hj
      · cases hj)
    have hlen : (cs.extract off (off + m)).toList.length = m := by simp; omega
    rw [hlen, Array.toArray_toList] at this
    exact this
  refine fine_same hm (u := .agg (cs.extract off (off + m))) ?_ ⟨_, rfl, hl.take_drop ho⟩ ?_
  · simp [execOp, hv, Instr.loadAt, Instr.sureAddr, loadVar, run_isAgg_st hu, run_sizeOf' hi, hs, hrun]
  · intro c hc
    rw [tk_eq, dr_eq] at hc
    exact wf_cells hm hH c (List.mem_of_mem_drop (List.mem_of_mem_take hc))

/-- Cells are written into a variable. -/
theorem fine_store {t id off ty : Nat} {l l' : List SC} {x y : Operand} {ev : Operand → Value} {i : TypeInfo} (hi : P.info? t = some i) (hs : i.size = l'.length) (hm : Mem B w0 ρ φ U H w) (hH : H id = .cells true ty l) (ho : off + l'.length ≤ l.length)
    (hd : DenV ρ (.w (.c (.p id off))) (ev x)) (hy : DenL ρ l' (ev y).cells) (hk : known l' = true) (hw : ∀ c ∈ l', c.wf U) (dst) (tt) (pos) (af) (gd) :
    Fine B w0 ρ U H ((execOp ev ⟨dst, .store t x y, tt, pos, af, gd⟩).run P w) .u [(id, .cells true ty (splice l off l'))] n n := by
  obtain ⟨g, cs, hg, hφ, hh, hl⟩ := mem_cells hm hH
  have hv := den_p hd hg
  have hsz := hl.1
  have hsz' := hy.1
  have hrun := run_storeCells_at P g off ty (ev y).cells.toList 0 cs w hh (by simp; omega) (hy.one hk)
  have hlive : (H id).live = true := by rw [hH]; rfl
  have hown : (H id).own = true := by rw [hH]; rfl
  have hU := hm.used id hlive
  have hp := hm.put (w' := w.setRow g (cs.toList.take (off + 0) ++ (ev y).cells.toList ++ cs.toList.drop (off + 0 + (ev y).cells.toList.length)).toArray) id (.cells true ty (splice l off l')) (ρ id) (φ id) (fun _ => rfl)
    (fun b hb h => by
      rcases h with h | h
      · exact absurd hown h
      · exact setRow_other _ _ _ _ (by rintro rfl; exact h hφ))
    rfl rfl rfl (by simp)
    (fun c hc => by
      rw [splice_eq] at hc
      simp only [List.mem_append] at hc
      rcases hc with hc | hc | hc
      · exact (wf_cells hm hH c (List.mem_of_mem_take hc)).mono fun _ h => .inl h
      · exact (hw c hc).mono fun _ h => .inl h
      · exact (wf_cells hm hH c (List.mem_of_mem_drop hc)).mono fun _ h => .inl h)
    ⟨g, _, hg, hφ, setRow_heap w g cs _ ty (0, 0) hh, by
      have e : upd ρ id (ρ id) = ρ := by funext z; unfold upd; split <;> simp_all
      rw [e]
      refine ⟨by rw [splice_length ho]; simp; omega, fun j c hc => ?_⟩
      rw [splice_get ho] at hc
      simp only [Nat.add_zero, List.getElem?_toArray, Array.length_toList]
      by_cases h : off ≤ j ∧ j < off + l'.length
      · rw [if_pos h] at hc
        obtain ⟨u, hu, hdu⟩ := hy.2 _ c hc
        refine ⟨u, ?_, hdu⟩
        rw [List.append_assoc, List.getElem?_append_right (by simp; omega)]
        rw [List.getElem?_append_left (by simp; omega)]
        have : j - (List.take off cs.toList).length = j - off := by simp; omega
        rw [this, Array.getElem?_toList]
        exact hu
      · rw [if_neg h] at hc
        obtain ⟨u, hu, hdu⟩ := hl.2 _ c hc
        refine ⟨u, ?_, hdu⟩
        rw [List.append_assoc]
        by_cases h1 : j < off
        · rw [List.getElem?_append_left (by simp; omega), List.getElem?_take, if_pos h1, Array.getElem?_toList]
          exact hu
        · rw [List.getElem?_append_right (by simp; omega), List.getElem?_append_right (by simp; omega), List.getElem?_drop]
          have : off + (ev y).cells.size + (j - (List.take off cs.toList).length - (ev y).cells.toList.length) = j := by simp; omega
          rw [this, Array.getElem?_toList]
          exact hu⟩
    (fun _ b hb => by simp only [setRow_size]; exact hm.lt id hlive b hb)
    (fun b hb => .inr (.inl ⟨hown, hb⟩))
  refine ⟨undef, _, _, _, .inr ⟨?_, rfl⟩, hp.mono fun x hx => ?_, fun x hx => ?_, trivial, fun x hx => hx.elim⟩
  · have hne : ¬ (ev y).cells.size ≠ i.size := by omega
    simp only [execOp, hv, Instr.storeAt, Instr.sureAddr, storeVar]
    simp [run_sizeOf' hi, hs, hsz', hrun]
  · rcases hx with hx | rfl
    · exact .inl hx
    · exact .inl hU
  · by_cases e : x = id
    · subst e; rw [upd_same]
    · rw [upd_ne _ _ e]

/-! ### Records, numbers -/
theorem st_fd {t m : Nat} {fs : List FD} {z : List SC} {eq : Bool} (hT : TabOk P T) (ht : look T t = some (.st m fs z eq)) {f : Nat} (hf : f < fs.length) : ∃ F fl i d, P.underlying t = some (.struct F) ∧ F[f]? = some fl ∧ fl.offset = (nth ⟨0, 0, false, 0⟩ fs f).off ∧
    fl.type = (nth ⟨0, 0, false, 0⟩ fs f).ty ∧ P.info? fl.type = some i ∧ i.size = (nth ⟨0, 0, false, 0⟩ fs f).size ∧ 0 < i.size ∧ P.underlying fl.type = some d ∧ (!plainD d) = (nth ⟨0, 0, false, 0⟩ fs f).agg := by
  obtain ⟨i, F, v, hi, hu, hs, _, _, _, hfd, _⟩ := td_st hT ht
  have hg : fs[f]? = some (nth ⟨0, 0, false, 0⟩ fs f) := by rw [nth_eq, List.getD_eq_getElem?_getD, List.getElem?_eq_getElem hf]; rfl
  obtain ⟨fl, hfl, hc⟩ := all2_get hfd f _ hg
  unfold fdChk at hc
  split at hc
  · rename_i i' d' hi' hd'
    simp only [Bool.and_eq_true, decide_eq_true_eq] at hc
    obtain ⟨⟨⟨⟨⟨h1, h2⟩, h3⟩, h4⟩, h5⟩, _⟩ := hc
    exact ⟨F, fl, i', d', hu, by simpa using hfl, h1, h2, hi', h3, by omega, hd', eq_of_beq h5⟩
  · cases hc
theorem fine_fieldAddr_p {t m f id o : Nat} {fs : List FD} {z : List SC} {eq : Bool} {x : Operand} {ev : Operand → Value} (hT : TabOk P T) (ht : look T t = some (.st m fs z eq)) (hf : f < fs.length) (hm : Mem B w0 ρ φ U H w)
    (hd : DenV ρ (.w (.c (.p id o))) (ev x)) (hw : U id) (dst) (tt) (pos) (af) (gd) :
    Fine B w0 ρ U H ((execOp ev ⟨dst, .fieldAddr t x f, tt, pos, af, gd⟩).run P w) (.w (.c (.p id (o + (nth ⟨0, 0, false, 0⟩ fs f).off)))) [] n n := by
  obtain ⟨F, fl, i, d, hu, hfl, h1, h2, hi, h3, h4, _⟩ := st_fd hT ht hf
  obtain ⟨g, hg, hv⟩ := hd
  refine fine_same hm (u := .pointer (some ⟨g, o + (nth ⟨0, 0, false, 0⟩ fs f).off, none⟩)) ?_ ⟨g, hg, rfl⟩ (fun y hy => by simp only [SC.ids] at hy; subst hy; exact hw)
  have hne : i.size ≠ 0 := by omega
  simp [execOp, Instr.fieldAt, run_underlying hu, hfl, hv, Instr.sureAddr, fieldPlace, run_sizeOf' hi, hne, h1, plain_addr]
theorem fine_fieldAddr_el {t m f id ix sz o : Nat} {fs : List FD} {z : List SC} {eq : Bool} {x : Operand} {ev : Operand → Value} (hT : TabOk P T) (ht : look T t = some (.st m fs z eq)) (hf : f < fs.length) (hm : Mem B w0 ρ φ U H w)
    (hd : DenV ρ (.w (.c (.el id ix sz o))) (ev x)) (hw : U id) (dst) (tt) (pos) (af) (gd) :
    Fine B w0 ρ U H ((execOp ev ⟨dst, .fieldAddr t x f, tt, pos, af, gd⟩).run P w) (.w (.c (.el id ix sz (o + (nth ⟨0, 0, false, 0⟩ fs f).off)))) [] n n := by
  obtain ⟨F, fl, i, d, hu, hfl, h1, h2, hi, h3, h4, _⟩ := st_fd hT ht hf
  obtain ⟨a, n', c, hg, hv⟩ := hd
  refine fine_same hm (u := .pointer (some ((a.add (ix * sz)).add (o + (nth ⟨0, 0, false, 0⟩ fs f).off)))) ?_ ⟨a, n', c, hg, rfl⟩ (fun y hy => by simp only [SC.ids] at hy; subst hy; exact hw)
  have hne : i.size ≠ 0 := by omega
  simp [execOp, Instr.fieldAt, run_underlying hu, hfl, hv, Instr.sureAddr, fieldPlace, run_sizeOf' hi, hne, h1, add_add, Nat.add_assoc]
theorem fine_field {t m f : Nat} {fs : List FD} {z : List SC} {eq : Bool} {x : Operand} {l : List SC} {ev : Operand → Value} (hT : TabOk P T) (ht : look T t = some (.st m fs z eq)) (hf : f < fs.length) (hl : l.length = m) (ho : (nth ⟨0, 0, false, 0⟩ fs f).off + (nth ⟨0, 0, false, 0⟩ fs f).size ≤ m) (hm : Mem B w0 ρ φ U H w)
    (hd : DenV ρ (.w (.g l)) (ev x)) (hw : ∀ c ∈ l, c.wf U) (dst) (tt) (pos) (af) (gd) :
    Fine B w0 ρ U H ((execOp ev ⟨dst, .field t x f, tt, pos, af, gd⟩).run P w) (.w (match (nth ⟨0, 0, false, 0⟩ fs f).agg with | true => .g (tk (nth ⟨0, 0, false, 0⟩ fs f).size (dr (nth ⟨0, 0, false, 0⟩ fs f).off l)) | false => .c (nth .u l (nth ⟨0, 0, false, 0⟩ fs f).off))) [] n n := by
  obtain ⟨F, fl, i, d, hu, hfl, h1, h2, hi, h3, h4, hd', hag⟩ := st_fd hT ht hf
  generalize (nth ⟨0, 0, false, 0⟩ fs f) = fd at *
  obtain ⟨vs, hv, hdl⟩ := hd
  cases hg : fd.agg with
  | true =>
    have hst : (isAgg fl.type).run P w = .ok true w := by
      unfold isAgg
      simp only [Sem.run_bind, run_underlying hd', Result.andThen_ok]
      rw [hg] at hag
      cases d <;> simp_all [plainD]
    refine fine_same hm (u := .agg (vs.extract fd.off (fd.off + fd.size))) ?_ ⟨_, rfl, hdl.take_drop (by omega)⟩ ?_
    · simp [execOp, Instr.field, run_underlying hu, hfl, hv, Go.part, asAgg, hst, run_sizeOf' hi, h1, h3]
    · intro c hc
      rw [tk_eq, dr_eq] at hc
      exact hw c (List.mem_of_mem_drop (List.mem_of_mem_take hc))
  | false =>
    have hst : (isAgg fl.type).run P w = .ok false w := run_isAgg_sc hd' (by simpa [hg] using hag) w
    have hlt : fd.off < l.length := by omega
    have hc : l[fd.off]? = some (nth .u l fd.off) := by rw [nth_eq, List.getD_eq_getElem?_getD, List.getElem?_eq_getElem hlt]; rfl
    obtain ⟨u, hu', hdu⟩ := hdl.2 _ _ hc
    refine fine_same hm (u := u) ?_ hdu (hw _ (nth_mem hlt))
    simp [execOp, Instr.field, run_underlying hu, hfl, hv, Go.part, asAgg, hst, h1, hu']
theorem fine_extract {j : Nat} {x : Operand} {l : List SW} {ev : Operand → Value} (hj : j < l.length) (hm : Mem B w0 ρ φ U H w) (hd : DenV ρ (.t l) (ev x)) (hw : ∀ c ∈ l, c.wf U) (dst) (tt) (pos) (af) (gd) :
    Fine B w0 ρ U H ((execOp ev ⟨dst, .extract x j, tt, pos, af, gd⟩).run P w) (.w (nth (.c .u) l j)) [] n n := by
  obtain ⟨vs, hv, hs, hl⟩ := hd
  have hc : l[j]? = some (nth (.c .u) l j) := by rw [nth_eq, List.getD_eq_getElem?_getD, List.getElem?_eq_getElem hj]; rfl
  obtain ⟨u, hu, hdu⟩ := hl j _ hc
  refine fine_same hm (u := u) ?_ hdu (hw _ (List.mem_of_getElem? hc))
  simp [execOp, Instr.extract, hv, hu]
theorem fine_arith {op : BinOp} {t yt : Nat} {x y : Operand} {a b : Int} {c : SC} {p : Option Prop} {ev : Operand → Value} (h : arith op a b = some (c, p)) (hp : holdsO p) (hm : Mem B w0 ρ φ U H w)
    (hx : DenV ρ (.w (.c (.i a))) (ev x)) (hy : DenV ρ (.w (.c (.i b))) (ev y)) (dst) (tt) (pos) (af) (gd) :
    Fine B w0 ρ U H ((execOp ev ⟨dst, .binOp op t x y yt, tt, pos, af, gd⟩).run P w) (.w (.c c)) [] n n := by
  have hx := den_i hx
  have hy := den_i hy
  unfold arith at h
  split at h <;> first
    | (cases h; done)
    | (injection h with h
       injection h with h1 h2
       subst h1
       subst h2
       refine fine_same hm ?_ rfl (fun _ hx => hx.elim)
       first
         | (have hp' : b ≠ 0 := hp
            simp [execOp, eqGuard, hx, hy, binOp, Op.intArith, Op.intCmp, Op.intDiv, wrap, hp']; done)
         | (simp [execOp, eqGuard, hx, hy, binOp, Op.intArith, Op.intCmp, Op.intDiv, wrap]; done)
         | (simp [execOp, eqGuard, hx, hy, binOp, Op.intArith, Op.intCmp, Op.intDiv, wrap]; rfl))
theorem fine_not {t : Nat} {x : Operand} {a : Bool} {ev : Operand → Value} (hm : Mem B w0 ρ φ U H w) (hx : DenV ρ (.w (.c (.b a))) (ev x)) (dst) (tt) (pos) (af) (gd) :
    Fine B w0 ρ U H ((execOp ev ⟨dst, .unOp .not t x, tt, pos, af, gd⟩).run P w) (.w (.c (.b (!a)))) [] n n := by
  refine fine_same hm ?_ rfl (fun _ hx => hx.elim)
  simp [execOp, den_b hx, Op.unary]
theorem fine_not_l {t : Nat} {x : Operand} {a : Bool} {ev : Operand → Value} (hm : Mem B w0 ρ φ U H w) (hx : DenV ρ (.w (.c (.l a))) (ev x)) (dst) (tt) (pos) (af) (gd) :
    Fine B w0 ρ U H ((execOp ev ⟨dst, .unOp .not t x, tt, pos, af, gd⟩).run P w) (.w (.c (.l (!a)))) [] n n := by
  refine fine_same hm ?_ rfl (fun _ hx => hx.elim)
  simp [execOp, den_l hx, Op.unary]
theorem fine_neg {t : Nat} {x : Operand} {a : Int} {ev : Operand → Value} (hm : Mem B w0 ρ φ U H w) (hx : DenV ρ (.w (.c (.i a))) (ev x)) (dst) (tt) (pos) (af) (gd) :
    Fine B w0 ρ U H ((execOp ev ⟨dst, .unOp .neg t x, tt, pos, af, gd⟩).run P w) (.w (.c (.i (wrap (-a))))) [] n n := by
  refine fine_same hm ?_ rfl (fun _ hx => hx.elim)
  simp [execOp, den_i hx, Op.unary, Op.intArith, wrap]
end
end Go.Eng

/- The evaluation of one operation is sound: records built and compared. -/
set_option linter.unusedVariables false
set_option linter.unusedSimpArgs false
namespace Go.Eng
open Go Go.RowKit

section
variable {P : Program} {T : Tab} {B : Nat} {w0 : Base} {w : World} {ρ : Nat → Value} {φ : Nat → Nat → Prop} {U : Nat → Prop} {H : Nat → HB} {n : Nat}

theorem run_places (eq : Bool) : ∀ (fs : List FD) (F : List Field) (w : World), all2 (fdChk P eq) fs F = true →
    (F.mapM fun f => do pure (f.offset, ← sizeOf f.type) : Sem (List (Nat × Nat))).run P w = .ok (fs.map fun fd => (fd.off, fd.size)) w
  | [], [], w, _ => by simp
  | fd :: fs, f :: F, w, h => by
    simp only [all2, Bool.and_eq_true] at h
    have ih := run_places eq fs F w h.2
    have h1 := h.1
    unfold fdChk at h1
    split at h1
    · rename_i i d hi hd
      simp only [Bool.and_eq_true, decide_eq_true_eq] at h1
      obtain ⟨⟨⟨⟨⟨e1, e2⟩, e3⟩, e4⟩, e5⟩, _⟩ := h1
      simp only [List.mapM_cons, Sem.run_bind, run_sizeOf' hi, Result.andThen_ok, Sem.run_pure, ih, List.map_cons, e1, e3]
    · cases h1
  | [], _ :: _, _, h => by simp [all2] at h
  | _ :: _, [], _, h => by simp [all2] at h

theorem foldl_set (off : Nat) : ∀ (xs : List Value) (j : Nat) (cs : Array Value),
    ((xs.zipIdx j).foldl (fun (cs : Array Value) (p : Value × Nat) => cs.setIfInBounds (off + p.2) p.1) cs).size = cs.size ∧
    ∀ i, ((xs.zipIdx j).foldl (fun (cs : Array Value) (p : Value × Nat) => cs.setIfInBounds (off + p.2) p.1) cs)[i]? = if off + j ≤ i ∧ i < off + j + xs.length ∧ i < cs.size then xs[i - (off + j)]? else cs[i]?
  | [], j, cs => by simp; intro i h1 h2; omega
  | x :: xs, j, cs => by
    obtain ⟨h1, h2⟩ := foldl_set off xs (j + 1) (cs.setIfInBounds (off + j) x)
    simp only [List.zipIdx_cons, List.foldl_cons]
    refine ⟨by rw [h1]; simp, fun i => ?_⟩
    rw [h2]
    simp only [Array.size_setIfInBounds, List.length_cons]
    by_cases h : i = off + j
    · subst h
      rw [if_neg (by omega)]
      by_cases hb : off + j < cs.size
      · rw [if_pos (by omega)]
        simp [hb]
      · rw [if_neg (by omega)]
        simp [hb]
    · by_cases h' : off + (j + 1) ≤ i ∧ i < off + (j + 1) + xs.length ∧ i < cs.size
      · rw [if_pos h', if_pos (by omega)]
        have : i - (off + j) = (i - (off + (j + 1))) + 1 := by omega
        rw [this, List.getElem?_cons_succ]
      · rw [if_neg h', if_neg (by omega), Array.getElem?_setIfInBounds_ne (by omega)]

/-- What 'build' makes of the parts. -/
theorem fill_den {e : Env} {fs : List FD} {ev' : Operand → Value} (hev : ∀ x, DenV ρ (ev e x) (ev' x)) (hwf : ∀ x, (ev e x).wf U) : ∀ (ps : List (Nat × Operand)) (l : List SC) (cs : Array Value) (r : List SC), build fs e ps l = some r → DenL ρ l cs → (∀ c ∈ l, c.wf U) →
    ∃ cs', Instr.fill ((fs.map fun fd => (fd.off, fd.size)).toArray[·]?) cs (ps.map fun p => (p.1, ev' p.2)) = some cs' ∧ DenL ρ r cs' ∧ ∀ c ∈ r, c.wf U
  | [], l, cs, r, h, hl, hw => by
    injection h with h
    subst h
    exact ⟨cs, rfl, hl, hw⟩
  | (i, x) :: ps, l, cs, r, h, hl, hw => by
    unfold build at h
    have hx := hev x
    have hxw := hwf x
    split at h
    · rename_i s off m g ty hs hfd
      rw [hs] at hx hxw
      have hx : DenW ρ s (ev' x) := hx
      have hxw : s.wf U := hxw
      split at h
      · rename_i hk
        split at h
        · rename_i hi
          split at h
          · rename_i hlen
            split at h
            · rename_i ho
              rw [len_eq] at hlen hi ho
              have hcell := SW.denL hx hk
              have hsz := hcell.1
              have hplace : (fs.map fun fd => (fd.off, fd.size)).toArray[i]? = some (off, m) := by
                rw [List.getElem?_toArray, List.getElem?_map]
                have : fs[i]? = some ⟨off, m, g, ty⟩ := by rw [← hfd, nth_eq, List.getD_eq_getElem?_getD, List.getElem?_eq_getElem hi]; rfl
                rw [this]; rfl
              have hon : off + s.cells.length ≤ l.length := by omega
              obtain ⟨f1, f2⟩ := foldl_set off (ev' x).cells.toList 0 cs
              have hnew : DenL ρ (splice l off s.cells) ((ev' x).cells.zipIdx.foldl (fun cs (c, j) => cs.setIfInBounds (off + j) c) cs) := by
                have e1 : (ev' x).cells.zipIdx.foldl (fun cs (c, j) => cs.setIfInBounds (off + j) c) cs = (((ev' x).cells.toList.zipIdx 0).foldl (fun (cs : Array Value) (p : Value × Nat) => cs.setIfInBounds (off + p.2) p.1) cs) := by
                  rw [← Array.foldl_toList, Array.toList_zipIdx]
                rw [e1]
                refine ⟨by rw [f1, splice_length hon]; exact hl.1, fun j c hc => ?_⟩
                rw [splice_get hon] at hc
                rw [f2]
                simp only [Array.length_toList, Nat.add_zero]
                have hls := hl.1
                by_cases hb : off ≤ j ∧ j < off + s.cells.length
                · rw [if_pos hb] at hc
                  obtain ⟨u, hu, hdu⟩ := hcell.2 _ c hc
                  rw [if_pos (by omega)]
                  exact ⟨u, by rw [Array.getElem?_toList]; exact hu, hdu⟩
                · rw [if_neg hb] at hc
                  rw [if_neg (by omega)]
                  exact hl.2 j c hc
              have hwn : ∀ c ∈ splice l off s.cells, c.wf U := by
                intro c hc
                rw [splice_eq] at hc
                simp only [List.mem_append] at hc
                rcases hc with hc | hc | hc
                · exact hw c (List.mem_of_mem_take hc)
                · cases s with
                  | c y => simp [SW.cells] at hc; subst hc; exact hxw
                  | g l' => exact hxw c hc
                · exact hw c (List.mem_of_mem_drop hc)
              obtain ⟨cs', h1, h2, h3⟩ := fill_den hev hwf ps _ _ r h hnew hwn
              refine ⟨cs', ?_, h2, h3⟩
              have hne : ¬ ((ev' x).cells.size ≠ m ∨ off + (ev' x).cells.size > cs.size) := by
                have := hl.1
                omega
              have e2 : ((ev' x).cells.size ≠ m || off + (ev' x).cells.size > cs.size) = false := by
                simp
                have := hl.1
                omega
              simp only [List.map_cons, Instr.fill, hplace]
              rw [if_neg (by simpa using (by have := hl.1; omega : (ev' x).cells.size = m → ¬ off + (ev' x).cells.size > cs.size) |> fun h => by have := hl.1; omega)]
              exact h1
            · cases h
          · cases h
        · cases h
      · cases h
    · cases h

theorem fine_build {t m : Nat} {fs : List FD} {z : List SC} {eq : Bool} {e : Env} {ps : Array (Nat × Operand)} {l : List SC} {ev' : Operand → Value} (hT : TabOk P T) (ht : look T t = some (.st m fs z eq)) (hev : ∀ x, DenV ρ (ev e x) (ev' x)) (hwf : ∀ x, (ev e x).wf U)
    (hb : build fs e ps.toList z = some l) (hm : Mem B w0 ρ φ U H w) (dst) (tt) (pos) (af) (gd) :
    Fine B w0 ρ U H ((execOp ev' ⟨dst, .build t ps, tt, pos, af, gd⟩).run P w) (.w (.g l)) [] n n := by
  obtain ⟨i, F, v, hi, hu, hs, hz, hv, hl, hfd, _⟩ := td_st hT ht
  have hzd : DenL ρ z v := ⟨by rw [← Array.length_toList, ← all2_length hv], fun j c hc => by
    obtain ⟨b, hb, hp⟩ := all2_get hv j c hc
    exact ⟨b, by simpa using hb, scz_den hp⟩⟩
  have hzw : ∀ c ∈ z, c.wf U := fun c hc => by
    obtain ⟨j, hj⟩ := List.getElem?_of_mem hc
    obtain ⟨b, hb, hp⟩ := all2_get hv j c hj
    exact scz_wf hp U
  obtain ⟨cs', h1, h2, h3⟩ := fill_den hev hwf ps.toList z v l hb hzd hzw
  refine fine_same hm (u := .agg cs') ?_ ⟨_, rfl, h2⟩ h3
  have hpl : (F.mapM fun f => do pure (f.offset, ← sizeOf f.type) : Sem (Array (Nat × Nat))).run P w = .ok (fs.map fun fd => (fd.off, fd.size)).toArray w := by
    rw [Array.mapM_eq_mapM_toList, Sem.run_map, run_places eq fs F.toList w hfd]
    rfl
  have hlist : (ps.map fun (p : Nat × Operand) => (p.1, ev' p.2)).toList = ps.toList.map fun p => (p.1, ev' p.2) := by simp
  simp only [execOp, Instr.build, Sem.run_bind, run_zero hi hz, Result.andThen_ok, Value.cells, run_underlying hu, hpl]
  simp only [hlist, h1]
  rfl

/-! ### '==' -/
theorem kind_i {m : Int} {d : TypeDesc} (h : kindD (.i m) d = true) : d = .int .i64 := by
  unfold kindD at h
  split at h <;> simp_all
theorem kind_b {m : Bool} {d : TypeDesc} (h : kindD (.l m) d = true) : d = .bool := by
  unfold kindD at h
  split at h <;> simp_all
theorem kind_p {d : TypeDesc} (h : kindD .nlp d = true) : ∃ e, d = .pointer e := by
  unfold kindD at h
  split at h <;> simp_all
theorem eqS_run {t : Nat} {k : Option (K × Nat)} {z a b : SC} {va vb : Value} {r : Bool} (d : Nat) (hT : TabOk P T) (ht : look T t = some (.sc k z)) (h : eqS z a b = some r) (ha : DenC ρ a va) (hb : DenC ρ b vb) :
    (Op.equalIn (d + 1) t va vb).run P w = .ok r w := by
  obtain ⟨i, ty, v, hi, hs, hu, hp, hz, hsz, hk, _⟩ := td_sc hT ht
  unfold eqS at h
  split at h <;> first
    | (cases h; done)
    | skip
  all_goals injection h with h
  all_goals subst h
  all_goals simp only [DenC] at ha hb
  · subst ha; subst hb
    obtain rfl := kind_i hk
    simp [Op.equalIn, run_underlying hu]
    rfl
  · subst ha; subst hb
    obtain rfl := kind_b hk
    simp [Op.equalIn, run_underlying hu]
  · subst ha; subst hb
    obtain rfl := kind_b hk
    simp [Op.equalIn, run_underlying hu]
  · subst ha; subst hb
    obtain rfl := kind_b hk
    simp [Op.equalIn, run_underlying hu]
  · subst ha; subst hb
    obtain rfl := kind_b hk
    simp [Op.equalIn, run_underlying hu]
  · subst ha; subst hb
    obtain ⟨e, rfl⟩ := kind_p hk
    simp [Op.equalIn, run_underlying hu]
  · subst ha
    obtain ⟨g, _, rfl⟩ := hb
    obtain ⟨e, rfl⟩ := kind_p hk
    simp [Op.equalIn, run_underlying hu]
  · subst hb
    obtain ⟨g, _, rfl⟩ := ha
    obtain ⟨e, rfl⟩ := kind_p hk
    simp [Op.equalIn, run_underlying hu]
theorem part_sc {t off : Nat} {d : TypeDesc} {vs : Array Value} {v : Value} (hd : P.underlying t = some d) (hp : plainD d = true) (hv : vs[off]? = some v) : (Go.part t vs off).run P w = .ok v w := by
  simp [Go.part, run_isAgg_sc hd hp, hv]
theorem part_agg {t off m : Nat} {i : TypeInfo} {d : TypeDesc} {vs : Array Value} (hi : P.info? t = some i) (hs : i.size = m) (hd : P.underlying t = some d) (hp : plainD d = false) : (Go.part t vs off).run P w = .ok (.agg (vs.extract off (off + m))) w := by
  have : (isAgg t).run P w = .ok true w := by
    unfold isAgg
    simp only [Sem.run_bind, run_underlying hd, Result.andThen_ok]
    cases d <;> simp_all [plainD]
  simp [Go.part, this, run_sizeOf' hi, hs]
theorem eqF_run {d : Nat} {xs ys : Array Value} {l m : List SC} {cmp : Nat → SW → SW → Option Bool} (hcmp : ∀ t x y r vx vy, cmp t x y = some r → DenW ρ x vx → DenW ρ y vy → (Op.equalIn d t vx vy).run P w = .ok r w)
    (hx : DenL ρ l xs) (hy : DenL ρ m ys) (hlm : l.length = m.length) : ∀ (fs : List FD) (F : List Field) (r : Bool), all2 (fdChk P true) fs F = true → (∀ fd ∈ fs, fd.off + fd.size ≤ l.length) → eqF cmp fs l m = some r → (Op.eqFields d xs ys F).run P w = .ok r w
  | [], [], r, _, _, h => by
    injection h with h
    subst h
    simp [Op.eqFields]
  | ⟨off, s, g, t⟩ :: fs, f :: F, r, hc, hle, h => by
    simp only [all2, Bool.and_eq_true] at hc
    have h1 := hc.1
    unfold fdChk at h1
    split at h1
    · rename_i i td hi hd
      simp only [Bool.and_eq_true, decide_eq_true_eq] at h1
      obtain ⟨⟨⟨⟨⟨e1, e2⟩, e3⟩, e4⟩, e5⟩, e6⟩ := h1
      have e5 := eq_of_beq e5
      have hname : f.name ≠ "_" := by simpa using e6
      have hb := hle ⟨off, s, g, t⟩ (by simp)
      simp only at e1 e2 e3 e4 e5 hb
      unfold eqF at h
      split at h
      · rename_i a b ha hb'
        injection h with h
        subst h
        have ih := eqF_run hcmp hx hy hlm fs F b hc.2 (fun fd hfd => hle fd (by simp [hfd])) hb'
        have hxs := hx.1
        have hys := hy.1
        have key : ∃ vx vy, (Go.part f.type xs f.offset).run P w = .ok vx w ∧ (Go.part f.type ys f.offset).run P w = .ok vy w ∧ (Op.equalIn d f.type vx vy).run P w = .ok a w := by
          rw [e1]
          cases hg : g with
          | true =>
            rw [hg] at ha e5
            have hp : plainD td = false := by simpa using e5
            refine ⟨_, _, part_agg hi e3 hd hp, part_agg hi e3 hd hp, ?_⟩
            rw [e2]
            exact hcmp _ _ _ _ _ _ ha ⟨_, rfl, hx.take_drop hb⟩ ⟨_, rfl, hy.take_drop (by omega)⟩
          | false =>
            rw [hg] at ha e5
            have hp : plainD td = true := by simpa using e5
            have hlt : off < l.length := by omega
            have hlt' : off < m.length := by omega
            obtain ⟨u, hu, hdu⟩ := hx.2 off (nth .u l off) (by rw [nth_eq, List.getD_eq_getElem?_getD, List.getElem?_eq_getElem hlt]; rfl)
            obtain ⟨u', hu', hdu'⟩ := hy.2 off (nth .u m off) (by rw [nth_eq, List.getD_eq_getElem?_getD, List.getElem?_eq_getElem hlt']; rfl)
            refine ⟨_, _, part_sc hd hp hu, part_sc hd hp hu', ?_⟩
            rw [e2]
            exact hcmp _ _ _ _ _ _ ha hdu hdu'
        obtain ⟨vx, vy, k1, k2, k3⟩ := key
        rw [Op.eqFields]
        simp only [if_pos hname, Sem.run_bind, k1, k2, k3, Result.andThen_ok]
        cases a
        · simp
        · simpa using ih
      · cases h
    · cases h1
  | [], _ :: _, _, h, _, _ => by simp [all2] at h
  | _ :: _, [], _, h, _, _ => by simp [all2] at h

theorem fd_bound {eq : Bool} {t m : Nat} {fs : List FD} {z : List SC} (hT : TabOk P T) (ht : look T t = some (.st m fs z eq)) (h : fs.all (fun fd => decide (fd.off + fd.size ≤ m)) = true) : ∀ fd ∈ fs, fd.off + fd.size ≤ m :=
  fun fd hfd => by have := List.all_eq_true.1 h fd hfd; simpa using this
theorem eqT_run (hT : TabOk P T) : ∀ (d : Nat) (t : Nat) (x y : SW) (r : Bool) (vx vy : Value) (e : Nat), eqT T d t x y = some r → DenW ρ x vx → DenW ρ y vy → (Op.equalIn (d + e) t vx vy).run P w = .ok r w
  | 0, t, x, y, r, vx, vy, e, h, _, _ => by simp [eqT] at h
  | d + 1, t, x, y, r, vx, vy, e, h, hx, hy => by
    unfold eqT at h
    split at h
    · rename_i k z a b ht
      rw [show d + 1 + e = (d + e) + 1 by omega]
      exact eqS_run (d + e) hT ht h hx hy
    · rename_i m fs z l l' ht
      split at h
      · rename_i hl
        split at h
        · rename_i hl'
          split at h
          · rename_i hb
            rw [len_eq] at hl hl'
            obtain ⟨xs, rfl, hxs⟩ := hx
            obtain ⟨ys, rfl, hys⟩ := hy
            obtain ⟨i, F, v, hi, hu, hs, hz, hv, hzl, hfd, heq⟩ := td_st hT ht
            obtain ⟨hst, _⟩ := heq rfl
            have hF : P.fieldsOf t = F := by simp [Program.fieldsOf, hu]
            rw [show d + 1 + e = (d + e) + 1 by omega]
            rw [run_equalIn_struct (P := P) w (d + e) t xs ys (by rw [hF]; exact hu) hst, hF]
            exact eqF_run (cmp := eqT T d) (fun t x y r vx vy h hx hy => eqT_run hT d t x y r vx vy e h hx hy) hxs hys (by omega) fs F.toList r hfd (fun fd h => by rw [hl]; exact fd_bound hT ht hb fd h) h
          · cases h
        · cases h
      · cases h
    · cases h
def eqRes (op : BinOp) (r : Bool) : Bool := match op with | .neq => !r | _ => r
theorem ptrEq_eqT {t : Nat} {a b : SW} {r : Bool} (h : ptrEq T t a b = some r) : eqT T 9 t a b = some r := by
  unfold ptrEq at h
  split at h
  · split at h
    · rename_i a b k ht
      unfold eqT
      rw [ht]
      simp only
      split at h <;> first
        | exact h
        | cases h
    · cases h
  · cases h
theorem fine_eq {op : BinOp} {t yt : Nat} {x y : Operand} {a b : SW} {r : Bool} {ev : Operand → Value} (hT : TabOk P T) (h : eqT T 9 t a b = some r) (ho : op = .eql ∨ op = .neq) (hni : ∀ i j, a = .c (.i i) → b = .c (.i j) → False) (hm : Mem B w0 ρ φ U H w)
    (hx : DenW ρ a (ev x)) (hy : DenW ρ b (ev y)) (dst) (tt) (pos) (af) (gd) :
    Fine B w0 ρ U H ((execOp ev ⟨dst, .binOp op t x y yt, tt, pos, af, gd⟩).run P w) (.w (.c (.b (eqRes op r)))) [] n n := by
  have hrun := eqT_run (w := w) hT 9 t a b r _ _ 9991 h hx hy
  refine fine_same hm (u := .bool (eqRes op r)) ?_ rfl (fun _ hx => hx.elim)
  have hkind : (∃ b, ev x = .bool b) ∨ (∃ p, ev x = .pointer p) ∨ (∃ xs ys, ev x = .agg xs ∧ ev y = .agg ys ∧ P.eqGuardType P.depth t = false) := by
    unfold eqT at h
    split at h
    · unfold eqS at h
      split at h <;> simp only [DenW, DenC] at hx hy <;> first
        | (cases h; done)
        | exact (hni _ _ rfl rfl).elim
        | exact .inl ⟨_, hx⟩
        | exact .inr (.inl ⟨_, hx⟩)
        | (obtain ⟨_, _, hx⟩ := hx; exact .inr (.inl ⟨_, hx⟩))
    · rename_i m fs z l l' ht
      obtain ⟨xs, hv, _⟩ := hx
      obtain ⟨ys, hv', _⟩ := hy
      obtain ⟨i, F, v, hi, hu, hs, hz, hv2, hzl, hfd, heq⟩ := td_st hT ht
      exact .inr (.inr ⟨xs, ys, hv, hv', (heq rfl).2⟩)
    · cases h
  have hg : (eqGuard op t x y (ev x) (ev y)).run P w = .ok () w := by
    rcases ho with rfl | rfl <;> rcases hkind with ⟨b, hv⟩ | ⟨b, hv⟩ | ⟨xs, ys, hv, hv', he⟩ <;> first
      | simp [eqGuard, hv, hv', he]
      | simp [eqGuard, hv]
  have hb : (binOp op t (ev x) (ev y)).run P w = .ok (.bool (eqRes op r)) w := by
    have hq : (Op.equal t (ev x) (ev y)).run P w = .ok r w := hrun
    rcases ho with rfl | rfl
    · rcases hkind with ⟨b, hv⟩ | ⟨b, hv⟩ | ⟨b, _, hv, _⟩ <;> rw [hv] at hq ⊢ <;> simp [binOp, hq, eqRes]
    · rcases hkind with ⟨b, hv⟩ | ⟨b, hv⟩ | ⟨b, _, hv, _⟩ <;> rw [hv] at hq ⊢ <;> simp [binOp, hq, eqRes]
  simp only [execOp, Sem.run_bind, hg, hb, Result.andThen_ok]
  rfl
end
end Go.Eng

/- Maps of the call's own: keys are numbers or stops, elements are numbers. -/
set_option linter.unusedVariables false
set_option linter.unusedSimpArgs false
namespace Go.Eng
open Go Go.RowKit

theorem kval_inj {k : MK} {x y : k.T} (h : kval k x = kval k y) : x = y := by
  cases k with
  | int => simpa [kval] using h
  | stop =>
    obtain ⟨a, b⟩ := x
    obtain ⟨c, d⟩ := y
    simp [kval] at h
    obtain ⟨rfl, rfl⟩ := h
    rfl
theorem upF_same {α : Type} (f : α → Int) (x : α) (v : Int) : upF f x v x = v := by unfold upF; rw [if_pos rfl]
theorem upF_ne {α : Type} (f : α → Int) {x y : α} (v : Int) (h : y ≠ x) : upF f x v y = f y := by unfold upF; rw [if_neg h]
theorem bits_self {k : MK} (x : k.T) : Instr.sameBits 10000 (kval k x) (kval k x) = true := by
  cases k with
  | int => simp [kval, Instr.sameBits]
  | stop => simp [kval, Instr.sameBits]
/-- A stamp tells an entry. -/
theorem idx_born : ∀ {l : List MapEntry} {j : Nat} {e : MapEntry}, (l.map (·.born)).Nodup → l[j]? = some e → l.findIdx? (fun x => ((x.born : Nat) : Int) == ((e.born : Nat) : Int)) = some j
  | [], j, e, _, h => by simp at h
  | a :: l, 0, e, _, h => by
    simp only [List.getElem?_cons_zero, Option.some.injEq] at h
    subst h
    simp [List.findIdx?_cons]
  | a :: l, j + 1, e, hn, h => by
    simp only [List.getElem?_cons_succ] at h
    simp only [List.map_cons, List.nodup_cons] at hn
    have hne : ¬ (((a.born : Nat) : Int) == ((e.born : Nat) : Int)) = true := by
      intro hb
      have hb : a.born = e.born := by have h := beq_iff_eq.1 hb; omega
      exact hn.1 (List.mem_map.2 ⟨e, List.mem_of_getElem? h, hb.symm⟩)
    have ih := idx_born hn.2 h
    rw [List.findIdx?_cons]
    simp only [hne, ih]
    rfl
theorem idx_arr (xs : Array MapEntry) (p : MapEntry → Bool) : xs.findIdx? p = xs.toList.findIdx? p := by
  cases xs
  simp

section
variable {P : Program} {T : Tab} {w : World}

/-- What is needed of a key's type. -/
structure KeyOk (P : Program) (kt : TypeId) (k : MK) : Prop where
  check : ∀ (w : World) (em : Bool) (x : k.T), (Instr.checkKey em 10000 kt (kval k x)).run P w = .ok () w
  find : ∀ (w : World) (x : k.T) (es : List MapEntry), (∀ e ∈ es, ∃ y, e.key = kval k y) →
    ((Instr.findKey kt (kval k x) es).run P w = .ok none w ∧ ∀ e ∈ es, e.key ≠ kval k x) ∨ ∃ j e, (Instr.findKey kt (kval k x) es).run P w = .ok (some (j, e.val)) w ∧ es[j]? = some e ∧ e.key = kval k x

theorem int_keyOk {kt : TypeId} (h : P.underlying kt = some (.int .i64)) : KeyOk P kt .int where
  check w em x := MapKept.run_checkKey h (by rfl) em 9999
  find w x es hes := by
    have hk : MapKept.IsKey (.int .i64) (kval .int x) := rfl
    have hks : ∀ y ∈ es, MapKept.IsKey (.int .i64) y.key := fun y hy => by
      obtain ⟨z, hz⟩ := hes y hy
      rw [hz]; rfl
    rcases MapKept.findNow_spec hk es 0 hks with ⟨h1, h2⟩ | ⟨j, e0, h1, h2, h3⟩
    · exact .inl ⟨MapKept.run_findKey h h1, h2⟩
    · exact .inr ⟨j, e0, by simpa using MapKept.run_findKey h h1, h2, h3⟩
def stEq (x y : Stop) : Bool := decide (x.order = y.order) && ((x.drop == y.drop) && true)
theorem stEq_iff {x y : Stop} : stEq x y = true ↔ x = y := by
  obtain ⟨a, b⟩ := x
  obtain ⟨c, d⟩ := y
  simp [stEq]
theorem stop_eq {kt t0 t1 : Nat} (h : stChk P kt 2 [⟨0, 1, false, t0⟩, ⟨1, 1, false, t1⟩] [.i 0, .l false] true = true) (h0 : scChk P t0 none (.i 0) = true) (h1 : scChk P t1 none (.l false) = true) (x y : Stop) :
    (Op.equal kt (kval .stop x) (kval .stop y)).run P w = .ok (stEq x y) w := by
  let T' : Tab := [(kt, .st 2 [⟨0, 1, false, t0⟩, ⟨1, 1, false, t1⟩] [.i 0, .l false] true), (t0, .sc none (.i 0)), (t1, .sc none (.l false))]
  have hT : TabOk P T' := tabOk_of (by simp [T', tdChk, h, h0, h1])
  have key : ∀ (a b : SC) (va vb : Value) (c : Bool), True := fun _ _ _ _ _ => trivial
  have hne0 : kt ≠ t0 := by
    rintro rfl
    unfold stChk at h; unfold scChk at h0
    split at h <;> split at h0 <;> simp_all [plainD]
  have hne1 : kt ≠ t1 := by
    rintro rfl
    unfold stChk at h; unfold scChk at h1
    split at h <;> split at h1 <;> simp_all [plainD]
  have hne2 : t0 ≠ t1 := by
    rintro rfl
    unfold scChk at h0 h1
    split at h0
    · rename_i i d hi hd
      rw [hi, hd] at h1
      simp only [Bool.and_eq_true] at h0 h1
      have a := h0.1.2
      have b := h1.1.2
      obtain rfl := kind_i a
      have := kind_b b
      cases this
    · cases h0
  have l0 : look T' kt = some (.st 2 [⟨0, 1, false, t0⟩, ⟨1, 1, false, t1⟩] [.i 0, .l false] true) := by rw [look_cons, if_pos rfl]
  have l1 : look T' t0 = some (.sc none (.i 0)) := by rw [look_cons, if_neg hne0, look_cons, if_pos rfl]
  have l2 : look T' t1 = some (.sc none (.l false)) := by rw [look_cons, if_neg hne1, look_cons, if_neg hne2, look_cons, if_pos rfl]
  have he : eqT T' 9 kt (.g [.i x.order, .b x.drop]) (.g [.i y.order, .b y.drop]) = some (decide (x.order = y.order) && ((x.drop == y.drop) && true)) := by
    unfold eqT
    rw [l0]
    simp only [len_eq, List.length_cons, List.length_nil, Nat.zero_add, Nat.reduceAdd, if_true]
    rw [if_pos (by rfl)]
    simp only [eqF]
    have e1 : eqT T' 8 t0 (.c (nth .u [.i x.order, .b x.drop] 0)) (.c (nth .u [.i y.order, .b y.drop] 0)) = some (decide (x.order = y.order)) := by
      unfold eqT; rw [l1]; rfl
    have e2 : eqT T' 8 t1 (.c (nth .u [.i x.order, .b x.drop] 1)) (.c (nth .u [.i y.order, .b y.drop] 1)) = some (x.drop == y.drop) := by
      unfold eqT; rw [l2]; rfl
    rw [e1, e2]
  have hd : ∀ s : Stop, DenW (fun _ => .pointer none) (.g [.i s.order, .b s.drop]) (kval .stop s) := fun s => by
    refine ⟨#[.int .i64 s.order, .bool s.drop], rfl, rfl, fun j c hc => ?_⟩
    match j, hc with
    | 0, hc => simp at hc; subst hc; exact ⟨_, rfl, rfl⟩
    | 1, hc => simp at hc; subst hc; exact ⟨_, rfl, rfl⟩
    | j + 2, hc => simp at hc
  exact eqT_run (w := w) hT 9 kt _ _ _ _ _ 9991 he (hd x) (hd y)
theorem stop_keyOk {kt t0 t1 : Nat} (h : stChk P kt 2 [⟨0, 1, false, t0⟩, ⟨1, 1, false, t1⟩] [.i 0, .l false] true = true) (h0 : scChk P t0 none (.i 0) = true) (h1 : scChk P t1 none (.l false) = true) : KeyOk P kt .stop := by
  have heq := fun (w : World) (x y : Stop) => stop_eq (w := w) h h0 h1 x y
  have hst := h
  unfold stChk at hst
  split at hst
  · rename_i i F hi hF
    simp only [Bool.and_eq_true, decide_eq_true_eq] at hst
    obtain ⟨⟨⟨⟨_, _⟩, _⟩, hfd⟩, _⟩ := hst
    obtain ⟨f0, f1, hFl, g0, g1⟩ : ∃ f0 f1, F.toList = [f0, f1] ∧ fdChk P true ⟨0, 1, false, t0⟩ f0 = true ∧ fdChk P true ⟨1, 1, false, t1⟩ f1 = true := by
      match hl : F.toList with
      | [] => rw [hl] at hfd; simp [all2] at hfd
      | [a] => rw [hl] at hfd; simp [all2] at hfd
      | [a, b] => rw [hl] at hfd; simp [all2] at hfd; exact ⟨a, b, rfl, hfd.1, hfd.2⟩
      | a :: b :: c :: l => rw [hl] at hfd; simp [all2] at hfd
    have hF2 : F = #[f0, f1] := by rw [← Array.toList_inj, hFl]
    have plain : ∀ {t : Nat} {z : SC}, scChk P t none z = true → ∃ d, P.underlying t = some d ∧ plainD d = true ∧ kindD z d = true := fun {t z} hh => by
      unfold scChk at hh
      split at hh
      · rename_i i d _ hd
        simp only [Bool.and_eq_true] at hh
        exact ⟨d, hd, hh.1.1.1.2, hh.1.2⟩
      · cases hh
    obtain ⟨d0, u0, p0, q0⟩ := plain h0
    obtain ⟨d1, u1, p1, q1⟩ := plain h1
    obtain rfl := kind_i q0
    obtain rfl := kind_b q1
    have fd : ∀ {fd : FD} {f : Field}, fdChk P true fd f = true → f.offset = fd.off ∧ f.type = fd.ty ∧ f.name ≠ "_" := fun {fd f} hh => by
      unfold fdChk at hh
      split at hh
      · simp only [Bool.and_eq_true, decide_eq_true_eq] at hh
        obtain ⟨⟨⟨⟨⟨a, b⟩, _⟩, _⟩, _⟩, c⟩ := hh
        exact ⟨a, b, by simpa using c⟩
      · cases hh
    obtain ⟨a1, a2, a3⟩ := fd g0
    obtain ⟨b1, b2, b3⟩ := fd g1
    simp only at a1 a2 b1 b2
    refine ⟨fun w em x => ?_, fun w x es hes => ?_⟩
    · have c0 : (Go.part t0 #[.int .i64 x.order, .bool x.drop] 0).run P w = .ok (.int .i64 x.order) w := part_sc u0 p0 rfl
      have c1 : (Go.part t1 #[.int .i64 x.order, .bool x.drop] 1).run P w = .ok (.bool x.drop) w := part_sc u1 p1 rfl
      have k0 : (Instr.checkKey em 9999 t0 (.int .i64 x.order)).run P w = .ok () w := MapKept.run_checkKey u0 (by rfl) em 9998
      have k1 : (Instr.checkKey em 9999 t1 (.bool x.drop)).run P w = .ok () w := MapKept.run_checkKey u1 (by trivial) em 9998
      show (Instr.checkKey em (9999 + 1) kt (.agg #[.int .i64 x.order, .bool x.drop])).run P w = .ok () w
      unfold Instr.checkKey
      simp [run_underlying hF, hF2, a1, a2, a3, b1, b2, b3, c0, c1, k0, k1, Result.andThen]
    · have hnow : ∀ i : Nat, es = [] ∨ Instr.findNow (.struct F) (kval .stop x) es i = none := fun i => by
        cases es with
        | nil => exact .inl rfl
        | cons e l => right; simp [Instr.findNow, Instr.sameNow]
      have hask : ∀ (l : List MapEntry) (i : Nat), (∀ e ∈ l, ∃ y, e.key = kval .stop y) → ((Instr.findAsking kt (kval .stop x) l i).run P w = .ok none w ∧ ∀ e ∈ l, e.key ≠ kval .stop x) ∨
          ∃ j e, (Instr.findAsking kt (kval .stop x) l i).run P w = .ok (some (i + j, e.val)) w ∧ l[j]? = some e ∧ e.key = kval .stop x := by
        intro l
        induction l with
        | nil => intro i _; exact .inl ⟨by simp [Instr.findAsking], by simp⟩
        | cons e l ih =>
          intro i hl
          obtain ⟨y, hy⟩ := hl e (List.mem_cons_self ..)
          have hq := heq w x y
          rw [← hy] at hq
          by_cases hxy : x = y
          · refine .inr ⟨0, e, ?_, rfl, by rw [hy, hxy]⟩
            rw [Instr.findAsking]
            simp [hq, stEq_iff.2 hxy, Result.andThen]
          · have hxy' : stEq x y = false := by
              cases hc : stEq x y with
              | false => rfl
              | true => exact absurd (stEq_iff.1 hc) hxy
            have hne : e.key ≠ kval .stop x := by rw [hy]; exact fun h => hxy (kval_inj (k := .stop) h).symm
            rcases ih (i + 1) (fun z hz => hl z (List.mem_cons_of_mem _ hz)) with ⟨h1, h2⟩ | ⟨j, e', h1, h2, h3⟩
            · refine .inl ⟨?_, fun z hz => ?_⟩
              · rw [Instr.findAsking]
                simp [hq, hxy', h1, Result.andThen]
              · rcases List.mem_cons.1 hz with rfl | hz
                · exact hne
                · exact h2 z hz
            · refine .inr ⟨j + 1, e', ?_, by simpa using h2, h3⟩
              rw [Instr.findAsking]
              simp [hq, hxy', h1, Result.andThen]
              omega
      rcases hnow 0 with he | hn
      · subst he
        refine .inl ⟨?_, by simp⟩
        simp [Instr.findKey, run_underlying hF, Instr.findNow]
      · have hfk : (Instr.findKey kt (kval .stop x) es).run P w = (Instr.findAsking kt (kval .stop x) es 0).run P w := by
          simp [Instr.findKey, run_underlying hF, hn]
        rw [hfk]
        rcases hask es 0 hes with h | ⟨j, e, h1, h2, h3⟩
        · exact .inl h
        · exact .inr ⟨j, e, by simpa using h1, h2, h3⟩
  · cases hst

/-- A map's type. -/
theorem td_mp {t : Nat} {k : MK} {kt et t0 t1 : Nat} (hT : TabOk P T) (h : look T t = some (.mp k kt et t0 t1)) : P.underlying t = some (.map kt et) ∧ (∀ w : World, (zeroValue et).run P w = .ok (.int .i64 0) w) ∧ KeyOk P kt k := by
  have h1 : mpChk P t k kt et t0 t1 = true := hT t _ h
  unfold mpChk at h1
  simp only [Bool.and_eq_true] at h1
  obtain ⟨⟨hu, he⟩, hk⟩ := h1
  split at hu
  · rename_i a b hab
    simp only [Bool.and_eq_true, decide_eq_true_eq] at hu
    obtain ⟨rfl, rfl⟩ := hu
    refine ⟨hab, fun w => ?_, ?_⟩
    · unfold scChk at he
      split at he
      · rename_i i d hi hd
        simp only [Bool.and_eq_true, decide_eq_true_eq] at he
        obtain ⟨⟨⟨⟨_, _⟩, hz⟩, _⟩, _⟩ := he
        split at hz
        · rename_i v hv
          have hzv : v = .int .i64 0 := by
            unfold scz at hz
            split at hz <;> simp_all
          subst hzv
          exact run_zero hi hv w
        · cases hz
      · cases he
    · cases k with
      | int =>
        simp only at hk
        unfold scChk at hk
        split at hk
        · rename_i i d hi hd
          simp only [Bool.and_eq_true, decide_eq_true_eq] at hk
          have := kind_i hk.1.2
          subst this
          exact int_keyOk hd
        · cases hk
      | stop =>
        simp only [Bool.and_eq_true] at hk
        exact stop_keyOk hk.1.1 hk.1.2 hk.2
  · cases hu

/-! ### The operations -/
theorem mapAt_made (k : MK) : MapAt (w.alloc (.map #[] 0)) w.heap.size k (noF k.T) :=
  ⟨#[], 0, (MapKept.heap_alloc w _).1, MapKept.stamped_empty 0, by simp, fun _ _ => rfl⟩
theorem look_run {t b : Nat} {k : MK} {kt et : Nat} {f : k.T → Int} (hu : P.underlying t = some (.map kt et)) (hz : ∀ w : World, (zeroValue et).run P w = .ok (.int .i64 0) w) (hK : KeyOk P kt k) (h : MapAt w b k f) (x : k.T) :
    (Instr.lookup t (.map (some b)) (kval k x) false).run P w = .ok (.int .i64 (f x)) w := by
  obtain ⟨es, clock, hb, hs, hr, h0⟩ := h
  rcases hK.find w x es.toList (fun e he => by obtain ⟨y, hy, _⟩ := hr e he; exact ⟨y, hy⟩) with ⟨h1, h2⟩ | ⟨j, e, h1, h2, h3⟩
  · simp [Instr.lookup, run_underlying hu, MapKept.run_getObj_map hb, hK.check, h1, hz, Result.andThen, h0 x h2]
  · obtain ⟨y, hy, hv⟩ := hr e (List.mem_of_getElem? h2)
    have : y = x := kval_inj (hy.symm.trans h3)
    subst this
    simp [Instr.lookup, run_underlying hu, MapKept.run_getObj_map hb, hK.check, h1, Result.andThen, hv]
def setB (w : World) (b : Nat) (o : Obj) : World := { w with heap := w.heap.setIfInBounds b o }
theorem setB_same {b : Nat} {o o' : Obj} (hb : w.heap[b]? = some o) : (setB w b o').heap[b]? = some o' := (MapKept.heap_set hb).1
theorem setB_ne {b c : Nat} {o o' : Obj} (hb : w.heap[b]? = some o) (h : c ≠ b) : (setB w b o').heap[c]? = w.heap[c]? := (MapKept.heap_set hb).2 c h
theorem setB_size {b : Nat} {o' : Obj} : (setB w b o').heap.size = w.heap.size := by simp [setB]
/-- Entries, with another number at a key. -/
theorem reads_modify {es : Array MapEntry} {clock j : Nat} {e : MapEntry} {k : MK} {f : k.T → Int} {x : k.T} {v : Int} (hs : MapKept.Stamped es clock) (hr : ∀ e ∈ es.toList, ∃ x, e.key = kval k x ∧ e.val = .int .i64 (f x)) (h2 : es.toList[j]? = some e) (h3 : e.key = kval k x)
    (g : MapEntry → MapEntry) (hge : (g e).key = kval k x ∧ (g e).val = .int .i64 v ∧ (g e).born = e.born) :
    MapKept.Stamped (es.modify j g) clock ∧ (∀ e ∈ (es.modify j g).toList, ∃ y, e.key = kval k y ∧ e.val = .int .i64 (upF f x v y)) ∧ ∀ y, (∀ e ∈ (es.modify j g).toList, e.key ≠ kval k y) → ∀ e ∈ es.toList, e.key ≠ kval k y := by
  have hj : es[j]? = some e := by simpa using h2
  have hjs : j < es.size := (Array.getElem?_eq_some_iff.1 hj).1
  have hgj : es[j] = e := (Array.getElem?_eq_some_iff.1 hj).2
  have hl : (es.modify j g).toList = es.toList.set j (g e) := by
    rw [Array.toList_modify]
    refine List.ext_getElem? fun i => ?_
    rw [List.getElem?_modify, List.getElem?_set]
    by_cases hij : j = i
    · subst hij
      have hlt : j < es.toList.length := (List.getElem?_eq_some_iff.1 h2).1
      simp [hlt, hjs, hgj]
    · simp [hij]
  have hjl : j < es.toList.length := (List.getElem?_eq_some_iff.1 h2).1
  refine ⟨?_, fun z hz => ?_, fun y hy z hz => ?_⟩
  · rw [MapKept.stamped_iff] at hs ⊢
    obtain ⟨s1, s2, s3⟩ := hs
    have hb : (es.toList.set j (g e)).map (·.born) = es.toList.map (·.born) := by
      refine List.ext_getElem? fun i => ?_
      rw [List.getElem?_map, List.getElem?_map, List.getElem?_set]
      by_cases hij : j = i
      · subst hij; simp [hjl, hjs, hgj, hge.2.2]
      · simp [hij]
    have hk : (es.toList.set j (g e)).map (·.key) = es.toList.map (·.key) := by
      refine List.ext_getElem? fun i => ?_
      rw [List.getElem?_map, List.getElem?_map, List.getElem?_set]
      by_cases hij : j = i
      · subst hij; simp [hjl, hjs, hgj, hge.1, h3]
      · simp [hij]
    rw [hl]
    refine ⟨fun z hz => ?_, by rw [hb]; exact s2, ?_⟩
    · rcases List.mem_or_eq_of_mem_set hz with h | h
      · exact s1 z h
      · rw [h, hge.2.2]; exact s1 e (List.mem_of_getElem? h2)
    · have s3' : (es.toList.map (·.key)).Pairwise (· ≠ ·) := List.pairwise_map.2 s3
      rw [← hk] at s3'
      exact List.pairwise_map.1 s3'
  · rw [hl] at hz
    obtain ⟨i, hi, rfl⟩ := List.getElem_of_mem hz
    rw [List.getElem_set]
    split
    · exact ⟨x, hge.1, by rw [upF_same]; exact hge.2.1⟩
    · rename_i hne
      have hi' : i < es.toList.length := by simpa using hi
      obtain ⟨y, hy, hv⟩ := hr es.toList[i] (List.getElem_mem hi')
      refine ⟨y, hy, ?_⟩
      rw [upF_ne, hv]
      rintro rfl
      rw [MapKept.stamped_iff] at hs
      have s3 := List.pairwise_iff_getElem.1 hs.2.2
      have hej : es.toList[j] = e := (List.getElem?_eq_some_iff.1 h2).2
      rcases Nat.lt_or_gt_of_ne hne with h | h
      · exact s3 j i hjl hi' h (by rw [hej, h3, hy])
      · exact s3 i j hi' hjl h (by rw [hej, h3, hy])
  · obtain ⟨i, hi, rfl⟩ := List.getElem_of_mem hz
    by_cases hij : j = i
    · subst hij
      have hej : es.toList[j] = e := (List.getElem?_eq_some_iff.1 h2).2
      rw [hej, h3, ← hge.1]
      refine hy (g e) ?_
      rw [hl]
      exact List.mem_iff_getElem.2 ⟨j, by simpa using hjl, by simp⟩
    · refine hy _ ?_
      rw [hl]
      exact List.mem_iff_getElem.2 ⟨i, by simpa using hi, by rw [List.getElem_set_ne hij]⟩
theorem reads_push {es : Array MapEntry} {clock : Nat} {k : MK} {f : k.T → Int} {x : k.T} {v : Int} (hs : MapKept.Stamped es clock) (hr : ∀ e ∈ es.toList, ∃ x, e.key = kval k x ∧ e.val = .int .i64 (f x)) (h2 : ∀ e ∈ es.toList, e.key ≠ kval k x) :
    MapKept.Stamped (es.push ⟨kval k x, .int .i64 v, clock⟩) (clock + 1) ∧ (∀ e ∈ (es.push ⟨kval k x, .int .i64 v, clock⟩).toList, ∃ y, e.key = kval k y ∧ e.val = .int .i64 (upF f x v y)) ∧
      ∀ y, (∀ e ∈ (es.push ⟨kval k x, .int .i64 v, clock⟩).toList, e.key ≠ kval k y) → y ≠ x ∧ ∀ e ∈ es.toList, e.key ≠ kval k y := by
  refine ⟨MapKept.stamped_push hs h2, fun z hz => ?_, fun y hy => ⟨?_, fun z hz => hy z (by simp [Array.mem_toList_iff.1 hz])⟩⟩
  · simp only [Array.toList_push, List.mem_append, List.mem_singleton] at hz
    rcases hz with hz | rfl
    · obtain ⟨y, hy, hv⟩ := hr z hz
      refine ⟨y, hy, ?_⟩
      rw [upF_ne, hv]
      rintro rfl
      exact h2 z hz hy
    · exact ⟨x, rfl, by rw [upF_same]⟩
  · rintro rfl
    exact hy ⟨kval k y, .int .i64 v, clock⟩ (by simp) rfl
theorem update_run {t b : Nat} {k : MK} {kt et : Nat} {f : k.T → Int} (hu : P.underlying t = some (.map kt et)) (hK : KeyOk P kt k) (h : MapAt w b k f) (x : k.T) (v : Int) :
    ∃ o o', w.heap[b]? = some o ∧ (Instr.mapUpdate t (.map (some b)) (kval k x) (.int .i64 v)).run P w = .ok () (setB w b o') ∧ MapAt (setB w b o') b k (upF f x v) := by
  obtain ⟨es, clock, hb, hs, hr, h0⟩ := h
  rcases hK.find w x es.toList (fun e he => by obtain ⟨y, hy, _⟩ := hr e he; exact ⟨y, hy⟩) with ⟨h1, h2⟩ | ⟨j, e, h1, h2, h3⟩
  · obtain ⟨r1, r2, r3⟩ := reads_push (v := v) hs hr h2
    refine ⟨_, .map (es.push ⟨kval k x, .int .i64 v, clock⟩) (clock + 1), hb, ?_, _, _, setB_same hb, r1, r2, fun y hy => ?_⟩
    · simp [Instr.mapUpdate, run_underlying hu, MapKept.run_getObj_map hb, hK.check, h1, MapKept.run_setObj_map _ hb, Result.andThen, setB]
    · obtain ⟨q1, q2⟩ := r3 y hy
      rw [upF_ne _ _ q1]
      exact h0 y q2
  · have hj : es[j]? = some e := by simpa using h2
    obtain ⟨r1, r2, r3⟩ := reads_modify (v := v) hs hr h2 h3 (fun z => { z with key := kval k x, val := .int .i64 v }) ⟨rfl, rfl, rfl⟩
    have hst : (Instr.keyThatStays (kval k x) (kval k x)).run P w = .ok (kval k x) w := by simp [Instr.keyThatStays, bits_self]
    refine ⟨_, .map (es.modify j fun z => { z with key := kval k x, val := .int .i64 v }) clock, hb, ?_, _, _, setB_same hb, r1, r2, fun y hy => ?_⟩
    · simp [Instr.mapUpdate, run_underlying hu, MapKept.run_getObj_map hb, hK.check, h1, hj, h3, hst, MapKept.run_setObj_map _ hb, Result.andThen, setB]
    · have q2 := r3 y hy
      rw [upF_ne]
      · exact h0 y q2
      · rintro rfl
        exact q2 e (List.mem_of_getElem? h2) h3

theorem upF_id {α : Type} {f : α → Int} {x : α} {v : Int} (h : f x = v) : upF f x v = f := by
  funext y
  by_cases e : y = x
  · subst e; rw [upF_same, h]
  · exact upF_ne _ _ e
/-- An entry with a stamp. -/
def EntAt (w : World) (b : Nat) (k : MK) (x : k.T) (st : Nat) : Prop := ∃ (es : Array MapEntry) (clock j : Nat) (e : MapEntry), w.heap[b]? = some (.map es clock) ∧ es.toList[j]? = some e ∧ e.key = kval k x ∧ e.born = st
theorem entry_run {t b : Nat} {k : MK} {kt et : Nat} {f : k.T → Int} (hu : P.underlying t = some (.map kt et)) (hz : ∀ w : World, (zeroValue et).run P w = .ok (.int .i64 0) w) (hK : KeyOk P kt k) (h : MapAt w b k f) (x : k.T) :
    ∃ o o' st, w.heap[b]? = some o ∧ (Instr.mapEntry t (.map (some b)) (kval k x)).run P w = .ok (.tuple #[.int .i64 (f x), goInt (st : Nat)]) (setB w b o') ∧ MapAt (setB w b o') b k f ∧ EntAt (setB w b o') b k x st := by
  obtain ⟨es, clock, hb, hs, hr, h0⟩ := h
  rcases hK.find w x es.toList (fun e he => by obtain ⟨y, hy, _⟩ := hr e he; exact ⟨y, hy⟩) with ⟨h1, h2⟩ | ⟨j, e, h1, h2, h3⟩
  · have hx := h0 x h2
    obtain ⟨r1, r2, r3⟩ := reads_push (v := 0) hs hr h2
    rw [upF_id hx] at r2
    refine ⟨_, .map (es.push ⟨kval k x, .int .i64 0, clock⟩) (clock + 1), clock, hb, ?_, ⟨_, _, setB_same hb, r1, r2, fun y hy => h0 y (r3 y hy).2⟩, _, _, es.size, ⟨kval k x, .int .i64 0, clock⟩, setB_same hb, by simp, rfl, rfl⟩
    simp [Instr.mapEntry, run_underlying hu, MapKept.run_getObj_map hb, hK.check, h1, hz, MapKept.run_setObj_map _ hb, Result.andThen, setB, hx]
  · have hj : es[j]? = some e := by simpa using h2
    obtain ⟨y, hy, hv⟩ := hr e (List.mem_of_getElem? h2)
    have hyx : y = x := kval_inj (hy.symm.trans h3)
    subst hyx
    obtain ⟨r1, r2, r3⟩ := reads_modify (v := f y) hs hr h2 h3 (fun z => { z with key := kval k y }) ⟨rfl, hv, rfl⟩
    rw [upF_id rfl] at r2
    have hst : (Instr.keyThatStays (kval k y) (kval k y)).run P w = .ok (kval k y) w := by simp [Instr.keyThatStays, bits_self]
    have hjs : j < es.size := (Array.getElem?_eq_some_iff.1 hj).1
    have hgj : es[j] = e := (Array.getElem?_eq_some_iff.1 hj).2
    refine ⟨_, .map (es.modify j fun z => { z with key := kval k y }) clock, e.born, hb, ?_, ⟨_, _, setB_same hb, r1, r2, fun z hz => h0 z (r3 z hz)⟩, _, _, j, { e with key := kval k y }, setB_same hb, ?_, rfl, rfl⟩
    · simp [Instr.mapEntry, run_underlying hu, MapKept.run_getObj_map hb, hK.check, h1, hj, h3, hst, MapKept.run_setObj_map _ hb, Result.andThen, setB, hv]
    · rw [Array.getElem?_toList, Array.getElem?_modify]
      simp [hj]
theorem estore_run {t b st : Nat} {k : MK} {f : k.T → Int} (h : MapAt w b k f) {x : k.T} (he : EntAt w b k x st) (v : Int) :
    ∃ o o', w.heap[b]? = some o ∧ (Instr.entryStore t (.map (some b)) (goInt (st : Nat)) (.int .i64 v)).run P w = .ok () (setB w b o') ∧ MapAt (setB w b o') b k (upF f x v) := by
  obtain ⟨es, clock, hb, hs, hr, h0⟩ := h
  obtain ⟨es', clock', j, e, hb', h2, h3, h4⟩ := he
  rw [hb] at hb'
  injection hb' with hb'
  injection hb' with e1 e2
  subst e1; subst e2
  obtain ⟨r1, r2, r3⟩ := reads_modify (v := v) hs hr h2 h3 (fun z => { z with val := .int .i64 v }) ⟨h3, rfl, rfl⟩
  have hidx : es.findIdx? (fun x => ((x.born : Nat) : Int) == ((st : Nat) : Int)) = some j := by
    rw [idx_arr, ← h4]
    exact idx_born ((MapKept.stamped_iff es clock).1 hs).2.1 h2
  refine ⟨_, .map (es.modify j fun z => { z with val := .int .i64 v }) clock, hb, ?_, _, _, setB_same hb, r1, r2, fun y hy => ?_⟩
  · simp [Instr.entryStore, MapKept.run_getObj_map hb, goInt, asInt, asIntOf, hidx, MapKept.run_setObj_map _ hb, Result.andThen, setB]
  · have q2 := r3 y hy
    rw [upF_ne]
    · exact h0 y q2
    · rintro rfl
      exact q2 e (List.mem_of_getElem? h2) h3

section
variable {B : Nat} {w0 : Base} {ρ : Nat → Value} {φ : Nat → Nat → Prop} {U : Nat → Prop} {H : Nat → HB} {n : Nat}
theorem keyC_den {k : MK} {s : SV} {y : k.T} {v : Value} (h : keyC k s = some y) (hd : DenV ρ s v) : v = kval k y := by
  unfold keyC at h
  have two : ∀ {o : Int} {c : SC} {d : Bool}, (DenC ρ c = fun v => v = .bool d) → DenV ρ (.w (.g [.i o, c])) v → v = .agg #[.int .i64 o, .bool d] := by
    rintro o c d hc ⟨vs, rfl, hl⟩
    have hs := hl.1
    obtain ⟨a, ha, hda⟩ := hl.2 0 _ rfl
    obtain ⟨b, hb, hdb⟩ := hl.2 1 _ rfl
    rw [hc] at hdb
    have hda : a = .int .i64 o := hda
    subst hda
    subst hdb
    congr 1
    refine Array.ext_getElem? fun j => ?_
    match j with
    | 0 => rw [ha]; rfl
    | 1 => rw [hb]; rfl
    | j + 2 => rw [Array.getElem?_eq_none (by rw [hs]; simp), Array.getElem?_eq_none (by simp)]
  split at h
  · injection h with h; subst h; exact hd
  · injection h with h; subst h; exact two rfl hd
  · injection h with h; subst h; exact two rfl hd
  · cases h
theorem mem_map {id : Nat} {k : MK} {f : k.T → Int} (hm : Mem B w0 ρ φ U H w) (hH : H id = .map k f) : ∃ b, ρ id = .map (some b) ∧ φ id b ∧ MapAt w b k f := by
  have := hm.holds id
  rw [hH] at this
  exact this
theorem mapAt_lt {b : Nat} {k : MK} {f : k.T → Int} (h : MapAt w b k f) : b < w.heap.size := by
  obtain ⟨es, clock, hb, _⟩ := h
  exact (Array.getElem?_eq_some_iff.1 hb).1
theorem fine_makeMap {t : Nat} {k : MK} {ev : Operand → Value} (hm : Mem B w0 ρ φ U H w) (hn : ¬ U n) (dst) (tt) (pos) (af) (gd) :
    Fine B w0 ρ U H ((execOp ev ⟨dst, .makeMap t none, tt, pos, af, gd⟩).run P w) (.w (.c (.m n))) [(n, .map k (noF k.T))] n (n + 1) := by
  have hp := hm.put (w' := w.alloc (.map #[] 0)) n (.map k (noF k.T)) (.map (some w.heap.size)) (fun b => b = w.heap.size) (fun h => absurd h hn)
    (fun b hb _ => Below.heap_alloc w _ b hb) rfl rfl rfl (by simp) trivial ⟨w.heap.size, rfl, rfl, mapAt_made k⟩ (fun _ b hb => by subst hb; simp) (fun b hb => .inl (by omega))
  refine ⟨.map (some w.heap.size), _, _, _, .inl ?_, hp.mono fun x hx => ?_, fun x hx => upd_ne _ _ (by rintro rfl; exact hn hx), ⟨(upd_same _ _ _).symm, _, rfl⟩, ?_⟩
  · simp [execOp, run_makeMap]
  · rcases hx with hx | rfl
    · exact .inl hx
    · exact .inr ⟨Nat.le_refl _, Nat.lt_succ_self _⟩
  · intro x hx
    simp only [SC.ids] at hx
    subst hx
    exact .inr ⟨Nat.le_refl _, Nat.lt_succ_self _⟩
theorem fine_lookup {t id : Nat} {k : MK} {kt et t0 t1 : Nat} {f : k.T → Int} {y : k.T} {m x : Operand} {s : SV} {ev : Operand → Value} (hT : TabOk P T) (ht : look T t = some (.mp k kt et t0 t1)) (hm : Mem B w0 ρ φ U H w) (hH : H id = .map k f)
    (hd : DenV ρ (.w (.c (.m id))) (ev m)) (hx : DenV ρ s (ev x)) (hy : keyC k s = some y) (dst) (tt) (pos) (af) (gd) :
    Fine B w0 ρ U H ((execOp ev ⟨dst, .lookup t m x false, tt, pos, af, gd⟩).run P w) (.w (.c (.i (f y)))) [] n n := by
  obtain ⟨hu, hz, hK⟩ := td_mp hT ht
  obtain ⟨b, hρ, _, hM⟩ := mem_map hm hH
  have h1 : ev m = .map (some b) := hd.1.trans hρ
  refine fine_same hm (u := .int .i64 (f y)) ?_ rfl (fun _ h => h.elim)
  simp [execOp, h1, keyC_den hy hx, look_run hu hz hK hM y]
theorem mem_turnMap {id b : Nat} {k : MK} {f g : k.T → Int} {o' : Obj} (hm : Mem B w0 ρ φ U H w) (hH : H id = .map k f) (hρ : ρ id = .map (some b)) (hφ : φ id b) (hM : MapAt (setB w b o') b k g) (hb : ∃ o, w.heap[b]? = some o) :
    Mem B w0 (upd ρ id (ρ id)) (upd φ id (φ id)) (fun y => U y ∨ y = id) (upd H id (.map k g)) (setB w b o') := by
  have hl : (H id).live = true := by rw [hH]; rfl
  have ho : (H id).own = true := by rw [hH]; rfl
  obtain ⟨o, hb⟩ := hb
  refine hm.put id _ (ρ id) (φ id) (fun _ => rfl) (fun c hc h => ?_) rfl rfl rfl (by rw [setB_size]; exact Nat.le_refl _) trivial ?_ (fun _ c hc => by rw [setB_size]; exact hm.lt id hl c hc) (fun c hc => .inr (.inl ⟨ho, hc⟩))
  · rcases h with h | h
    · exact absurd ho h
    · exact setB_ne hb (by rintro rfl; exact h hφ)
  · exact ⟨b, hρ, hφ, hM⟩
theorem fine_update {t id : Nat} {k : MK} {kt et t0 t1 : Nat} {f : k.T → Int} {y : k.T} {a : Int} {m x v : Operand} {s : SV} {ev : Operand → Value} (hT : TabOk P T) (ht : look T t = some (.mp k kt et t0 t1)) (hm : Mem B w0 ρ φ U H w) (hH : H id = .map k f)
    (hd : DenV ρ (.w (.c (.m id))) (ev m)) (hx : DenV ρ s (ev x)) (hy : keyC k s = some y) (hv : DenV ρ (.w (.c (.i a))) (ev v)) (dst) (tt) (pos) (af) (gd) :
    Fine B w0 ρ U H ((execOp ev ⟨dst, .mapUpdate t m x v, tt, pos, af, gd⟩).run P w) .u [(id, .map k (upF f y a))] n n := by
  obtain ⟨hu, hz, hK⟩ := td_mp hT ht
  obtain ⟨b, hρ, hφ, hM⟩ := mem_map hm hH
  have h1 : ev m = .map (some b) := hd.1.trans hρ
  have h2 : ev v = .int .i64 a := hv
  obtain ⟨o, o', hb, hrun, hM'⟩ := update_run hu hK hM y a
  have hmt := mem_turnMap hm hH hρ hφ hM' ⟨o, hb⟩
  refine ⟨undef, _, _, _, .inr ⟨?_, rfl⟩, hmt.mono fun q hq => ?_, fun q hq => ?_, trivial, fun q hq => hq.elim⟩
  · simp [execOp, h1, h2, keyC_den hy hx, hrun]
  · rcases hq with hq | rfl
    · exact .inl hq
    · exact .inl (hm.used _ (by rw [hH]; rfl))
  · by_cases e : q = id
    · subst e; exact upd_same _ _ _
    · exact upd_ne _ _ e
theorem td_ar {t m e : Nat} (hT : TabOk P T) (h : look T t = some (.ar m e)) : ∃ i, P.underlying t = some (.array m e) ∧ P.info? e = some i ∧ i.size = 1 := by
  have h1 : arChk P t m e = true := hT t _ h
  unfold arChk at h1
  split at h1
  · rename_i a b i h2 h3
    simp only [Bool.and_eq_true, decide_eq_true_eq] at h1
    obtain ⟨⟨rfl, rfl⟩, h4⟩ := h1
    exact ⟨i, h2, h3, h4⟩
  · cases h1
theorem at_sound {t : Nat} {x ix : Operand} {s r : SV} {out : Out} {ev : Operand → Value} (hT : TabOk P T) (hm : Mem B w0 ρ φ U H w) (h : stepAt T t s r n = some out) (hx : DenV ρ s (ev x)) (hw : s.wf U) (hi : DenV ρ r (ev ix)) (hc : holdsO out.c) (dst) (tt) (pos) (af) (gd) :
    Fine B w0 ρ U H ((execOp ev ⟨dst, .indexAddr t x ix, tt, pos, af, gd⟩).run P w) out.v out.d n out.n := by
  unfold stepAt at h
  split at h
  · rename_i m e id off j ht
    injection h with h
    subst h
    obtain ⟨i, hu, he, hs⟩ := td_ar hT ht
    obtain ⟨g, hρ, hv⟩ := hx
    have hi : ev ix = .int .i64 j := hi
    have hc : 0 ≤ j ∧ j < (m : Int) := hc
    refine fine_same hm (u := .pointer (some ⟨g, off + j.toNat, none⟩)) ?_ ⟨g, hρ, rfl⟩ (fun y hy => hw y hy)
    have ha : (⟨g, off, none⟩ : Addr).add (j.toNat * 1) = ⟨g, off + j.toNat, none⟩ := by
      unfold Addr.add
      by_cases h0 : j.toNat * 1 = 0
      · rw [if_pos h0]; simp at h0; simp [h0]
      · rw [if_neg h0]; simp
    simp [execOp, Instr.indexAt, hv, hi, asIntOf, run_underlying hu, Instr.sureAddr, hc.1, hc.2, run_sizeOf' he, hs, ← ha, Result.andThen]
  · cases h
theorem lookup_sound {t : Nat} {m x : Operand} {s r : SV} {Hl : Heap} {out : Out} {ev : Operand → Value} (hT : TabOk P T) (hH : ∀ id, (hget Hl id).live = true → H id = hget Hl id) (hm : Mem B w0 ρ φ U H w) (h : stepLookup T t s r Hl n = some out) (hd : DenV ρ s (ev m)) (hx : DenV ρ r (ev x)) (dst) (tt) (pos) (af) (gd) :
    Fine B w0 ρ U H ((execOp ev ⟨dst, .lookup t m x false, tt, pos, af, gd⟩).run P w) out.v out.d n out.n := by
  unfold stepLookup at h
  split at h
  · rename_i k kt et t0 t1 id ht
    split at h
    · rename_i k' f y hh hy
      split at h
      · rename_i e _
        injection h with h
        subst h
        have hl : H id = .map k' f := by
          have := hH id (by rw [hh]; rfl)
          rw [this, hh]
        cases e
        exact fine_lookup hT ht hm hl hd hx hy dst tt pos af gd
      · cases h
    · cases h
  · cases h
theorem update_sound {t : Nat} {m x v : Operand} {s r q : SV} {Hl : Heap} {out : Out} {ev : Operand → Value} (hT : TabOk P T) (hH : ∀ id, (hget Hl id).live = true → H id = hget Hl id) (hm : Mem B w0 ρ φ U H w) (h : stepUpdate T t s r q Hl n = some out) (hd : DenV ρ s (ev m)) (hx : DenV ρ r (ev x)) (hv : DenV ρ q (ev v)) (dst) (tt) (pos) (af) (gd) :
    Fine B w0 ρ U H ((execOp ev ⟨dst, .mapUpdate t m x v, tt, pos, af, gd⟩).run P w) out.v out.d n out.n := by
  unfold stepUpdate at h
  split at h
  · rename_i k kt et t0 t1 id a ht
    split at h
    · rename_i k' f y hh hy
      split at h
      · rename_i e _
        injection h with h
        subst h
        have hl : H id = .map k' f := by
          have := hH id (by rw [hh]; rfl)
          rw [this, hh]
        cases e
        exact fine_update hT ht hm hl hd hx hy hv dst tt pos af gd
      · cases h
    · cases h
  · cases h
end
end
end Go.Eng

/- The evaluation of one operation is sound: arrays that are read; arrays of the call's own, of elements without slices. -/
set_option linter.unusedVariables false
set_option linter.unusedSimpArgs false
namespace Go.Eng
open Go Go.RowKit

theorem FK.size_pos (k : FK) : 0 < k.size := by cases k <;> decide
theorem K.size_pos (k : K) : 0 < k.size := by
  cases k with
  | f k => exact k.size_pos
  | route => exact Nat.succ_pos _
  | rows k => exact Nat.succ_pos _
theorem add_zero (a : Addr) : a.add 0 = a := by simp [Addr.add]

/-! ### The cells of elements without slices -/
def flatV (k : FK) (xs : List k.T) : List Value := xs.flatMap fun x => (k.enc x).map cvv
theorem flatV_nil (k : FK) : flatV k [] = [] := rfl
theorem flatV_cons (k : FK) (x : k.T) (xs : List k.T) : flatV k (x :: xs) = (k.enc x).map cvv ++ flatV k xs := rfl
theorem flatV_append (k : FK) (xs ys : List k.T) : flatV k (xs ++ ys) = flatV k xs ++ flatV k ys := by simp [flatV]
theorem flatV_length (k : FK) (xs : List k.T) : (flatV k xs).length = xs.length * k.size := by
  induction xs with
  | nil => simp [flatV]
  | cons x xs ih => rw [flatV_cons, List.length_append, List.length_map, k.enc_length, ih, List.length_cons, Nat.add_mul]; omega
theorem flatV_get (k : FK) (xs : List k.T) (i j : Nat) (x : k.T) (cv : CV) (hx : xs[i]? = some x) (hj : (k.enc x)[j]? = some cv) : (flatV k xs)[i * k.size + j]? = some (cvv cv) := by
  induction xs generalizing i with
  | nil => simp at hx
  | cons y ys ih =>
    have hjl : j < k.size := by rw [← k.enc_length x]; exact (List.getElem?_eq_some_iff.1 hj).1
    rw [flatV_cons]
    cases i with
    | zero =>
      simp at hx; subst hx
      rw [List.getElem?_append_left (by rw [List.length_map, k.enc_length]; omega)]
      simp [hj]
    | succ i =>
      simp at hx
      rw [List.getElem?_append_right (by rw [List.length_map, k.enc_length, Nat.succ_mul]; omega), List.length_map, k.enc_length]
      have : (i + 1) * k.size + j - k.size = i * k.size + j := by rw [Nat.succ_mul]; omega
      rw [this]
      exact ih i hx
theorem flatV_inv (k : FK) (xs : List k.T) (p : Nat) (u : Value) (h : (flatV k xs)[p]? = some u) : ∃ i j x cv, p = i * k.size + j ∧ xs[i]? = some x ∧ (k.enc x)[j]? = some cv ∧ u = cvv cv := by
  have hp := k.size_pos
  have hlt : p < xs.length * k.size := by rw [← flatV_length]; exact (List.getElem?_eq_some_iff.1 h).1
  have hi : p / k.size < xs.length := (Nat.div_lt_iff_lt_mul hp).2 hlt
  have hj : p % k.size < (k.enc xs[p / k.size]).length := by rw [k.enc_length]; exact Nat.mod_lt _ hp
  have e : p = p / k.size * k.size + p % k.size := by rw [Nat.mul_comm]; exact (Nat.div_add_mod p k.size).symm
  refine ⟨p / k.size, p % k.size, xs[p / k.size], (k.enc xs[p / k.size])[p % k.size], e, List.getElem?_eq_getElem hi, List.getElem?_eq_getElem hj, ?_⟩
  have := flatV_get k xs (p / k.size) (p % k.size) _ _ (List.getElem?_eq_getElem hi) (List.getElem?_eq_getElem hj)
  rw [← e, h] at this
  exact Option.some.inj this
def isFlat : CV → Bool
  | .sl _ _ => false
  | _ => true
theorem FK.enc_flat (k : FK) (x : k.T) : ∀ cv ∈ k.enc x, isFlat cv = true := by
  cases k <;> simp [FK.enc, isFlat]
theorem enc_at_flat {k : FK} {x : k.T} {j : Nat} {cv : CV} (h : (k.enc x)[j]? = some cv) : isFlat cv = true := k.enc_flat x cv (List.mem_of_getElem? h)
theorem CVat_flat {w : World} {φ : Nat → Prop} {cv : CV} {u : Value} (h : isFlat cv = true) : CVat w φ cv u ↔ u = cvv cv := by
  cases cv <;> simp_all [CVat, cvv, isFlat]
theorem CVo_flat {w : World} {φ : Nat → Prop} {cv : CV} {u : Value} (h : isFlat cv = true) : CVo w φ cv u ↔ u = cvv cv := by
  cases cv <;> simp_all [CVo, cvv, isFlat]
theorem R0_flat {cv : CV} {u : Value} (h : isFlat cv = true) : R0 cv u ↔ u = cvv cv := by
  cases cv <;> simp_all [R0, cvv, isFlat]
theorem cvv_one (cv : CV) : (cvv cv).oneCell' = true := by cases cv <;> rfl

theorem own_flat {w : World} {φ : Nat → Prop} {k : FK} {e : Nat} {v : Value} {xs : List k.T} : Own w φ (.f k) e v xs ↔ (∀ g, v.ownBlock = some g → φ g) ∧ w.ownsRow 0 e k.size v xs.length (flatV k xs) := by
  constructor
  · rintro ⟨h0, cs, ho, hc, _⟩
    refine ⟨h0, ?_⟩
    have : cs = flatV k xs := by
      apply List.ext_getElem?
      intro p
      by_cases hp : p < xs.length * k.size
      · have hl : p < (flatV k xs).length := by rw [flatV_length]; exact hp
        obtain ⟨i, j, x, cv, e1, h1, h2, h3⟩ := flatV_inv k xs p _ (List.getElem?_eq_getElem hl)
        obtain ⟨u, hu, hr⟩ := hc i x h1 j cv h2
        rw [CVo_flat (enc_at_flat h2)] at hr
        rw [List.getElem?_eq_getElem hl, h3, e1]
        rw [← hr]; exact hu
      · rw [List.getElem?_eq_none (by rw [ho.1]; show xs.length * k.size ≤ p; omega), List.getElem?_eq_none (by rw [flatV_length]; omega)]
    rw [← this]
    exact ho
  · rintro ⟨h0, ho⟩
    refine ⟨h0, flatV k xs, ho, fun i x hx j cv hj => ⟨cvv cv, flatV_get k xs i j x cv hx hj, (CVo_flat (enc_at_flat hj)).2 rfl⟩, trivial⟩

theorem CVo.view {w : World} {φ : Nat → Prop} : ∀ c u, CVo w φ c u → CVat w φ c u
  | .i _, _, h => h
  | .b _, _, h => h
  | .sl k xs, u, h => by
    obtain ⟨h0, e, cs, ho, hc⟩ := h
    rcases ho.2 with ⟨rfl, hn⟩ | ⟨g, cap, cur, rfl, _, hh, h1, h2, h3, h4⟩
    · have : xs = [] := List.eq_nil_of_length_eq_zero hn
      subst this
      exact ⟨none, 0, rfl, by simp, by decide, fun h => absurd rfl h, fun a ha => by cases ha⟩
    · refine ⟨_, cap, rfl, h1, h2, fun _ => ⟨_, rfl, h0 g rfl⟩, fun a ha i x hx j cv hj => ?_⟩
      injection ha with ha
      subst ha
      have hu := hc i x hx j cv hj
      refine ⟨cvv cv, ?_, (R0_flat (enc_at_flat hj)).2 rfl⟩
      rw [plain_addr, plain_addr, cell_of_row w g _ cur e (0, 0) hh]
      rw [← h4, List.getElem?_take] at hu
      split at hu
      · simpa using hu
      · cases hu
theorem Own.view {w : World} {φ : Nat → Prop} {k : K} {e : Nat} {v : Value} {xs : List k.T} (h : Own w φ k e v xs) : View w φ k v xs := by
  obtain ⟨h0, cs, ho, hc, _⟩ := h
  rcases ho.2 with ⟨rfl, hn⟩ | ⟨g, cap, cur, rfl, _, hh, h1, h2, h3, h4⟩
  · have : xs = [] := List.eq_nil_of_length_eq_zero hn
    subst this
    exact ⟨none, 0, rfl, by simp, by decide, fun h => absurd rfl h, fun a ha => by cases ha⟩
  · refine ⟨_, cap, rfl, h1, h2, fun _ => ⟨_, rfl, h0 g rfl⟩, fun a ha i x hx j cv hj => ?_⟩
    injection ha with ha
    subst ha
    obtain ⟨u, hu, hr⟩ := hc i x hx j cv hj
    refine ⟨u, ?_, CVat.widen (fun b hb => hb.1) _ _ (CVo.view _ _ hr)⟩
    rw [plain_addr, plain_addr, cell_of_row w g _ cur e (0, 0) hh]
    rw [← h4, List.getElem?_take] at hu
    split at hu
    · simpa using hu
    · cases hu

section
variable {P : Program} {T : Tab} {B : Nat} {w0 : Base} {w : World} {ρ : Nat → Value} {φ : Nat → Nat → Prop} {U : Nat → Prop} {H : Nat → HB} {n : Nat}

theorem mem_view {id e : Nat} {k : K} {own : Bool} {xs : List k.T} (hm : Mem B w0 ρ φ U H w) (h : H id = .arr k e own xs) : View w (φ id) k (ρ id) xs := by
  have := hm.holds id
  rw [h] at this
  cases own with
  | true => exact Own.view this
  | false => exact this
theorem mem_own {id e : Nat} {k : FK} {xs : List k.T} (hm : Mem B w0 ρ φ U H w) (h : H id = .arr (.f k) e true xs) : (∀ g, (ρ id).ownBlock = some g → φ id g) ∧ w.ownsRow 0 e k.size (ρ id) xs.length (flatV k xs) := by
  have := hm.holds id
  rw [h] at this
  exact own_flat.1 this
theorem el_run {t e : Nat} {k : K} {z : SC} (hT : TabOk P T) (ht : look T t = some (.sc (some (k, e)) z)) : ∃ i zv, P.underlying t = some (.slice e) ∧ P.info? e = some i ∧ i.size = k.size ∧ i.bytes ≤ k.byt ∧ i.zero = some zv ∧ all2 cvz (k.enc k.zero) zv.cells.toList = true := by
  obtain ⟨i, d, v, hi, hs, hu, hp, hz, hsz, hk, hel⟩ := td_sc hT ht
  obtain ⟨rfl, h⟩ := hel k e rfl
  unfold elChk at h
  split at h
  · rename_i i' hi'
    simp only [Bool.and_eq_true, decide_eq_true_eq] at h
    obtain ⟨⟨h1, h2⟩, h3⟩ := h
    split at h3
    · rename_i zv hzv
      exact ⟨i', zv, hu, hi', h1, h2, hzv, h3⟩
    · cases h3
  · cases h

/-- The address of an element. -/
theorem el_addr {id ix sz off e : Nat} {k : K} {own : Bool} {xs : List k.T} {v : Value} (hm : Mem B w0 ρ φ U H w) (h : H id = .arr k e own xs) (hd : DenV ρ (.w (.c (.el id ix sz off))) v) :
    ∃ a : Addr, v = .pointer (some ((a.add (ix * sz)).add off)) ∧ ∀ x, xs[ix]? = some x → φ id a.block ∧ (sz = k.size → ∀ (j : Nat) cv, (k.enc x)[j]? = some cv → ∃ u, w.cell? ((a.add (ix * sz)).add j) = some u ∧ CVat w (φ id) cv u) := by
  obtain ⟨a, n', c, hρ, hv⟩ := hd
  obtain ⟨A, c', hv', h1, h2, h3, h4⟩ := mem_view hm h
  rw [hρ] at hv'
  injection hv' with hA hn hc
  subst hA
  refine ⟨a, hv, fun x hx => ⟨?_, ?_⟩⟩
  · obtain ⟨a', ha', hφ⟩ := h3 (by rintro rfl; simp at hx)
    injection ha' with ha'
    subst ha'
    exact hφ
  · rintro rfl j cv hj
    exact h4 a rfl ix x hx j cv hj
theorem getD_at {k : K} {xs : List k.T} {ix : Nat} (h : ix < xs.length) : xs[ix]? = some (xs.getD ix k.zero) := by
  rw [List.getD_eq_getElem?_getD, List.getElem?_eq_getElem h]; rfl
theorem nth_at {α : Type} {d : α} {l : List α} {j : Nat} (h : j < l.length) : l[j]? = some (nth d l j) := by
  rw [nth_eq, List.getD_eq_getElem?_getD, List.getElem?_eq_getElem h]; rfl

theorem load_el_sc {t id ix sz off e : Nat} {k : K} {own : Bool} {xs : List k.T} {kk : Option (K × Nat)} {z : SC} {x : Operand} {ev : Operand → Value} (hT : TabOk P T) (ht : look T t = some (.sc kk z)) (hm : Mem B w0 ρ φ U H w) (hH : H id = .arr k e own xs)
    (hd : DenV ρ (.w (.c (.el id ix sz off))) (ev x)) (ho : off < k.size) (hs : sz = k.size) (hi : ix < xs.length) (dst) (tt) (pos) (af) (gd) :
    ∃ u, (execOp ev ⟨dst, .load t x, tt, pos, af, gd⟩).run P w = .ok (.value u) w ∧ CVat w (φ id) (nth (.i 0) (k.enc (xs.getD ix k.zero)) off) u := by
  obtain ⟨i, d, v, hi', hs', hu, hp, _⟩ := td_sc hT ht
  obtain ⟨a, hv, h1⟩ := el_addr hm hH hd
  obtain ⟨u, hcell, hr⟩ := (h1 _ (getD_at hi)).2 hs off _ (nth_at (d := .i 0) (by rw [k.enc_length]; exact ho))
  refine ⟨u, ?_, hr⟩
  simp [execOp, hv, Instr.loadAt, Instr.sureAddr, loadVar, run_isAgg_sc hu hp, hcell]
theorem fine_load_el_i {t id ix sz off e : Nat} {k : K} {own : Bool} {xs : List k.T} {kk : Option (K × Nat)} {z : SC} {x : Operand} {m : Int} {ev : Operand → Value} (hT : TabOk P T) (ht : look T t = some (.sc kk z)) (hm : Mem B w0 ρ φ U H w) (hH : H id = .arr k e own xs)
    (hd : DenV ρ (.w (.c (.el id ix sz off))) (ev x)) (ho : off < k.size) (hs : sz = k.size) (hi : ix < xs.length) (hc : nth (.i 0) (k.enc (xs.getD ix k.zero)) off = .i m) (dst) (tt) (pos) (af) (gd) :
    Fine B w0 ρ U H ((execOp ev ⟨dst, .load t x, tt, pos, af, gd⟩).run P w) (.w (.c (.i m))) [] n n := by
  obtain ⟨u, hr, hv⟩ := load_el_sc hT ht hm hH hd ho hs hi dst tt pos af gd
  rw [hc] at hv
  exact fine_same hm hr hv (fun _ h => h.elim)
theorem fine_load_el_b {t id ix sz off e : Nat} {k : K} {own : Bool} {xs : List k.T} {kk : Option (K × Nat)} {z : SC} {x : Operand} {m : Bool} {ev : Operand → Value} (hT : TabOk P T) (ht : look T t = some (.sc kk z)) (hm : Mem B w0 ρ φ U H w) (hH : H id = .arr k e own xs)
    (hd : DenV ρ (.w (.c (.el id ix sz off))) (ev x)) (ho : off < k.size) (hs : sz = k.size) (hi : ix < xs.length) (hc : nth (.i 0) (k.enc (xs.getD ix k.zero)) off = .b m) (dst) (tt) (pos) (af) (gd) :
    Fine B w0 ρ U H ((execOp ev ⟨dst, .load t x, tt, pos, af, gd⟩).run P w) (.w (.c (.b m))) [] n n := by
  obtain ⟨u, hr, hv⟩ := load_el_sc hT ht hm hH hd ho hs hi dst tt pos af gd
  rw [hc] at hv
  exact fine_same hm hr hv (fun _ h => h.elim)

/-- A new name for a slice that lies in something that is read. -/
theorem mem_newview {id x e : Nat} {k : K} {xs : List k.T} {fk : FK} {ys : List fk.T} {u : Value} (hm : Mem B w0 ρ φ U H w) (hH : H id = .arr k e false xs) (hx : ¬ U x) (hu : CVat w (φ id) (.sl fk ys) u) :
    Mem B w0 (upd ρ x u) (upd φ x (φ id)) (fun y => U y ∨ y = x) (upd H x (.arr (.f fk) 0 false ys)) w := by
  have hlive : (H id).live = true := by rw [hH]; rfl
  have hne : id ≠ x := by rintro rfl; exact hx (hm.used _ hlive)
  refine hm.put x _ u (φ id) (fun h => absurd h hx) (fun _ _ _ => rfl) rfl rfl rfl (Nat.le_refl _) trivial ?_ (fun _ b hb => hm.lt id hlive b hb) (fun b hb => .inr (.inr ⟨rfl, id, hne, hlive, by rw [hH]; rfl, hb⟩))
  exact ViewR.agree hu (fun _ _ => rfl) (fun c v hr => by
    cases c with
    | i n => exact hr
    | b n => exact hr
    | sl k y => exact hr.elim)
theorem mem_slice {w : World} {φ : Nat → Prop} {fk : FK} {ys : List fk.T} {u : Value} (hu : CVat w φ (.sl fk ys) u) : ∃ A n c, u = .slice A n c := by
  obtain ⟨A, c, h, _⟩ := hu
  exact ⟨_, _, _, h⟩
theorem fine_load_el_sl {t id ix sz off e : Nat} {k : K} {xs : List k.T} {kk : Option (K × Nat)} {z : SC} {x : Operand} {fk : FK} {ys : List fk.T} {ev : Operand → Value} (hT : TabOk P T) (ht : look T t = some (.sc kk z)) (hm : Mem B w0 ρ φ U H w) (hH : H id = .arr k e false xs)
    (hn : ¬ U n) (hd : DenV ρ (.w (.c (.el id ix sz off))) (ev x)) (ho : off < k.size) (hs : sz = k.size) (hi : ix < xs.length) (hc : nth (.i 0) (k.enc (xs.getD ix k.zero)) off = .sl fk ys) (dst) (tt) (pos) (af) (gd) :
    Fine B w0 ρ U H ((execOp ev ⟨dst, .load t x, tt, pos, af, gd⟩).run P w) (.w (.c (.fs n))) [(n, .arr (.f fk) 0 false ys)] n (n + 1) := by
  obtain ⟨u, hr, hv⟩ := load_el_sc hT ht hm hH hd ho hs hi dst tt pos af gd
  rw [hc] at hv
  refine ⟨u, w, _, _, .inl hr, (mem_newview hm hH hn hv).mono fun y hy => ?_, fun y hy => upd_ne _ _ (by rintro rfl; exact hn hy), ⟨(upd_same _ _ _).symm, mem_slice hv⟩, fun y hy => ?_⟩
  · rcases hy with hy | rfl
    · exact .inl hy
    · exact .inr ⟨Nat.le_refl _, Nat.lt_succ_self _⟩
  · simp only [SC.ids] at hy
    subst hy
    exact .inr ⟨Nat.le_refl _, Nat.lt_succ_self _⟩

/-- Cells of an element, all of them. -/
theorem cells_fine {id e : Nat} {k : K} {own : Bool} {xs : List k.T} (w : World) : ∀ (l : List CV) (vs : List Value) (ρ : Nat → Value) (φ : Nat → Nat → Prop) (U : Nat → Prop) (H : Nat → HB) (n : Nat), Mem B w0 ρ φ U H w → H id = .arr k e own xs → (own = false ∨ (cells l n).2.1 = []) →
    (∀ x, n ≤ x → x < (cells l n).2.2 → ¬ U x) → vs.length = l.length → (∀ (j : Nat) cv, l[j]? = some cv → ∃ u, vs[j]? = some u ∧ CVat w (φ id) cv u) →
    ∃ ρ' φ', Mem B w0 ρ' φ' (U' U n (cells l n).2.2) (applyD H (cells l n).2.1) w ∧ (∀ x, U x → ρ' x = ρ x) ∧ DenL ρ' (cells l n).1 vs.toArray ∧ (∀ c ∈ (cells l n).1, c.wf (U' U n (cells l n).2.2)) ∧ n ≤ (cells l n).2.2
  | [], vs, ρ, φ, U, H, n, hm, hH, hown, hU, hl, hv => by
    have : vs = [] := List.eq_nil_of_length_eq_zero hl
    subst this
    exact ⟨ρ, φ, hm.mono fun _ h => .inl h, fun _ _ => rfl, ⟨rfl, fun j c hc => by simp [cells] at hc⟩, fun c hc => by simp [cells] at hc, Nat.le_refl _⟩
  | cv :: l, [], ρ, φ, U, H, n, hm, hH, hown, hU, hl, hv => by simp at hl
  | cv :: l, v :: vs, ρ, φ, U, H, n, hm, hH, hown, hU, hl, hv => by
    have hl' : vs.length = l.length := by simpa using hl
    have hv' : ∀ (j : Nat) c, l[j]? = some c → ∃ u, vs[j]? = some u ∧ CVat w (φ id) c u := fun j c hc => by
      have := hv (j + 1) c (by simpa using hc)
      simpa using this
    obtain ⟨u, hu, hcv⟩ := hv 0 cv rfl
    have : v = u := by simpa using hu
    subst this
    have join : ∀ (sc : SC) (ρ' : Nat → Value) (r : List SC), DenC ρ' sc v → DenL ρ' r vs.toArray → DenL ρ' (sc :: r) (v :: vs).toArray := by
      intro sc ρ' r hs hr
      refine ⟨by have := hr.1; simpa using this, fun j c hc => ?_⟩
      cases j with
      | zero => simp at hc; subst hc; exact ⟨v, by simp, hs⟩
      | succ j =>
        simp at hc
        obtain ⟨q, hq, hd⟩ := hr.2 j c hc
        exact ⟨q, by simpa using hq, hd⟩
    cases cv with
    | i m =>
      have ih := cells_fine w l vs ρ φ U H n hm hH (by simpa [cells] using hown) (by simpa [cells] using hU) hl' hv'
      obtain ⟨ρ', φ', h1, h2, h3, h4, h5⟩ := ih
      refine ⟨ρ', φ', by simpa [cells] using h1, h2, by simpa [cells] using join (.i m) ρ' _ hcv h3, ?_, by simpa [cells] using h5⟩
      intro c hc
      simp only [cells, List.mem_cons] at hc ⊢
      rcases hc with rfl | hc
      · exact fun _ h => h.elim
      · exact h4 c hc
    | b m =>
      have ih := cells_fine w l vs ρ φ U H n hm hH (by simpa [cells] using hown) (by simpa [cells] using hU) hl' hv'
      obtain ⟨ρ', φ', h1, h2, h3, h4, h5⟩ := ih
      refine ⟨ρ', φ', by simpa [cells] using h1, h2, by simpa [cells] using join (.b m) ρ' _ hcv h3, ?_, by simpa [cells] using h5⟩
      intro c hc
      simp only [cells, List.mem_cons] at hc ⊢
      rcases hc with rfl | hc
      · exact fun _ h => h.elim
      · exact h4 c hc
    | sl fk ys =>
      have ho : own = false := by
        rcases hown with h | h
        · exact h
        · simp [cells] at h
      subst ho
      have hlive : (H id).live = true := by rw [hH]; rfl
      have hmono : ∀ (l : List CV) (n : Nat), n ≤ (cells l n).2.2 := by
        intro l
        induction l with
        | nil => intro n; exact Nat.le_refl _
        | cons c l ih => intro n; cases c <;> simp only [cells] <;> first | exact ih n | exact Nat.le_trans (Nat.le_succ n) (ih (n + 1))
      have hn : ¬ U n := hU n (Nat.le_refl _) (by simp only [cells]; exact Nat.lt_of_lt_of_le (Nat.lt_succ_self n) (hmono l (n + 1)))
      have hne : id ≠ n := by rintro rfl; exact hn (hm.used _ hlive)
      have hm1 := mem_newview hm hH hn hcv
      have ih := cells_fine w l vs _ _ _ _ (n + 1) hm1 (by rw [upd_ne _ _ hne]; exact hH) (.inl rfl) (fun x h1 h2 hx => by
          rcases hx with hx | rfl
          · exact hU x (by omega) (by simpa [cells] using h2) hx
          · omega) hl' (fun j c hc => by
          obtain ⟨u, hu, hr⟩ := hv' j c hc
          rw [upd_ne _ _ hne]
          exact ⟨u, hu, hr⟩)
      obtain ⟨ρ', φ', h1, h2, h3, h4, h5⟩ := ih
      have hU'' : ∀ x, U' (fun y => U y ∨ y = n) (n + 1) (cells l (n + 1)).2.2 x → U' U n (cells l (n + 1)).2.2 x := by
        rintro x ((hx | rfl) | ⟨a, b⟩)
        · exact .inl hx
        · exact .inr ⟨Nat.le_refl _, by omega⟩
        · exact .inr ⟨by omega, b⟩
      refine ⟨ρ', φ', by simpa [cells, applyD] using h1.mono hU'', fun x hx => (h2 x (.inl hx)).trans (upd_ne _ _ (by rintro rfl; exact hn hx)), ?_, ?_, ?_⟩
      · have : DenC ρ' (.fs n) v := ⟨by rw [h2 n (.inr rfl), upd_same], mem_slice hcv⟩
        simpa [cells] using join (.fs n) ρ' _ this h3
      · intro c hc
        simp only [cells, List.mem_cons] at hc ⊢
        rcases hc with rfl | hc
        · intro x hx
          simp only [SC.ids] at hx
          subst hx
          exact .inr ⟨Nat.le_refl _, Nat.lt_of_succ_le h5⟩
        · exact (h4 c hc).mono hU''
      · simp only [cells]; exact Nat.le_of_succ_le h5
theorem fine_load_el_st {t id ix sz off e m : Nat} {k : K} {own : Bool} {xs : List k.T} {fs : List FD} {z : List SC} {eq : Bool} {x : Operand} {l : List SC} {d : List (Nat × HB)} {n' : Nat} {ev : Operand → Value} (hT : TabOk P T) (ht : look T t = some (.st m fs z eq)) (hm : Mem B w0 ρ φ U H w)
    (hH : H id = .arr k e own xs) (hd : DenV ρ (.w (.c (.el id ix sz off))) (ev x)) (ho : off + m ≤ k.size) (hs : sz = k.size) (hi : ix < xs.length) (hc : cells (tk m (dr off (k.enc (xs.getD ix k.zero)))) n = (l, d, n')) (hown : own = false ∨ d = []) (hU : ∀ x, n ≤ x → x < n' → ¬ U x) (dst) (tt) (pos) (af) (gd) :
    Fine B w0 ρ U H ((execOp ev ⟨dst, .load t x, tt, pos, af, gd⟩).run P w) (.w (.g l)) d n n' := by
  obtain ⟨i, F, v, hi', hu, hs', _⟩ := td_st hT ht
  obtain ⟨a, hv, h1⟩ := el_addr hm hH hd
  have hcell := (h1 _ (getD_at hi)).2 hs
  have hlen := k.enc_length (xs.getD ix k.zero)
  -- the values
  have hvals : ∃ vs : List Value, vs.length = m ∧ (∀ (j : Nat) u, vs[j]? = some u → w.cell? (((a.add (ix * sz)).add off).add j) = some u) ∧ ∀ (j : Nat) cv, (tk m (dr off (k.enc (xs.getD ix k.zero))))[j]? = some cv → ∃ u, vs[j]? = some u ∧ CVat w (φ id) cv u := by
    have key : ∀ j, j < m → ∃ cv u, (k.enc (xs.getD ix k.zero))[off + j]? = some cv ∧ w.cell? (((a.add (ix * sz)).add off).add j) = some u ∧ CVat w (φ id) cv u := by
      intro j hj
      have hlt : off + j < (k.enc (xs.getD ix k.zero)).length := by rw [hlen]; omega
      obtain ⟨u, hu, hr⟩ := hcell (off + j) _ (List.getElem?_eq_getElem hlt)
      exact ⟨_, u, List.getElem?_eq_getElem hlt, by rw [add_add]; exact hu, hr⟩
    refine ⟨(List.range m).map fun j => (w.cell? (((a.add (ix * sz)).add off).add j)).getD undef, by simp, fun j u hu => ?_, fun j cv hcv => ?_⟩
    · simp only [List.getElem?_map] at hu
      by_cases hj : j < m
      · obtain ⟨cv, u', h2, h3, h4⟩ := key j hj
        rw [List.getElem?_range hj] at hu
        simp only [Option.map_some, h3, Option.getD_some, Option.some.injEq] at hu
        rw [h3, hu]
      · rw [List.getElem?_eq_none (by simp; omega)] at hu
        cases hu
    · rw [tk_eq, dr_eq, List.getElem?_take] at hcv
      split at hcv
      · rename_i hj
        rw [List.getElem?_drop] at hcv
        obtain ⟨cv', u', h2, h3, h4⟩ := key j hj
        rw [h2] at hcv
        injection hcv with hcv
        subst hcv
        refine ⟨u', ?_, h4⟩
        simp only [List.getElem?_map, List.getElem?_range hj, Option.map_some, h3, Option.getD_some]
      · cases hcv
  obtain ⟨vs, hvl, hvc, hvv⟩ := hvals
  have hrun := run_loadCells_list (P := P) w ((a.add (ix * sz)).add off) vs hvc
  rw [hvl] at hrun
  have hlen2 : vs.length = (tk m (dr off (k.enc (xs.getD ix k.zero)))).length := by rw [tk_eq, dr_eq, List.length_take, List.length_drop, hlen]; omega
  have hf := cells_fine (B := B) (w0 := w0) w (tk m (dr off (k.enc (xs.getD ix k.zero)))) vs ρ φ U H n hm hH (by rw [hc]; exact hown) (by rw [hc]; exact hU) hlen2 hvv
  rw [hc] at hf
  obtain ⟨ρ', φ', g1, g2, g3, g4, _⟩ := hf
  refine ⟨.agg vs.toArray, w, ρ', φ', .inl ?_, g1, g2, ⟨_, rfl, g3⟩, g4⟩
  simp [execOp, hv, Instr.loadAt, Instr.sureAddr, loadVar, run_isAgg_st hu, run_sizeOf' hi', hs', hrun]
end
end Go.Eng

/- The evaluation of one operation is sound: indexes, cuts, lengths; arrays of the call's own, written. -/
set_option linter.unusedVariables false
set_option linter.unusedSimpArgs false
namespace Go.Eng
open Go Go.RowKit

section
variable {P : Program} {T : Tab} {B : Nat} {w0 : Base} {w : World} {ρ : Nat → Value} {φ : Nat → Nat → Prop} {U : Nat → Prop} {H : Nat → HB} {n : Nat}

theorem wf_fs {id : Nat} (h : U id) : (SV.w (.c (.fs id))).wf U := fun x hx => by simp only [SC.ids] at hx; subst hx; exact h
theorem used_arr {id e : Nat} {k : K} {own : Bool} {xs : List k.T} (hm : Mem B w0 ρ φ U H w) (h : H id = .arr k e own xs) : U id := hm.used id (by rw [h]; rfl)

theorem fine_len_fs {id e t ty : Nat} {k k' : K} {e' : Nat} {own : Bool} {xs : List k.T} {z : SC} {x : Operand} {ev : Operand → Value} (hT : TabOk P T) (ht : look T t = some (.sc (some (k', e')) z)) (hm : Mem B w0 ρ φ U H w) (hH : H id = .arr k e own xs) (hd : DenV ρ (.w (.c (.fs id))) (ev x)) (dst) (tt) (pos) (af) (gd) :
    Fine B w0 ρ U H ((execOp ev ⟨dst, .call ⟨.builtin .len, #[x], #[t]⟩, tt, pos, af, gd⟩).run P w) (.w (.c (.i (xs.length : Int)))) [] n n := by
  obtain ⟨i, zv, hu, _⟩ := el_run hT ht
  obtain ⟨A, c, hv, h1, h2, h3, h4⟩ := mem_view hm hH
  have hv' : ev x = .slice A xs.length c := hd.1.trans hv
  refine fine_same hm (u := .int .i64 (xs.length : Int)) ?_ rfl (fun _ h => h.elim)
  simp [execOp, resolve, invoke, builtin, Builtin.len_, hv', run_underlying hu]
  rfl
theorem fine_len_s {id lo m sz t ty : Nat} {k' : K} {e' : Nat} {z : SC} {x : Operand} {ev : Operand → Value} (hT : TabOk P T) (ht : look T t = some (.sc (some (k', e')) z)) (hm : Mem B w0 ρ φ U H w) (hd : DenV ρ (.w (.c (.s id lo m sz))) (ev x)) (dst) (tt) (pos) (af) (gd) :
    Fine B w0 ρ U H ((execOp ev ⟨dst, .call ⟨.builtin .len, #[x], #[t]⟩, tt, pos, af, gd⟩).run P w) (.w (.c (.i (m : Int)))) [] n n := by
  obtain ⟨i, zv, hu, _⟩ := el_run hT ht
  obtain ⟨A, n0, c0, A', c', _, hv', _⟩ := hd
  refine fine_same hm (u := .int .i64 (m : Int)) ?_ rfl (fun _ h => h.elim)
  simp [execOp, resolve, invoke, builtin, Builtin.len_, hv', run_underlying hu]
  rfl
theorem fine_len_nil {t ty : Nat} {k' : K} {e' : Nat} {z : SC} {x : Operand} {ev : Operand → Value} (hT : TabOk P T) (ht : look T t = some (.sc (some (k', e')) z)) (hm : Mem B w0 ρ φ U H w) (hd : DenV ρ (.w (.c .nls)) (ev x)) (dst) (tt) (pos) (af) (gd) :
    Fine B w0 ρ U H ((execOp ev ⟨dst, .call ⟨.builtin .len, #[x], #[t]⟩, tt, pos, af, gd⟩).run P w) (.w (.c (.i 0))) [] n n := by
  obtain ⟨i, zv, hu, _⟩ := el_run hT ht
  have hv' : ev x = .slice none 0 0 := hd
  refine fine_same hm (u := .int .i64 0) ?_ rfl (fun _ h => h.elim)
  simp [execOp, resolve, invoke, builtin, Builtin.len_, hv', run_underlying hu]
  rfl

theorem fine_index_fs {id e t : Nat} {k k' : K} {e' : Nat} {own : Bool} {xs : List k.T} {z : SC} {x y : Operand} {j : Int} {ev : Operand → Value} (hT : TabOk P T) (ht : look T t = some (.sc (some (k', e')) z)) (hk : k' = k) (hm : Mem B w0 ρ φ U H w) (hH : H id = .arr k e own xs)
    (hd : DenV ρ (.w (.c (.fs id))) (ev x)) (hy : DenV ρ (.w (.c (.i j))) (ev y)) (hj : 0 ≤ j ∧ j < (xs.length : Int)) (dst) (tt) (pos) (af) (gd) :
    Fine B w0 ρ U H ((execOp ev ⟨dst, .indexAddr t x y, tt, pos, af, gd⟩).run P w) (.w (.c (.el id j.toNat k.size 0))) [] n n := by
  subst hk
  obtain ⟨i, zv, hu, hi, hs, _⟩ := el_run hT ht
  obtain ⟨A, c, hv, h1, h2, h3, h4⟩ := mem_view hm hH
  have hv' : ev x = .slice A xs.length c := hd.1.trans hv
  have hne : xs ≠ [] := by rintro rfl; simp at hj; omega
  obtain ⟨a, rfl, _⟩ := h3 hne
  refine fine_same hm (u := .pointer (some (a.add (j.toNat * k'.size)))) ?_ ⟨a, xs.length, c, hv, by rw [add_zero]⟩ (fun q hq => by simp only [SC.ids] at hq; subst hq; exact used_arr hm hH)
  simp [execOp, Instr.indexAt, hv', den_i hy, asIntOf, run_underlying hu, run_sizeOf' hi, hs, hj]
theorem fine_index_s {id e t lo m sz : Nat} {k k' : K} {e' : Nat} {own : Bool} {xs : List k.T} {z : SC} {x y : Operand} {j : Int} {ev : Operand → Value} (hT : TabOk P T) (ht : look T t = some (.sc (some (k', e')) z)) (hk : k' = k) (hm : Mem B w0 ρ φ U H w) (hH : H id = .arr k e own xs) (hsz : sz = k.size)
    (hd : DenV ρ (.w (.c (.s id lo m sz))) (ev x)) (hy : DenV ρ (.w (.c (.i j))) (ev y)) (hj : 0 ≤ j ∧ j < (m : Int)) (dst) (tt) (pos) (af) (gd) :
    Fine B w0 ρ U H ((execOp ev ⟨dst, .indexAddr t x y, tt, pos, af, gd⟩).run P w) (.w (.c (.el id (lo + j.toNat) sz 0))) [] n n := by
  subst hk
  obtain ⟨i, zv, hu, hi, hs, _⟩ := el_run hT ht
  obtain ⟨A, n0, c0, A', c', hρ, hv', _, _, h5⟩ := hd
  obtain ⟨a, rfl, rfl⟩ := h5 (by omega)
  refine fine_same hm (u := .pointer (some ((a.add (lo * sz)).add (j.toNat * k'.size)))) ?_ ⟨a, n0, c0, hρ, by rw [add_zero, add_add, hsz, Nat.add_mul]⟩ (fun q hq => by simp only [SC.ids] at hq; subst hq; exact used_arr hm hH)
  simp [execOp, Instr.indexAt, hv', den_i hy, asIntOf, run_underlying hu, run_sizeOf' hi, hs, hj]

theorem bound_run {e : Env} {d : Int} {o : Option Operand} {r : Int} {ev' : Operand → Value} (hev : ∀ x, DenV ρ (ev e x) (ev' x)) (h : bound e d o = some r) : (o = none ∧ r = d) ∨ ∃ x, o = some x ∧ ev' x = .int .i64 r := by
  cases o with
  | none => injection h with h; exact .inl ⟨rfl, h.symm⟩
  | some x =>
    simp only [bound] at h
    have hx := hev x
    split at h
    · rename_i n hn
      injection h with h
      subst h
      rw [hn] at hx
      exact .inr ⟨x, rfl, hx⟩
    · cases h
theorem run_bounds {len cap : Nat} {lo hi : Option Operand} {e : Env} {l h : Int} {ev' : Operand → Value} (hev : ∀ x, DenV ρ (ev e x) (ev' x)) (hl : bound e 0 lo = some l) (hh : bound e (len : Int) hi = some h) (h0 : 0 ≤ l) (h1 : l ≤ h) (h2 : h ≤ (len : Int)) (hc : len ≤ cap) :
    (Instr.sliceBounds true len cap (lo.map ev') (hi.map ev') none).run P w = .ok (l.toNat, h.toNat, cap) w := by
  have e1 : (h ≤ (cap : Int)) := by omega
  rcases bound_run hev hl with ⟨rfl, rfl⟩ | ⟨x, rfl, hx⟩ <;> rcases bound_run hev hh with ⟨rfl, rfl⟩ | ⟨y, rfl, hy⟩
  · simp [Instr.sliceBounds]
  · have h3 : 0 ≤ h := by omega
    simp [Instr.sliceBounds, Instr.sliceBound, hy, asIntOf, h3, e1]
  · simp [Instr.sliceBounds, Instr.sliceBound, hx, asIntOf, h0, h1]
  · have h3 : 0 ≤ h := by omega
    have h4 : l ≤ max h 0 := by omega
    simp [Instr.sliceBounds, Instr.sliceBound, hx, hy, asIntOf, h0, h1, h3, e1, h4]

theorem fine_slice_fs {id e t : Nat} {k k' : K} {e' : Nat} {own : Bool} {xs : List k.T} {z : SC} {x : Operand} {lo hi : Option Operand} {en : Env} {l h : Int} {ev' : Operand → Value} (hT : TabOk P T) (ht : look T t = some (.sc (some (k', e')) z)) (hk : k' = k) (hm : Mem B w0 ρ φ U H w) (hH : H id = .arr k e own xs)
    (hev : ∀ x, DenV ρ (ev en x) (ev' x)) (hd : DenV ρ (.w (.c (.fs id))) (ev' x)) (hl : bound en 0 lo = some l) (hh : bound en (xs.length : Int) hi = some h) (hj : 0 ≤ l ∧ l ≤ h ∧ h ≤ (xs.length : Int)) (dst) (tt) (pos) (af) (gd) :
    Fine B w0 ρ U H ((execOp ev' ⟨dst, .slice t x lo hi none, tt, pos, af, gd⟩).run P w) (.w (.c (.s id l.toNat (h.toNat - l.toNat) k.size))) [] n n := by
  subst hk
  obtain ⟨i, zv, hu, hi', hs, _⟩ := el_run hT ht
  obtain ⟨A, c, hv, h1, h2, h3, h4⟩ := mem_view hm hH
  have hv' : ev' x = .slice A xs.length c := hd.1.trans hv
  obtain ⟨g0, g1, g2⟩ := hj
  have hb := run_bounds (P := P) (w := w) (cap := c) hev hl hh g0 g1 g2 h1
  refine fine_same hm (u := .slice (if c = l.toNat then A else A.map (·.add (l.toNat * k'.size))) (h.toNat - l.toNat) (c - l.toNat)) ?_ ⟨A, _, c, _, _, hv, rfl, by omega, by omega, fun hp => ?_⟩ (fun q hq => by simp only [SC.ids] at hq; subst hq; exact used_arr hm hH)
  · simp [execOp, Instr.sliceAt, Instr.slice, hv', run_underlying hu, hb, run_sizeOf' hi', hs]
  · have hne : xs ≠ [] := by rintro rfl; simp at g2; omega
    obtain ⟨a, rfl, _⟩ := h3 hne
    refine ⟨a, rfl, ?_⟩
    rw [if_neg (by omega)]
    rfl
theorem fine_slice_s {id e t lo0 m sz : Nat} {k k' : K} {e' : Nat} {own : Bool} {xs : List k.T} {z : SC} {x : Operand} {lo hi : Option Operand} {en : Env} {l h : Int} {ev' : Operand → Value} (hT : TabOk P T) (ht : look T t = some (.sc (some (k', e')) z)) (hk : k' = k) (hm : Mem B w0 ρ φ U H w) (hH : H id = .arr k e own xs) (hsz : sz = k.size)
    (hev : ∀ x, DenV ρ (ev en x) (ev' x)) (hd : DenV ρ (.w (.c (.s id lo0 m sz))) (ev' x)) (hl : bound en 0 lo = some l) (hh : bound en (m : Int) hi = some h) (hj : 0 ≤ l ∧ l ≤ h ∧ h ≤ (m : Int)) (dst) (tt) (pos) (af) (gd) :
    Fine B w0 ρ U H ((execOp ev' ⟨dst, .slice t x lo hi none, tt, pos, af, gd⟩).run P w) (.w (.c (.s id (lo0 + l.toNat) (h.toNat - l.toNat) sz))) [] n n := by
  subst hk
  subst hsz
  obtain ⟨i, zv, hu, hi', hs, _⟩ := el_run hT ht
  obtain ⟨A, n0, c0, A', c', hρ, hv', h1, h2, h5⟩ := hd
  obtain ⟨g0, g1, g2⟩ := hj
  have hb := run_bounds (P := P) (w := w) (cap := c') hev hl hh g0 g1 g2 h1
  refine fine_same hm (u := .slice (if c' = l.toNat then A' else A'.map (·.add (l.toNat * k'.size))) (h.toNat - l.toNat) (c' - l.toNat)) ?_ ⟨A, n0, c0, _, _, hρ, rfl, by omega, by omega, fun hp => ?_⟩ (fun q hq => by simp only [SC.ids] at hq; subst hq; exact used_arr hm hH)
  · simp [execOp, Instr.sliceAt, Instr.slice, hv', run_underlying hu, hb, run_sizeOf' hi', hs]
  · obtain ⟨a, rfl, rfl⟩ := h5 (by omega)
    refine ⟨a, rfl, ?_⟩
    rw [if_neg (by omega)]
    simp only [Option.map_some, add_add, Nat.add_mul]

/-! ### Arrays of the call's own -/
/-- An own array is another one now; the world has turned in its block alone, or has a new one. -/
theorem fine_put {id x e : Nat} {k : FK} {ys : List k.T} {w' : World} {v : Value} (hm : Mem B w0 ρ φ U H w) (hx : ¬ U x) (hH : ∀ g, v.ownBlock = some g → w.heap.size ≤ g ∨ ((H id).own = true ∧ φ id g)) (hid : (H id).own = true ∨ H id = .dead) (hne : id ≠ x)
    (hkeep : ∀ b, b < w.heap.size → ¬ (H id).own = true ∨ ¬ φ id b → w'.heap[b]? = w.heap[b]?) (hos : w'.os = w.os) (htape : w'.tape = w.tape) (hout : w'.output = w.output) (hsize : w.heap.size ≤ w'.heap.size)
    (hown : w'.ownsRow 0 e k.size v ys.length (flatV k ys)) :
    ∃ ρ' φ', Mem B w0 ρ' φ' (fun y => U y ∨ y = x) (upd (upd H id .dead) x (.arr (.f k) e true ys)) w' ∧ (∀ y, U y → ρ' y = ρ y) ∧ ρ' x = v := by
  -- first the array itself, under the old name, then the new name
  have hHx : (H x).live = false := by
    cases hh : (H x).live
    · rfl
    · exact absurd (hm.used x hh) hx
  let ψ : Nat → Prop := fun g => v.ownBlock = some g
  have hblk : ∀ g, v.ownBlock = some g → g < w'.heap.size := by
    intro g hg
    rcases hown.2 with ⟨rfl, _⟩ | ⟨g', cap, cur, rfl, _, hh, _⟩
    · cases hg
    · have : g' = g := by simpa [Value.ownBlock] using hg
      subst this
      exact (Array.getElem?_eq_some_iff.1 hh).1
  refine ⟨upd ρ x v, upd φ x ψ, ?_, fun y hy => upd_ne _ _ (by rintro rfl; exact hx hy), upd_same _ _ _⟩
  refine ⟨Nat.le_trans hm.base hsize, ?_, fun z hz => ?_, fun z => ?_, fun z => ?_, fun z hz b hb => ?_, fun z hz b hb => ?_, fun z z' hzz hz hz' b hb hb' => ?_, fun z hz b hb hB => ?_⟩
  · refine ⟨hos.trans hm.below.os, htape.trans hm.below.tape, hout.trans hm.below.output, Nat.le_trans hm.below.size hsize, fun q hq => ?_⟩
    refine (hkeep q (Nat.lt_of_lt_of_le hq hm.base) ?_).trans (hm.below.block q hq)
    by_cases ho : (H id).own = true
    · exact .inr fun hφ => by have := hm.low id ho q hφ; omega
    · exact .inl ho
  · by_cases e1 : z = x
    · exact .inr e1
    · rw [upd_ne _ _ e1] at hz
      by_cases e2 : z = id
      · subst e2; simp [upd_same, HB.live] at hz
      · rw [upd_ne _ _ e2] at hz; exact .inl (hm.used z hz)
  · by_cases e1 : z = x
    · subst e1; rw [upd_same]; trivial
    · rw [upd_ne _ _ e1]
      by_cases e2 : z = id
      · subst e2; rw [upd_same]; trivial
      · rw [upd_ne _ _ e2]; exact (hm.wf z).mono fun _ h => .inl h
  · by_cases e1 : z = x
    · subst e1
      rw [upd_same, upd_same, upd_same]
      exact own_flat.2 ⟨fun g hg => hg, hown⟩
    · rw [upd_ne _ _ e1, upd_ne _ _ e1, upd_ne _ _ e1]
      by_cases e2 : z = id
      · subst e2; rw [upd_same]; trivial
      · rw [upd_ne _ _ e2]
        by_cases hl : (H z).live = true
        · refine (Holds.anchors (hm.holds z) (hm.wf z) fun y hy => upd_ne _ _ (by rintro rfl; exact hx hy)).agree fun b hb => ?_
          refine hkeep b (hm.lt z hl b hb) ?_
          by_cases ho : (H id).own = true
          · exact .inr fun hφ => hm.apart id z (Ne.symm e2) ho hl b hφ hb
          · exact .inl ho
        · have : H z = .dead := by cases hh : H z <;> simp_all [HB.live]
          rw [this]; trivial
  · by_cases e1 : z = x
    · subst e1; rw [upd_same] at hb; exact hblk b hb
    · rw [upd_ne _ _ e1] at hz hb
      by_cases e2 : z = id
      · subst e2; simp [upd_same, HB.live] at hz
      · rw [upd_ne _ _ e2] at hz; exact Nat.lt_of_lt_of_le (hm.lt z hz b hb) hsize
  · by_cases e1 : z = x
    · subst e1
      rw [upd_same] at hb
      rcases hH b hb with h | ⟨h1, h2⟩
      · exact Nat.le_trans hm.base h
      · exact hm.low id h1 b h2
    · rw [upd_ne _ _ e1] at hz hb
      by_cases e2 : z = id
      · subst e2; simp [upd_same, HB.own] at hz
      · rw [upd_ne _ _ e2] at hz; exact hm.low z hz b hb
  · have far : ∀ z, z ≠ x → z ≠ id → (H z).live = true → ∀ b, v.ownBlock = some b → ¬ φ z b := by
      intro z _ e2 hl b hb hφ
      rcases hH b hb with h | ⟨h1, h2⟩
      · have := hm.lt z hl b hφ; omega
      · exact hm.apart id z (Ne.symm e2) h1 hl b h2 hφ
    by_cases e1 : z = x
    · subst e1
      rw [upd_same] at hb
      rw [upd_ne _ _ (Ne.symm hzz)] at hz' hb'
      by_cases e2 : z' = id
      · subst e2; simp [upd_same, HB.live] at hz'
      · rw [upd_ne _ _ e2] at hz'
        exact far z' (Ne.symm hzz) e2 hz' b hb hb'
    · rw [upd_ne _ _ e1] at hz hb
      by_cases e2 : z = id
      · subst e2; simp [upd_same, HB.own] at hz
      · rw [upd_ne _ _ e2] at hz
        by_cases e3 : z' = x
        · subst e3
          rw [upd_same] at hb'
          exact far z e1 e2 (HB.live_of_own hz) b hb' hb
        · rw [upd_ne _ _ e3] at hz' hb'
          by_cases e4 : z' = id
          · subst e4; simp [upd_same, HB.live] at hz'
          · rw [upd_ne _ _ e4] at hz'
            exact hm.apart z z' hzz hz hz' b hb hb'
  · by_cases e1 : z = x
    · subst e1
      rw [upd_same] at hb
      rcases hH b hb with h | ⟨h1, h2⟩
      · have := hm.base; omega
      · exact hm.foot id (HB.live_of_own h1) b h2 hB
    · rw [upd_ne _ _ e1] at hz hb
      by_cases e2 : z = id
      · subst e2; simp [upd_same, HB.live] at hz
      · rw [upd_ne _ _ e2] at hz; exact hm.foot z hz b hb hB
end
end Go.Eng

/- The evaluation of one operation is sound: elements stored, append, copy, make, literals. -/
set_option linter.unusedVariables false
set_option linter.unusedSimpArgs false
namespace Go.Eng
open Go Go.RowKit

theorem flatV_set {k : FK} {xs : List k.T} {ix : Nat} {x y : k.T} {off : Nat} {cs : List CV} (hx : xs[ix]? = some x) (hy : k.enc y = splice (k.enc x) off cs) (ho : off + cs.length ≤ k.size) (p : Nat) (hp : p < xs.length * k.size) :
    (flatV k (xs.set ix y))[p]? = if ix * k.size + off ≤ p ∧ p < ix * k.size + off + cs.length then (cs.map cvv)[p - (ix * k.size + off)]? else (flatV k xs)[p]? := by
  have hl : p < (flatV k (xs.set ix y)).length := by rw [flatV_length, List.length_set]; exact hp
  have hon : off + cs.length ≤ (k.enc x).length := by rw [k.enc_length]; exact ho
  have hsz := k.size_pos
  have hix : ix < xs.length := (List.getElem?_eq_some_iff.1 hx).1
  obtain ⟨i, j, z, cv, e1, h1, h2, h3⟩ := flatV_inv k (xs.set ix y) p _ (List.getElem?_eq_getElem hl)
  rw [List.getElem?_eq_getElem hl, h3]
  have hjs : j < k.size := by rw [← k.enc_length z]; exact (List.getElem?_eq_some_iff.1 h2).1
  rw [List.getElem?_set] at h1
  by_cases hi : ix = i
  · subst hi
    rw [if_pos rfl, if_pos hix] at h1
    injection h1 with h1
    subst h1
    rw [hy, splice_get hon] at h2
    by_cases hc : off ≤ j ∧ j < off + cs.length
    · rw [if_pos hc] at h2
      rw [if_pos (by omega)]
      have : p - (ix * k.size + off) = j - off := by omega
      rw [this, List.getElem?_map, h2]; rfl
    · rw [if_neg hc] at h2
      rw [if_neg (by omega), e1]
      exact (flatV_get k xs ix j x cv hx h2).symm
  · rw [if_neg hi] at h1
    have hne : ¬ (ix * k.size + off ≤ p ∧ p < ix * k.size + off + cs.length) := by
      rintro ⟨a, b⟩
      have a1 : ix * k.size ≤ i * k.size + j := by omega
      have b1 : i * k.size + j < ix * k.size + k.size := by omega
      rcases Nat.lt_or_ge i ix with h | h
      · have : (i + 1) * k.size ≤ ix * k.size := Nat.mul_le_mul_right _ h
        rw [Nat.succ_mul] at this
        omega
      · have : (ix + 1) * k.size ≤ i * k.size := Nat.mul_le_mul_right _ (by omega)
        rw [Nat.succ_mul] at this
        omega
    rw [if_neg hne, e1]
    exact (flatV_get k xs i j z cv h1 h2).symm

section
variable {P : Program} {T : Tab} {B : Nat} {w0 : Base} {w : World} {ρ : Nat → Value} {φ : Nat → Nat → Prop} {U : Nat → Prop} {H : Nat → HB} {n : Nat}

/-- An own row, written in place. -/
theorem own_write {e sz m g cap o : Nat} {cur : Array Value} {L L' vs : List Value} (hh : w.heap[g]? = some (.cells cur e (0, 0))) (h1 : m ≤ cap) (h2 : cap ≤ maxLen) (h3 : cur.size = cap * sz) (h4 : cur.toList.take (m * sz) = L)
    (hvs : o + vs.length ≤ m * sz) (hL : L'.length = m * sz) (hp : ∀ p, p < m * sz → L'[p]? = if o ≤ p ∧ p < o + vs.length then vs[p - o]? else L[p]?) :
    (w.setRow g (cur.toList.take (o + 0) ++ vs ++ cur.toList.drop (o + 0 + vs.length)).toArray).ownsRow 0 e sz (.slice (some ⟨g, 0, none⟩) m cap) m L' := by
  have hmc : m * sz ≤ cur.size := by rw [h3]; exact Nat.mul_le_mul_right _ h1
  refine ⟨hL, .inr ⟨g, cap, _, rfl, Nat.zero_le _, setRow_heap w g cur _ e (0, 0) hh, h1, h2, by simp; omega, ?_⟩⟩
  apply List.ext_getElem?
  intro p
  simp only [Nat.add_zero]
  by_cases hlt : p < m * sz
  · rw [List.getElem?_take, if_pos hlt, hp p hlt, List.append_assoc]
    by_cases hc : o ≤ p ∧ p < o + vs.length
    · rw [if_pos hc, List.getElem?_append_right (by simp; omega), List.getElem?_append_left (by simp; omega)]
      congr 1
      simp
      omega
    · rw [if_neg hc]
      have hL' : L[p]? = cur.toList[p]? := by rw [← h4, List.getElem?_take, if_pos hlt]
      rw [hL']
      by_cases ha : p < o
      · rw [List.getElem?_append_left (by simp; omega), List.getElem?_take, if_pos ha]
      · rw [List.getElem?_append_right (by simp; omega), List.getElem?_append_right (by simp; omega), List.getElem?_drop]
        congr 1
        simp
        omega
  · rw [List.getElem?_eq_none (by rw [List.length_take]; omega), List.getElem?_eq_none (by omega)]

/-- The row of an own array that isn't empty. -/
theorem own_row {id e : Nat} {k : FK} {xs : List k.T} (hm : Mem B w0 ρ φ U H w) (hH : H id = .arr (.f k) e true xs) (hne : xs ≠ []) :
    ∃ g cap cur, ρ id = .slice (some ⟨g, 0, none⟩) xs.length cap ∧ φ id g ∧ w.heap[g]? = some (.cells cur e (0, 0)) ∧ xs.length ≤ cap ∧ cap ≤ maxLen ∧ cur.size = cap * k.size ∧ cur.toList.take (xs.length * k.size) = flatV k xs := by
  obtain ⟨h0, _, h⟩ := mem_own hm hH
  rcases h with ⟨_, hn⟩ | ⟨g, cap, cur, hv, _, hh, h1, h2, h3, h4⟩
  · exact absurd (List.eq_nil_of_length_eq_zero hn) hne
  · exact ⟨g, cap, cur, hv, h0 g (by rw [hv]; rfl), hh, h1, h2, h3, h4⟩
/-- An own array turned in place. -/
theorem mem_turn {id e g : Nat} {k : FK} {xs ys : List k.T} {cs : Array Value} (hm : Mem B w0 ρ φ U H w) (hH : H id = .arr (.f k) e true xs) (hφ : φ id g) (hb : ∀ b, (ρ id).ownBlock = some b → φ id b)
    (hown : (w.setRow g cs).ownsRow 0 e k.size (ρ id) ys.length (flatV k ys)) : Mem B w0 (upd ρ id (ρ id)) (upd φ id (φ id)) (fun y => U y ∨ y = id) (upd H id (.arr (.f k) e true ys)) (w.setRow g cs) := by
  have hl : (H id).live = true := by rw [hH]; rfl
  have ho : (H id).own = true := by rw [hH]; rfl
  refine hm.put id _ (ρ id) (φ id) (fun _ => rfl) (fun b hb h => ?_) rfl rfl rfl (by simp) trivial ?_ (fun _ b hb => by simpa using hm.lt id hl b hb) (fun b hb => .inr (.inl ⟨ho, hb⟩))
  · rcases h with h | h
    · exact absurd ho h
    · exact setRow_other _ _ _ _ (by rintro rfl; exact h hφ)
  · exact own_flat.2 ⟨hb, hown⟩
theorem upd_self {α : Type} (f : Nat → α) (i : Nat) : upd f i (f i) = f := by funext z; unfold upd; split <;> simp_all
theorem cvsOf_den {ρ : Nat → Value} : ∀ {l : List SC} {cs : List CV} {vs : List Value}, cvsOf l = some cs → vs.length = l.length → (∀ (j : Nat) c, l[j]? = some c → ∃ v, vs[j]? = some v ∧ DenC ρ c v) → vs = cs.map cvv ∧ cs.length = l.length
  | [], cs, vs, h, hl, _ => by
    injection h with h
    subst h
    exact ⟨List.eq_nil_of_length_eq_zero hl, rfl⟩
  | c :: l, cs, [], h, hl, _ => by simp at hl
  | c :: l, cs, v :: vs, h, hl, hd => by
    unfold cvsOf at h
    split at h
    · rename_i x r hx hr
      injection h with h
      subst h
      obtain ⟨h1, h2⟩ := cvsOf_den hr (by simpa using hl) (fun j c' hc => by
        have := hd (j + 1) c' (by simpa using hc)
        simpa using this)
      obtain ⟨u, hu, hdu⟩ := hd 0 c rfl
      have : v = u := by simpa using hu
      subst this
      refine ⟨?_, by simp [h2]⟩
      rw [List.map_cons, ← h1]
      congr 1
      cases c <;> simp only [SC.cv] at hx <;> first
        | (cases hx; done)
        | (injection hx with hx; subst hx; exact hdu)
    · cases h
theorem cvsOf_known : ∀ {l : List SC} {cs : List CV}, cvsOf l = some cs → known l = true
  | [], _, _ => rfl
  | c :: l, cs, h => by
    unfold cvsOf at h
    split at h
    · rename_i x r hx hr
      have ih := cvsOf_known hr
      unfold known
      cases c <;> simp only [SC.cv] at hx <;> first | (cases hx; done) | simpa [SC.known] using ih
    · cases h
theorem cvsOf_W {ρ : Nat → Value} {s : SW} {cs : List CV} {v : Value} (h : cvsOf s.cells = some cs) (hd : DenW ρ s v) : v.cells.toList = cs.map cvv ∧ cs.length = s.cells.length := by
  have hl := SW.denL hd (cvsOf_known h)
  exact cvsOf_den h (by simpa using hl.1) (fun j c hc => by
    obtain ⟨u, hu, hdu⟩ := hl.2 j c hc
    exact ⟨u, by simpa using hu, hdu⟩)

theorem fine_store_el {t id ix sz off e : Nat} {k : FK} {xs : List k.T} {s : SW} {cs : List CV} {y : k.T} {i : TypeInfo} {x z : Operand} {ev : Operand → Value} (hi : P.info? t = some i) (hs : i.size = s.cells.length) (hm : Mem B w0 ρ φ U H w) (hH : H id = .arr (.f k) e true xs)
    (hd : DenV ρ (.w (.c (.el id ix sz off))) (ev x)) (hz : DenW ρ s (ev z)) (hc : cvsOf s.cells = some cs) (hdec : k.dec (splice (k.enc (xs.getD ix k.zero)) off cs) = some y) (ho : off + cs.length ≤ k.size) (hsz : sz = k.size) (hix : ix < xs.length) (dst) (tt) (pos) (af) (gd) :
    Fine B w0 ρ U H ((execOp ev ⟨dst, .store t x z, tt, pos, af, gd⟩).run P w) .u [(id, .arr (.f k) e true (xs.set ix y))] n n := by
  subst hsz
  have hne : xs ≠ [] := by rintro rfl; simp at hix
  obtain ⟨g, cap, cur, hρ, hφ, hh, h1, h2, h3, h4⟩ := own_row hm hH hne
  obtain ⟨h0, hrow⟩ := mem_own hm hH
  obtain ⟨a, n', c', hρ', hv⟩ := hd
  rw [hρ] at hρ'
  injection hρ' with e1 e2 e3
  injection e1 with e1
  subst e1
  rw [plain_addr, plain_addr] at hv
  have hcs := cvsOf_W hc hz
  have hvs : (ev z).cells.toList.length = cs.length := by rw [hcs.1]; simp
  have hx : xs[ix]? = some (xs.getD ix k.zero) := getD_at (k := .f k) hix
  have hy := k.dec_enc hdec
  have hin : (ix + 1) * k.size ≤ xs.length * k.size := Nat.mul_le_mul_right _ hix
  rw [Nat.succ_mul] at hin
  have hcsz : xs.length * k.size ≤ cur.size := by rw [h3]; exact Nat.mul_le_mul_right _ h1
  have hrun := run_storeCells_at P g (0 + ix * k.size + off) e (ev z).cells.toList 0 cur w hh (by omega) (fun v hv => by
    rw [hcs.1] at hv
    obtain ⟨cv, _, rfl⟩ := List.mem_map.1 hv
    exact cvv_one cv)
  have hw := own_write (sz := k.size) (m := xs.length) (o := 0 + ix * k.size + off) (vs := (ev z).cells.toList) (L' := flatV k (xs.set ix y)) hh h1 h2 h3 h4 (by omega) (by rw [flatV_length, List.length_set]) (fun p hp => by
    rw [flatV_set hx hy ho p hp, hvs, hcs.1]
    simp only [Nat.zero_add])
  have hmt := mem_turn (ys := xs.set ix y) hm hH hφ h0 (by rw [hρ, List.length_set]; exact hw)
  simp only [Nat.zero_add, Nat.add_zero] at hrun hmt hv
  refine ⟨undef, _, _, _, .inr ⟨?_, rfl⟩, hmt.mono fun q hq => ?_, fun q hq => by rw [upd_self], trivial, fun q hq => hq.elim⟩
  · have hne' : (ev z).cells.size = i.size := by
      have := hcs.2
      rw [← Array.length_toList, hvs, hs]
      exact this
    simp only [execOp, hv, Instr.storeAt, Instr.sureAddr, storeVar]
    simp [run_sizeOf' hi, hne', hrun]
  · rcases hq with hq | rfl
    · exact .inl hq
    · exact .inl (used_arr hm hH)

/-! ### append -/
theorem run_append_nil (t ty e : Nat) (i : TypeInfo) (size : Nat) (ht : P.underlying t = some (.slice e)) (hi : P.info? e = some i) (v : Value) (m : Nat) (xs : List Value) (hown : w.ownsRow 0 e size v m xs) (q c : Nat) (hq : q = 0) :
    (Builtin.append_ #[t, t] ty #[v, .slice none q c]).run P w = .ok v w := by
  subst hq
  rcases hown.2 with ⟨rfl, rfl⟩ | ⟨g, cap, cur, rfl, _, _, hnc, _⟩
  · simp [Builtin.append_, run_underlying ht, sizeOf, typeInfo, hi, Builtin.lenOf, Builtin.firstCells]
  · simp [Builtin.append_, run_underlying ht, sizeOf, typeInfo, hi, Builtin.lenOf, Builtin.firstCells, hnc, storeCells]

/-- What is appended, as the machine reads it. -/
structure Src (w : World) (k : FK) (v : Value) (ys : List k.T) : Prop where
  mk :: (out : ∃ A m c, v = .slice A m c ∧ m = ys.length ∧ (0 < m → ∃ a : Addr, A = some a ∧ ∀ (p : Nat) u, (flatV k ys)[p]? = some u → w.cell? (a.add p) = some u))
theorem src_nil {k : FK} {v : Value} (hd : DenV ρ (.w (.c .nls)) v) : Src w k v [] := ⟨⟨none, 0, 0, hd, rfl, fun h => absurd h (by omega)⟩⟩
theorem view_cells {φ : Nat → Prop} {k : FK} {v : Value} {xs : List k.T} {A : Option Addr} {m c : Nat} {a : Addr} (hv : View w φ (.f k) v xs) (hs : v = .slice A m c) (ha : A = some a) : ∀ (p : Nat) u, (flatV k xs)[p]? = some u → w.cell? (a.add p) = some u := by
  obtain ⟨A', c', hv', h1, h2, h3, h4⟩ := hv
  rw [hs] at hv'
  injection hv' with e1 e2 e3
  subst e1
  intro p u hu
  obtain ⟨i, j, x, cv, e, g1, g2, g3⟩ := flatV_inv k xs p u hu
  obtain ⟨u', hu', hr⟩ := h4 a ha i x g1 j cv g2
  have hr := (CVat_flat (enc_at_flat g2)).1 hr
  subst hr
  rw [e, g3, ← add_add]
  exact hu'
theorem src_fs {id e : Nat} {k : FK} {own : Bool} {xs : List k.T} {v : Value} (hm : Mem B w0 ρ φ U H w) (hH : H id = .arr (.f k) e own xs) (hd : DenV ρ (.w (.c (.fs id))) v) : Src w k v xs := by
  have hv := mem_view hm hH
  have hv0 := hv
  obtain ⟨A, c, e1, h1, h2, h3, h4⟩ := hv
  have hs : v = .slice A xs.length c := hd.1.trans e1
  refine ⟨⟨A, xs.length, c, hs, rfl, fun hp => ?_⟩⟩
  obtain ⟨a, ha, _⟩ := h3 (by rintro rfl; simp at hp)
  exact ⟨a, ha, view_cells hv0 e1 ha⟩
theorem part_length {α : Type} (xs : List α) (lo m : Nat) (h : lo + m ≤ xs.length) : (part xs lo m).length = m := by simp [part]; omega
theorem flatV_part {k : FK} {xs : List k.T} {lo m p : Nat} {u : Value} (h : (flatV k (part xs lo m))[p]? = some u) : (flatV k xs)[lo * k.size + p]? = some u := by
  obtain ⟨i, j, x, cv, e, g1, g2, g3⟩ := flatV_inv k _ p u h
  unfold part at g1
  rw [List.getElem?_take] at g1
  split at g1
  · rw [List.getElem?_drop] at g1
    rw [e, g3]
    have := flatV_get k xs (lo + i) j x cv g1 g2
    rw [Nat.add_mul] at this
    rw [← Nat.add_assoc]
    exact this
  · cases g1
theorem src_s {id e lo m sz : Nat} {k : FK} {own : Bool} {xs : List k.T} {v : Value} (hm : Mem B w0 ρ φ U H w) (hH : H id = .arr (.f k) e own xs) (hsz : sz = k.size) (hle : lo + m ≤ xs.length) (hd : DenV ρ (.w (.c (.s id lo m sz))) v) : Src w k v (part xs lo m) := by
  subst hsz
  have hv := mem_view hm hH
  obtain ⟨A, n0, c0, A', c', hρ, hv', h1, h2, h5⟩ := hd
  refine ⟨⟨A', m, c', hv', (part_length xs lo m hle).symm, fun hp => ?_⟩⟩
  obtain ⟨a, rfl, rfl⟩ := h5 hp
  refine ⟨_, rfl, fun p u hu => ?_⟩
  rw [add_add]
  exact view_cells hv hρ rfl _ _ (flatV_part hu)

theorem append_run {t ty e : Nat} {k : FK} {z : SC} {v v2 : Value} {m : Nat} {xs ys : List k.T} (hT : TabOk P T) (ht : look T t = some (.sc (some (.f k, e)) z)) (hown : w.ownsRow 0 e k.size v xs.length (flatV k xs)) (hsrc : Src w k v2 ys) (hb : (xs.length + ys.length) * (8 * k.size) ≤ 140737488355328) :
    ∃ v' w', (Builtin.append_ #[t, t] ty #[v, v2]).run P w = .ok v' w' ∧ w'.ownsRow 0 e k.size v' (xs ++ ys).length (flatV k (xs ++ ys)) ∧ w.grownBy w' v.ownBlock ∧ (v'.ownBlock = v.ownBlock ∨ v'.ownBlock = some w.heap.size) := by
  obtain ⟨i, zv, hu, hi, hs, hby, hz, hzc⟩ := el_run hT ht
  obtain ⟨A, q, c, rfl, hq, hcell⟩ := hsrc.out
  have hk := k.size_pos
  have hs' : i.size = k.size := hs
  rcases Nat.eq_zero_or_pos q with h0 | h0
  · have : ys = [] := List.eq_nil_of_length_eq_zero (by omega)
    subst this
    cases A with
    | none =>
      refine ⟨v, w, run_append_nil t ty e i k.size hu hi v xs.length _ hown q c h0, ?_, ⟨rfl, rfl, rfl, Nat.le_refl _, fun _ _ _ => rfl⟩, .inl rfl⟩
      simpa using hown
    | some a =>
      have hl : (flatV k ([] : List k.T)).length = q * k.size := by rw [h0]; simp [flatV]
      have hmul : (xs.length + q) * i.bytes ≤ 140737488355328 := Nat.le_trans (Nat.mul_le_mul_left _ hby) (by rw [h0]; exact hb)
      have hcells : zv.cells.size = k.size := by rw [← Array.length_toList, ← all2_length hzc, K.enc_length]; rfl
      obtain ⟨v', w', g1, g2, g3, _, g5⟩ := run_append_own_at (P := P) w 0 t ty e i zv k.size i.bytes hu hi hz hs' rfl hcells hk v xs.length _ hown a q c (flatV k ([] : List k.T)) hl (fun j u h => by simp [flatV] at h) (fun u h => by simp [flatV] at h)
        (by simp only [maxLen]; have : xs.length + q ≤ (xs.length + q) * (8 * k.size) := Nat.le_mul_of_pos_right _ (by omega); simp at hb; rw [h0] at *; simp at *; omega) hmul (Nat.zero_le _)
      refine ⟨v', w', g1, ?_, g3, g5⟩
      rw [h0] at g2
      simpa [flatV] using g2
  · obtain ⟨a, rfl, hc⟩ := hcell h0
    have hl : (flatV k ys).length = q * k.size := by rw [flatV_length, hq]
    have hmul : (xs.length + q) * i.bytes ≤ 140737488355328 := Nat.le_trans (Nat.mul_le_mul_left _ hby) (by rw [hq]; exact hb)
    have hcells : zv.cells.size = k.size := by rw [← Array.length_toList, ← all2_length hzc, K.enc_length]; rfl
    have hmax : xs.length + q ≤ maxLen := by
      simp only [maxLen]
      have : xs.length + ys.length ≤ (xs.length + ys.length) * (8 * k.size) := Nat.le_mul_of_pos_right _ (by omega)
      omega
    obtain ⟨v', w', g1, g2, g3, _, g5⟩ := run_append_own_at (P := P) w 0 t ty e i zv k.size i.bytes hu hi hz hs' rfl hcells hk v xs.length _ hown a q c (flatV k ys) hl hc (fun u h => by
        unfold flatV at h
        obtain ⟨x, _, hx⟩ := List.mem_flatMap.1 h
        obtain ⟨cv, _, rfl⟩ := List.mem_map.1 hx
        exact cvv_one cv) hmax hmul (Nat.zero_le _)
    refine ⟨v', w', g1, ?_, g3, g5⟩
    rw [flatV_append, List.length_append, ← hq]
    exact g2
theorem own_slice' {e sz m : Nat} {v : Value} {L : List Value} (h : w.ownsRow 0 e sz v m L) : ∃ A n c, v = .slice A n c := by
  rcases h.2 with ⟨rfl, _⟩ | ⟨g, cap, cur, rfl, _⟩
  · exact ⟨_, _, _, rfl⟩
  · exact ⟨_, _, _, rfl⟩
theorem fine_append_fs {t id e ty : Nat} {k : FK} {z : SC} {xs ys : List k.T} {x y : Operand} {ev : Operand → Value} (hT : TabOk P T) (ht : look T t = some (.sc (some (.f k, e)) z)) (hm : Mem B w0 ρ φ U H w) (hn : ¬ U n) (hH : H id = .arr (.f k) e true xs)
    (hd : DenV ρ (.w (.c (.fs id))) (ev x)) (hsrc : Src w k (ev y) ys) (hb : (xs.length + ys.length) * (8 * k.size) ≤ 140737488355328) (dst) (tt) (pos) (af) (gd) :
    Fine B w0 ρ U H ((execOp ev ⟨dst, .call ⟨.builtin .append, #[x, y], #[t, t]⟩, tt, pos, af, gd⟩).run P w) (.w (.c (.fs n))) [(id, .dead), (n, .arr (.f k) e true (xs ++ ys))] n (n + 1) := by
  obtain ⟨h0, hown⟩ := mem_own hm hH
  have hv : ev x = ρ id := hd.1
  obtain ⟨v', w', hrun, g1, g2, g3⟩ := append_run (ty := tt) (m := 0) hT ht hown hsrc hb
  have ho : (H id).own = true := by rw [hH]; rfl
  have hl : (H id).live = true := by rw [hH]; rfl
  have hne : id ≠ n := by rintro rfl; exact hn (hm.used _ hl)
  obtain ⟨ρ', φ', m1, m2, m3⟩ := fine_put hm hn (fun g hg => by
      rcases g3 with h | h
      · rw [h] at hg; exact .inr ⟨ho, h0 g hg⟩
      · rw [h] at hg; injection hg with hg; exact .inl (by omega)) (.inl ho) hne
    (fun b hb h => by
      rcases h with h | h
      · exact absurd ho h
      · exact g2.block b hb (fun e => h (h0 b e.symm))) g2.os g2.tape g2.output g2.size g1
  refine ⟨v', w', ρ', φ', .inl ?_, m1.mono fun q hq => ?_, m2, ⟨m3.symm, own_slice' g1⟩, fun q hq => ?_⟩
  · simp [execOp, resolve, invoke, builtin, hv, hrun]
  · rcases hq with hq | rfl
    · exact .inl hq
    · exact .inr ⟨Nat.le_refl _, Nat.lt_succ_self _⟩
  · simp only [SC.ids] at hq
    subst hq
    exact .inr ⟨Nat.le_refl _, Nat.lt_succ_self _⟩
/-- A new own array. -/
theorem fine_newarr {e : Nat} {k : FK} {ys : List k.T} {v : Value} {w' : World} {r : Result Next} (hm : Mem B w0 ρ φ U H w) (hn : ¬ U n) (hr : r = .ok (.value v) w') (hg : w.grownBy w' none) (hv : v.ownBlock = none ∨ v.ownBlock = some w.heap.size)
    (hown : w'.ownsRow 0 e k.size v ys.length (flatV k ys)) : Fine B w0 ρ U H r (.w (.c (.fs n))) [(n, .arr (.f k) e true ys)] n (n + 1) := by
  have hnew : ∀ g, v.ownBlock = some g → w.heap.size ≤ g ∧ g < w'.heap.size := by
    intro g hg'
    refine ⟨?_, ?_⟩
    · rcases hv with h | h
      · rw [h] at hg'; cases hg'
      · rw [h] at hg'; injection hg' with hg'; omega
    · rcases hown.2 with ⟨rfl, _⟩ | ⟨g', cap, cur, rfl, _, hh, _⟩
      · cases hg'
      · have : g' = g := by simpa [Value.ownBlock] using hg'
        subst this
        exact (Array.getElem?_eq_some_iff.1 hh).1
  have hp := hm.put (w' := w') n (.arr (.f k) e true ys) v (fun g => v.ownBlock = some g) (fun h => absurd h hn) (fun b hb _ => hg.block b hb (by simp)) hg.os hg.tape hg.output hg.size trivial
    (own_flat.2 ⟨fun g h => h, hown⟩) (fun _ b hb => (hnew b hb).2) (fun b hb => .inl (hnew b hb).1)
  refine ⟨v, w', _, _, .inl hr, hp.mono fun q hq => ?_, fun q hq => upd_ne _ _ (by rintro rfl; exact hn hq), ⟨(upd_same _ _ _).symm, own_slice' hown⟩, fun q hq => ?_⟩
  · rcases hq with hq | rfl
    · exact .inl hq
    · exact .inr ⟨Nat.le_refl _, Nat.lt_succ_self _⟩
  · simp only [SC.ids] at hq
    subst hq
    exact .inr ⟨Nat.le_refl _, Nat.lt_succ_self _⟩
theorem fine_append_nil {t e ty : Nat} {k : FK} {z : SC} {ys : List k.T} {x y : Operand} {ev : Operand → Value} (hT : TabOk P T) (ht : look T t = some (.sc (some (.f k, e)) z)) (hm : Mem B w0 ρ φ U H w) (hn : ¬ U n)
    (hd : DenV ρ (.w (.c .nls)) (ev x)) (hsrc : Src w k (ev y) ys) (hb : ys.length * (8 * k.size) ≤ 140737488355328) (dst) (tt) (pos) (af) (gd) :
    Fine B w0 ρ U H ((execOp ev ⟨dst, .call ⟨.builtin .append, #[x, y], #[t, t]⟩, tt, pos, af, gd⟩).run P w) (.w (.c (.fs n))) [(n, .arr (.f k) e true ys)] n (n + 1) := by
  have hv : ev x = .slice none 0 0 := hd
  have hown : w.ownsRow 0 e k.size (.slice none 0 0) ([] : List k.T).length (flatV k []) := ⟨by simp [flatV], .inl ⟨rfl, rfl⟩⟩
  obtain ⟨v', w', hrun, g1, g2, g3⟩ := append_run (ty := tt) (m := 0) hT ht hown hsrc (by simpa using hb)
  exact fine_newarr hm hn (by simp [execOp, resolve, invoke, builtin, hv, hrun]) g2 g3 g1

/-! ### make, copy, literals -/
theorem flatV_replicate {k : FK} {m : Nat} {z : k.T} {p : Nat} (hp : p < m * k.size) : (flatV k (List.replicate m z))[p]? = ((k.enc z).map cvv)[p % k.size]? := by
  have hl : p < (flatV k (List.replicate m z)).length := by rw [flatV_length, List.length_replicate]; exact hp
  obtain ⟨i, j, x, cv, e, g1, g2, g3⟩ := flatV_inv k _ p _ (List.getElem?_eq_getElem hl)
  rw [List.getElem?_eq_getElem hl, g3]
  rw [List.getElem?_replicate] at g1
  split at g1
  · injection g1 with g1
    subst g1
    have hj : j < k.size := by rw [← k.enc_length z]; exact (List.getElem?_eq_some_iff.1 g2).1
    have : p % k.size = j := by rw [e, Nat.add_comm, Nat.add_mul_mod_self_right, Nat.mod_eq_of_lt hj]
    rw [this, List.getElem?_map, g2]
    rfl
  · cases g1
theorem cvz_eq {c : CV} {v : Value} (h : cvz c v = true) : v = cvv c := by
  unfold cvz at h
  split at h <;> simp_all [cvv]
theorem fine_make {t e : Nat} {k : FK} {z : SC} {x y : Operand} {a b : Int} {ev : Operand → Value} (hT : TabOk P T) (ht : look T t = some (.sc (some (.f k, e)) z)) (hm : Mem B w0 ρ φ U H w) (hn : ¬ U n)
    (hx : DenV ρ (.w (.c (.i a))) (ev x)) (hy : DenV ρ (.w (.c (.i b))) (ev y)) (hc : 0 ≤ a ∧ a ≤ b ∧ b * (8 * k.size) ≤ 281474976710656) (dst) (tt) (pos) (af) (gd) :
    Fine B w0 ρ U H ((execOp ev ⟨dst, .makeSlice t x y, tt, pos, af, gd⟩).run P w) (.w (.c (.fs n))) [(n, .arr (.f k) e true (List.replicate a.toNat k.zero))] n (n + 1) := by
  obtain ⟨i, zv, hu, hi, hs, hby, hz, hzc⟩ := el_run hT ht
  obtain ⟨h0, h1, h2⟩ := hc
  have hk := k.size_pos
  have hs' : i.size = k.size := hs
  have hby' : i.bytes ≤ 8 * k.size := hby
  have hb : (i.bytes : Int) * b ≤ 281474976710656 := by
    have h3 : (i.bytes : Int) * b ≤ ((8 * k.size : Nat) : Int) * b := Int.mul_le_mul_of_nonneg_right (by omega) (by omega)
    have h4 : ((8 * k.size : Nat) : Int) * b = b * (8 * k.size) := by rw [Int.mul_comm]; simp
    omega
  have hbb : b ≤ 140737488355328 := by
    have : b * 8 ≤ b * (8 * (k.size : Int)) := Int.mul_le_mul_of_nonneg_left (by omega) (by omega)
    omega
  have hrun := run_make (P := P) w t e i zv hu hi hz .i64 .i64 a b h0 h1 hb (by omega)
  have hzs : zv.cells.size = k.size := by rw [← Array.length_toList, ← all2_length hzc, K.enc_length]; rfl
  refine fine_newarr hm hn (v := .slice (some ⟨w.heap.size, 0, none⟩) a.toNat b.toNat) (w' := w.alloc (.cells (madeCells zv.cells (b.toNat * i.size)) e)) ?_ ⟨rfl, rfl, rfl, by simp, fun q hq _ => Below.heap_alloc w _ q hq⟩ (.inr rfl) ?_
  · have hx' := den_i hx
    have hy' := den_i hy
    simp [execOp, hx', hy', hrun]
  · refine ⟨by rw [flatV_length], .inr ⟨w.heap.size, b.toNat, _, by rw [List.length_replicate], Nat.zero_le _, heap_alloc_new w _, by rw [List.length_replicate]; omega, by simp only [maxLen]; omega, by rw [size_madeCells, hs'], ?_⟩⟩
    apply List.ext_getElem?
    intro p
    rw [List.length_replicate]
    have hab : a.toNat * k.size ≤ b.toNat * k.size := Nat.mul_le_mul_right _ (by omega)
    by_cases hp : p < a.toNat * k.size
    · rw [List.getElem?_take, if_pos hp, flatV_replicate hp]
      have hlt : p < b.toNat * i.size := by rw [hs']; omega
      have hmod : p % k.size < k.size := Nat.mod_lt _ hk
      have hq : (madeCells zv.cells (b.toNat * i.size)).toList[p]? = some (zv.cells[p % zv.cells.size]!) := by
        unfold madeCells
        rw [Array.toList_map, List.getElem?_map, Array.getElem?_toList]
        simp [hlt]
      rw [hq, hzs]
      obtain ⟨cv, hcv⟩ : ∃ cv, ((K.f k).enc (K.f k).zero)[p % k.size]? = some cv := ⟨_, List.getElem?_eq_getElem (by rw [K.enc_length]; exact hmod)⟩
      obtain ⟨u, hu', hcz⟩ := all2_get hzc (p % k.size) _ hcv
      have hu2 : zv.cells[p % k.size]? = some u := by simpa using hu'
      have e1 : zv.cells[p % k.size]! = u := by rw [getElem!_def, hu2]
      have hcz' := cvz_eq hcz
      rw [e1, hcz', List.getElem?_map]
      have e2 : (k.enc k.zero)[p % k.size]? = some cv := hcv
      rw [e2]
      rfl
    · rw [List.getElem?_eq_none (by rw [List.length_take]; omega), List.getElem?_eq_none (by rw [flatV_length, List.length_replicate]; omega)]
theorem fine_copy {t t2 id e e' : Nat} {k : FK} {k' : K} {z : SC} {xs ys : List k.T} {x y : Operand} {ev : Operand → Value} (hT : TabOk P T) (ht : look T t = some (.sc (some (k', e')) z)) (hk' : k' = .f k) (hm : Mem B w0 ρ φ U H w) (hH : H id = .arr (.f k) e true xs)
    (hd : DenV ρ (.w (.c (.fs id))) (ev x)) (hsrc : Src w k (ev y) ys) (dst) (tt) (pos) (af) (gd) :
    Fine B w0 ρ U H ((execOp ev ⟨dst, .call ⟨.builtin .copy, #[x, y], #[t, t2]⟩, tt, pos, af, gd⟩).run P w) (.w (.c (.i ((Nat.min ys.length xs.length : Nat) : Int)))) [(id, .arr (.f k) e true (ys.take xs.length ++ xs.drop ys.length))] n n := by
  subst hk'
  obtain ⟨i, zv, hu, hi, hs, hby, hz, hzc⟩ := el_run hT ht
  have hs' : i.size = k.size := hs
  obtain ⟨A, m, c, hv2, hmq, hcell⟩ := hsrc.out
  obtain ⟨h0, hrow⟩ := mem_own hm hH
  have hv : ev x = ρ id := hd.1
  have hk := k.size_pos
  by_cases hxe : xs = []
  · subst hxe
    obtain ⟨A0, n0, c0, hv0⟩ := hd.2
    have hn0 : n0 = 0 := by
      have := hrow.2
      rw [← hv, hv0] at this
      rcases this with ⟨h, _⟩ | ⟨g, cap, cur, h, _⟩
      · injection h
      · injection h
    have hxx : ys.take ([] : List k.T).length ++ ([] : List k.T).drop ys.length = [] := by simp
    rw [hxx]
    refine ⟨.int .i64 0, w, ρ, φ, .inl ?_, ?_, fun _ _ => rfl, by show Value.int .i64 0 = _; simp, fun _ h => h.elim⟩
    · have hfc : ∀ v, (Builtin.firstCells i.size 0 v).run P w = .ok #[] w ∨ True := fun _ => .inr trivial
      cases A with
      | none => cases A0 <;> simp [execOp, resolve, invoke, builtin, Builtin.copy_, hv0, hn0, hv2, run_underlying hu, Builtin.lenOf, Builtin.firstCells, run_sizeOf' hi, storeCells, goInt]
      | some a => cases A0 <;> simp [execOp, resolve, invoke, builtin, Builtin.copy_, hv0, hn0, hv2, run_underlying hu, Builtin.lenOf, Builtin.firstCells, run_sizeOf' hi, storeCells, goInt, loadCells, loadCellsFrom]
    · have : applyD H [(id, .arr (.f k) e true [])] = H := by
        show upd H id _ = H
        rw [← hH]
        exact upd_self H id
      rw [this]
      exact hm.mono fun _ h => .inl h
  · obtain ⟨g, cap, cur, hρ, hφ, hh, h1, h2, h3, h4⟩ := own_row hm hH hxe
    have hcsz : xs.length * k.size ≤ cur.size := by rw [h3]; exact Nat.mul_le_mul_right _ h1
    let q := Nat.min ys.length xs.length
    have hqx : q ≤ xs.length := Nat.min_le_right _ _
    have hqy : q ≤ ys.length := Nat.min_le_left _ _
    let news := flatV k (ys.take q)
    have hnl : news.length = q * k.size := by show (flatV k (ys.take q)).length = _; rw [flatV_length, List.length_take, Nat.min_eq_left hqy]
    have hqm : q * k.size ≤ xs.length * k.size := Nat.mul_le_mul_right _ hqx
    have hone : ∀ v ∈ news, v.oneCell' = true := fun v hv => by
      unfold news flatV at hv
      obtain ⟨x, _, hx⟩ := List.mem_flatMap.1 hv
      obtain ⟨cv, _, rfl⟩ := List.mem_map.1 hx
      exact cvv_one cv
    have hload : ∃ vs, (Builtin.firstCells i.size q (ev y)).run P w = .ok vs w ∧ vs.toList = news := by
      rcases Nat.eq_zero_or_pos m with hm0 | hm0
      · have hq0 : q = 0 := by omega
        refine ⟨#[], ?_, ?_⟩
        · rw [hv2]
          cases A <;> simp [Builtin.firstCells, hq0, loadCells, loadCellsFrom]
        · have : news.length = 0 := by rw [hnl, hq0]; simp
          simpa using (List.eq_nil_of_length_eq_zero this).symm
      · obtain ⟨a, rfl, hc⟩ := hcell hm0
        have := run_loadCells_list (P := P) w a news (fun j u hu => hc j u (by
          have e1 : ys = ys.take q ++ ys.drop q := (List.take_append_drop q ys).symm
          rw [e1, flatV_append, List.getElem?_append_left (by exact (List.getElem?_eq_some_iff.1 hu).1)]
          exact hu))
        rw [hnl] at this
        refine ⟨news.toArray, ?_, by simp⟩
        rw [hv2]
        simp only [Builtin.firstCells, hs', this]
    obtain ⟨vs, hl1, hl2⟩ := hload
    have hst := run_storeCells_at P g 0 e news 0 cur w hh (by omega) hone
    have hL : (ys.take xs.length ++ xs.drop ys.length).length = xs.length := by simp; omega
    have hw := own_write (sz := k.size) (m := xs.length) (o := 0) (vs := news) (L' := flatV k (ys.take xs.length ++ xs.drop ys.length)) hh h1 h2 h3 h4 (by omega) (by rw [flatV_length, hL]) (fun p hp => by
      have e1 : ys.take xs.length ++ xs.drop ys.length = ys.take q ++ xs.drop q := by
        rcases Nat.le_total ys.length xs.length with h | h
        · have : q = ys.length := Nat.min_eq_left h
          rw [this, List.take_of_length_le h, List.take_length]
        · have : q = xs.length := Nat.min_eq_right h
          rw [this, List.drop_eq_nil_of_le h, List.drop_length]
      rw [e1, flatV_append]
      by_cases hc : p < q * k.size
      · rw [if_pos (by omega), List.getElem?_append_left (by rw [hnl]; exact hc)]
        simp [news]
      · rw [if_neg (by omega), List.getElem?_append_right (by rw [hnl]; omega), hnl]
        have e2 : xs = xs.take q ++ xs.drop q := (List.take_append_drop q xs).symm
        have hl3 : (flatV k (xs.take q)).length = q * k.size := by rw [flatV_length, List.length_take, Nat.min_eq_left hqx]
        conv => rhs; rw [e2, flatV_append, List.getElem?_append_right (by rw [hl3]; omega), hl3])
    have hmt := mem_turn (ys := ys.take xs.length ++ xs.drop ys.length) hm hH hφ h0 (by rw [hρ, hL]; exact hw)
    simp only [Nat.zero_add, Nat.add_zero] at hst hmt
    refine ⟨.int .i64 (q : Int), _, _, _, .inl ?_, hmt.mono fun z hz => ?_, fun z hz => by rw [upd_self], rfl, fun _ h => h.elim⟩
    · have hq' : Nat.min m xs.length = q := by rw [hmq]
      rw [hv2] at hl1
      simp only [execOp, resolve, invoke, builtin, Sem.run_bind, Sem.run_pure, Result.andThen_ok, List.map_toArray, List.map_cons, List.map_nil, hv, hρ, hv2]
      simp [Builtin.copy_, run_underlying hu, Builtin.lenOf, run_sizeOf' hi, hq', hl1, hl2, hst, goInt]
    · rcases hz with hz | rfl
      · exact .inl hz
      · exact .inl (used_arr hm hH)
end
end Go.Eng

/- Own lists of elements with slices in them: made, appended to, an element's slice stored: sound. -/
set_option linter.unusedVariables false
set_option linter.unusedSimpArgs false
namespace Go.Eng
open Go Go.RowKit

theorem fill_gen {sz : Nat} : ∀ (vs : List Value) (ps : List (Nat × Value)) (j : Nat) (cs : Array Value), (∀ v ∈ vs, v.cells.size = sz) → (j + vs.length) * sz ≤ cs.size → ps = (vs.zipIdx j).map (fun p => (p.2, p.1)) →
    ∃ cs', Instr.fill (fun i => some (i * sz, sz)) cs ps = some cs' ∧ cs'.size = cs.size ∧
      ∀ (p : Nat), cs'[p]? = if j * sz ≤ p ∧ p < (j + vs.length) * sz then (vs.flatMap fun v => v.cells.toList)[p - j * sz]? else cs[p]?
  | [], ps, j, cs, hv, hsz, hps => by
    subst hps
    refine ⟨cs, rfl, rfl, fun p => ?_⟩
    rw [if_neg (by simp)]
  | v :: vs, ps, i, cs, hv, hsz, hps => by
    subst hps
    have hvl : v.cells.size = sz := hv v (List.mem_cons_self ..)
    have e0 : (i + (v :: vs).length) * sz = i * sz + sz + vs.length * sz := by
      simp only [List.length_cons]
      rw [show i + (vs.length + 1) = i + 1 + vs.length by omega, Nat.add_mul, Nat.succ_mul]
    obtain ⟨f1, f2⟩ := foldl_set (i * sz) v.cells.toList 0 cs
    have e1 : v.cells.zipIdx.foldl (fun cs (c, j) => cs.setIfInBounds (i * sz + j) c) cs = ((v.cells.toList.zipIdx 0).foldl (fun (cs : Array Value) (p : Value × Nat) => cs.setIfInBounds (i * sz + p.2) p.1) cs) := by
      rw [← Array.foldl_toList, Array.toList_zipIdx]
    have ih := fill_gen vs ((vs.zipIdx (i + 1)).map (fun p => (p.2, p.1))) (i + 1) (v.cells.zipIdx.foldl (fun cs (c, j) => cs.setIfInBounds (i * sz + j) c) cs) (fun v h => hv v (List.mem_cons_of_mem _ h)) (by
      rw [e1, f1]
      have : (i + 1 + vs.length) * sz = i * sz + sz + vs.length * sz := by rw [Nat.add_mul, Nat.succ_mul]
      omega) rfl
    obtain ⟨cs', h2, h3, h4⟩ := ih
    refine ⟨cs', ?_, by rw [h3, e1, f1], fun p => ?_⟩
    · have e2 : (v.cells.size ≠ sz || i * sz + v.cells.size > cs.size) = false := by
        simp
        omega
      simp only [List.zipIdx_cons, List.map_cons, Instr.fill]
      rw [if_neg (by rw [e2]; simp)]
      exact h2
    · rw [h4 p]
      have e3 : (i + 1) * sz = i * sz + sz := Nat.succ_mul _ _
      have e4 : (i + 1 + vs.length) * sz = i * sz + sz + vs.length * sz := by rw [Nat.add_mul, Nat.succ_mul]
      have hel : v.cells.toList.length = sz := by rw [Array.length_toList]; exact hvl
      rw [e0]
      by_cases c1 : (i + 1) * sz ≤ p ∧ p < (i + 1 + vs.length) * sz
      · rw [if_pos c1, if_pos (by omega), List.flatMap_cons, List.getElem?_append_right (by rw [hel]; omega), hel]
        congr 1
        omega
      · rw [if_neg c1, e1, f2]
        simp only [Nat.add_zero, Array.length_toList]
        by_cases c2 : i * sz ≤ p ∧ p < i * sz + v.cells.size ∧ p < cs.size
        · rw [if_pos c2, if_pos (by omega), List.flatMap_cons, List.getElem?_append_left (by omega)]
        · rw [if_neg c2, if_neg (by omega)]

section
variable {P : Program} {T : Tab} {B : Nat} {w0 : Base} {w w' : World} {ρ : Nat → Value} {φ : Nat → Nat → Prop} {U : Nat → Prop} {H : Nat → HB} {n : Nat}

/-- Blocks of the call's own die; what they held is another block's now. -/
theorem Mem.gather (h : Mem B w0 ρ φ U H w) (D : List Nat) (x : Nat) (hb : HB) (v : Value) (ψ : Nat → Prop) (hD : ∀ d ∈ D, (H d).own = true) (hx : U x → x ∈ D ∧ ρ x = v)
    (hkeep : ∀ b, b < w.heap.size → (∀ d ∈ D, ¬ φ d b) → w'.heap[b]? = w.heap[b]?) (hos : w'.os = w.os) (htape : w'.tape = w.tape) (hout : w'.output = w.output) (hsize : w.heap.size ≤ w'.heap.size)
    (hw : hb.wf (fun y => U y ∨ y = x)) (hh : Holds (upd ρ x v) w' ψ hb v) (hlt : hb.live = true → ∀ b, ψ b → b < w'.heap.size) (hown : ∀ b, ψ b → w.heap.size ≤ b ∨ ∃ d ∈ D, φ d b) :
    Mem B w0 (upd ρ x v) (upd φ x ψ) (fun y => U y ∨ y = x) (upd (fun z => if z ∈ D then .dead else H z) x hb) w' := by
  have off : ∀ z, z ≠ x → (upd (fun z => if z ∈ D then HB.dead else H z) x hb z).live = true → z ∉ D ∧ upd (fun z => if z ∈ D then HB.dead else H z) x hb z = H z := by
    intro z hz hl
    rw [upd_ne _ _ hz] at hl ⊢
    by_cases hd : z ∈ D
    · rw [if_pos hd] at hl; cases hl
    · rw [if_neg hd] at hl ⊢; exact ⟨hd, rfl⟩
  refine ⟨Nat.le_trans h.base hsize, ?_, fun z hz => ?_, fun z => ?_, fun z => ?_, fun z hz b hb' => ?_, fun z hz b hb' => ?_, fun z z' hne hz hz' b hφ hφ' => ?_, fun z hz b hb' hB => ?_⟩
  · refine ⟨hos.trans h.below.os, htape.trans h.below.tape, hout.trans h.below.output, Nat.le_trans h.below.size hsize, fun q hq => ?_⟩
    refine (hkeep q (Nat.lt_of_lt_of_le hq h.base) fun d hd hφ => ?_).trans (h.below.block q hq)
    have := h.low d (hD d hd) q hφ
    omega
  · by_cases e : z = x
    · exact .inr e
    · obtain ⟨_, he⟩ := off z e hz
      rw [he] at hz
      exact .inl (h.used z hz)
  · by_cases e : z = x
    · subst e; rw [upd_same]; exact hw
    · rw [upd_ne _ _ e]
      by_cases hd : z ∈ D
      · rw [if_pos hd]; trivial
      · rw [if_neg hd]; exact (h.wf z).mono fun _ h => .inl h
  · by_cases e : z = x
    · subst e; rw [upd_same, upd_same, upd_same]; exact hh
    · rw [upd_ne _ _ e, upd_ne _ _ e, upd_ne _ _ e]
      by_cases hd : z ∈ D
      · rw [if_pos hd]; trivial
      · rw [if_neg hd]
        by_cases hl : (H z).live = true
        · refine (Holds.anchors (h.holds z) (h.wf z) fun y hy => ?_).agree fun b hb' => ?_
          · by_cases ey : y = x
            · subst ey; rw [upd_same]; exact (hx hy).2.symm
            · rw [upd_ne _ _ ey]
          · refine hkeep b (h.lt z hl b hb') fun d hd' hφ => ?_
            exact h.apart d z (by rintro rfl; exact hd hd') (hD d hd') hl b hφ hb'
        · have : H z = .dead := by cases hh : H z <;> simp_all [HB.live]
          rw [this]; trivial
  · by_cases e : z = x
    · subst e; rw [upd_same] at hz hb'; exact hlt hz b hb'
    · obtain ⟨_, he⟩ := off z e hz
      rw [he] at hz
      rw [upd_ne _ _ e] at hb'
      exact Nat.lt_of_lt_of_le (h.lt z hz b hb') hsize
  · by_cases e : z = x
    · subst e
      rw [upd_same] at hb'
      rcases hown b hb' with h1 | ⟨d, hd, hφ⟩
      · exact Nat.le_trans h.base h1
      · exact h.low d (hD d hd) b hφ
    · obtain ⟨_, he⟩ := off z e (HB.live_of_own hz)
      rw [he] at hz
      rw [upd_ne _ _ e] at hb'
      exact h.low z hz b hb'
  · by_cases e : z = x
    · subst e
      have e' : z' ≠ z := Ne.symm hne
      obtain ⟨hd', he'⟩ := off z' e' hz'
      rw [he'] at hz'
      rw [upd_same] at hφ
      rw [upd_ne _ _ e'] at hφ'
      rcases hown b hφ with h1 | ⟨d, hd, hφd⟩
      · have := h.lt z' hz' b hφ'; omega
      · exact h.apart d z' (by rintro rfl; exact hd' hd) (hD d hd) hz' b hφd hφ'
    · obtain ⟨hdz, he⟩ := off z e (HB.live_of_own hz)
      rw [he] at hz
      rw [upd_ne _ _ e] at hφ
      by_cases e' : z' = x
      · subst e'
        rw [upd_same] at hφ'
        have hlt' := h.lt z (HB.live_of_own hz) b hφ
        rcases hown b hφ' with h1 | ⟨d, hd, hφd⟩
        · omega
        · exact h.apart z d (by rintro rfl; exact hdz hd) hz (HB.live_of_own (hD d hd)) b hφ hφd
      · obtain ⟨_, he'⟩ := off z' e' hz'
        rw [he'] at hz'
        rw [upd_ne _ _ e'] at hφ'
        exact h.apart z z' hne hz hz' b hφ hφ'
  · by_cases e : z = x
    · subst e
      rw [upd_same] at hb'
      rcases hown b hb' with h1 | ⟨d, hd, hφ⟩
      · have := h.base; omega
      · exact h.foot d (HB.live_of_own (hD d hd)) b hφ hB
    · obtain ⟨_, he⟩ := off z e hz
      rw [he] at hz
      rw [upd_ne _ _ e] at hb'
      exact h.foot z hz b hb' hB
theorem applyD_app : ∀ (l m : List (Nat × HB)) (H : Nat → HB), applyD H (l ++ m) = applyD (applyD H l) m
  | [], _, _ => rfl
  | (i, x) :: l, m, H => applyD_app l m (upd H i x)
theorem applyD_dead : ∀ (D : List Nat) (H : Nat → HB), applyD H (deadD D) = fun z => if z ∈ D then HB.dead else H z
  | [], H => by funext z; simp [deadD, applyD]
  | d :: D, H => by
    rw [deadD, applyD, applyD_dead D]
    funext z
    by_cases hz : z ∈ D
    · rw [if_pos hz, if_pos (List.mem_cons_of_mem _ hz)]
    · rw [if_neg hz]
      by_cases hd : z = d
      · subst hd; rw [upd_same, if_pos (List.mem_cons_self ..)]
      · rw [upd_ne _ _ hd, if_neg (by simp [hz, hd])]
theorem applyD_gather (D : List Nat) (x : Nat) (hb : HB) (H : Nat → HB) : applyD H (app (deadD D) [(x, hb)]) = upd (fun z => if z ∈ D then HB.dead else H z) x hb := by
  rw [app_eq, applyD_app, applyD_dead]; rfl

/-! ### Slices that go into an element -/
theorem rowOf_sound {Hl : Heap} (hH : ∀ id, (hget Hl id).live = true → H id = hget Hl id) (hm : Mem B w0 ρ φ U H w) {fk : FK} {c : SC} {xs : List fk.T} {D : List Nat} {v : Value} (h : rowOf fk Hl c = some (xs, D)) (hd : DenC ρ c v) :
    (∀ d ∈ D, (H d).own = true ∧ ∃ e ys, H d = .arr (.f fk) e true ys) ∧ CVo w (fun b => ∃ d ∈ D, φ d b) (.sl fk xs) v ∧ v.oneCell' = true ∧ v.cells = #[v] := by
  unfold rowOf at h
  split at h
  · injection h with h
    simp only [Prod.mk.injEq] at h
    obtain ⟨rfl, rfl⟩ := h
    have hd : v = .slice none 0 0 := hd
    subst hd
    exact ⟨by simp, ⟨fun g hg => (by cases hg), 0, [], World.ownsRow_nil _ _ _ _, fun i x hx => (by simp at hx)⟩, rfl, rfl⟩
  · rename_i j
    split at h
    · rename_i k2 e ys hh
      split at h
      · rename_i hk _
        subst hk
        injection h with h
        simp only [Prod.mk.injEq] at h
        obtain ⟨rfl, rfl⟩ := h
        have hj : H j = .arr (.f k2) e true ys := by rw [hH j (by rw [hh]; rfl), hh]
        have hv : v = ρ j := hd.1
        obtain ⟨A, n', c', hs⟩ := hd.2
        refine ⟨fun d hd => ?_, ?_, by rw [hs]; rfl, by rw [hs]; rfl⟩
        · simp at hd; subst hd; exact ⟨by rw [hj]; rfl, e, ys, hj⟩
        · rw [hv]
          have hown := hm.holds j
          rw [hj] at hown
          obtain ⟨o0, o1⟩ := own_flat.1 hown
          exact ⟨fun g hg => ⟨j, by simp, o0 g hg⟩, e, flatV _ ys, o1, fun i x hx q cv hq => flatV_get _ ys i q x cv hx hq⟩
      · cases h
    · cases h
  · cases h
theorem elemK_sound {Hl : Heap} (hH : ∀ id, (hget Hl id).live = true → H id = hget Hl id) (hm : Mem B w0 ρ φ U H w) {k : K} {s : SV} {y : k.T} {D : List Nat} {v : Value} (h : elemK Hl k s = some (y, D)) (hd : DenV ρ s v) :
    (∀ d ∈ D, (H d).own = true) ∧ v.cells.size = k.size ∧ (∀ u ∈ v.cells.toList, u.oneCell' = true) ∧ ∀ (j : Nat) cv, (k.enc y)[j]? = some cv → ∃ u, v.cells.toList[j]? = some u ∧ CVo w (fun b => ∃ d ∈ D, φ d b) cv u := by
  unfold elemK at h
  split at h
  · rename_i d s c
    split at h
    · rename_i xs l hr
      injection h with h
      simp only [Prod.mk.injEq] at h
      obtain ⟨rfl, rfl⟩ := h
      obtain ⟨vs, rfl, hl⟩ := hd
      obtain ⟨a0, h0, k0⟩ := hl.2 0 _ rfl
      obtain ⟨a1, h1, k1⟩ := hl.2 1 _ rfl
      obtain ⟨a2, h2, k2⟩ := hl.2 2 _ rfl
      have k0 : a0 = .int .i64 d := k0
      have k1 : a1 = .int .i64 s := k1
      subst k0; subst k1
      obtain ⟨q1, q2, q3, _⟩ := rowOf_sound hH hm hr k2
      have hsz : vs.size = 3 := hl.1
      refine ⟨fun d hd => (q1 d hd).1, hsz, fun u hu => ?_, fun j cv hj => ?_⟩
      · obtain ⟨j, hj⟩ := List.getElem?_of_mem hu
        have hj' : vs[j]? = some u := by simpa [Value.cells] using hj
        match j, hj' with
        | 0, hj' => rw [h0] at hj'; injection hj' with hj'; subst hj'; rfl
        | 1, hj' => rw [h1] at hj'; injection hj' with hj'; subst hj'; rfl
        | 2, hj' => rw [h2] at hj'; injection hj' with hj'; subst hj'; exact q3
        | j + 3, hj' => rw [Array.getElem?_eq_none (by omega)] at hj'; cases hj'
      · match j, hj with
        | 0, hj => simp [K.enc] at hj; subst hj; exact ⟨_, by simpa [Value.cells] using h0, rfl⟩
        | 1, hj => simp [K.enc] at hj; subst hj; exact ⟨_, by simpa [Value.cells] using h1, rfl⟩
        | 2, hj => simp [K.enc] at hj; subst hj; exact ⟨_, by simpa [Value.cells] using h2, q2⟩
        | j + 3, hj => simp [K.enc] at hj
    · cases h
  · rename_i fk c
    obtain ⟨q1, q2, q3, q4⟩ := rowOf_sound hH hm h hd
    refine ⟨fun d hd => (q1 d hd).1, by rw [q4]; rfl, fun u hu => ?_, fun j cv hj => ?_⟩
    · rw [q4] at hu; simp at hu; subst hu; exact q3
    · match j, hj with
      | 0, hj => simp [K.enc] at hj; subst hj; exact ⟨v, by rw [q4]; rfl, q2⟩
      | j + 1, hj => simp [K.enc] at hj
  · cases h

theorem flatMap_at {α : Type} {f : α → List Value} {sz : Nat} : ∀ {l : List α} {i j : Nat} {x : α}, (∀ y ∈ l, (f y).length = sz) → l[i]? = some x → j < sz → (l.flatMap f)[i * sz + j]? = (f x)[j]?
  | [], i, j, x, _, hx, _ => by simp at hx
  | y :: l, i, j, x, h, hx, hj => by
    have hy := h y (List.mem_cons_self ..)
    rw [List.flatMap_cons]
    cases i with
    | zero =>
      simp at hx; subst hx
      rw [List.getElem?_append_left (by omega)]
      simp
    | succ i =>
      rw [List.getElem?_append_right (by rw [hy, Nat.succ_mul]; omega), hy]
      have : (i + 1) * sz + j - sz = i * sz + j := by rw [Nat.succ_mul]; omega
      rw [this]
      exact flatMap_at (fun z hz => h z (List.mem_cons_of_mem _ hz)) (by simpa using hx) hj
theorem flatMap_len {α : Type} {f : α → List Value} {sz : Nat} : ∀ {l : List α}, (∀ y ∈ l, (f y).length = sz) → (l.flatMap f).length = l.length * sz
  | [], _ => by simp
  | y :: l, h => by
    rw [List.flatMap_cons, List.length_append, h y (List.mem_cons_self ..), flatMap_len fun z hz => h z (List.mem_cons_of_mem _ hz), List.length_cons, Nat.add_mul]
    omega
theorem elemsK_sound {Hl : Heap} (hH : ∀ id, (hget Hl id).live = true → H id = hget Hl id) (hm : Mem B w0 ρ φ U H w) {k : K} {en : Env} {ev' : Operand → Value} (hev : ∀ x, DenV ρ (ev en x) (ev' x)) : ∀ (ps : List (Nat × Operand)) (j : Nat) (ys : List k.T) (D : List Nat), elemsK k en Hl j ps = some (ys, D) →
    ys.length = ps.length ∧ (ps.map fun p => (p.1, ev' p.2)) = ((ps.map fun p => ev' p.2).zipIdx j).map (fun p => (p.2, p.1)) ∧ (∀ d ∈ D, (H d).own = true) ∧ (∀ v ∈ ps.map fun p => ev' p.2, v.cells.size = k.size ∧ ∀ u ∈ v.cells.toList, u.oneCell' = true) ∧
      ∀ (i : Nat) y, ys[i]? = some y → ∃ v, (ps.map fun p => ev' p.2)[i]? = some v ∧ ∀ (q : Nat) cv, (k.enc y)[q]? = some cv → ∃ u, v.cells.toList[q]? = some u ∧ CVo w (fun b => ∃ d ∈ D, φ d b) cv u
  | [], j, ys, D, h => by
    simp only [elemsK, Option.some.injEq, Prod.mk.injEq] at h
    obtain ⟨rfl, rfl⟩ := h
    exact ⟨rfl, rfl, by simp, by simp, fun i y hy => by simp at hy⟩
  | (i, x) :: ps, j, ys, D, h => by
    unfold elemsK at h
    split at h
    · rename_i hij
      subst hij
      split at h
      · rename_i y l ys' l' h1 h2
        injection h with h
        simp only [Prod.mk.injEq] at h
        obtain ⟨rfl, rfl⟩ := h
        obtain ⟨a1, a2, a3, a4⟩ := elemK_sound hH hm h1 (hev x)
        obtain ⟨b1, b2, b3, b4, b5⟩ := elemsK_sound hH hm hev ps (i + 1) ys' l' h2
        rw [app_eq]
        refine ⟨by simp [b1], by simp [b2], fun d hd => ?_, fun v hv => ?_, fun q z hz => ?_⟩
        · rcases List.mem_append.1 hd with hd | hd
          · exact a1 d hd
          · exact b3 d hd
        · simp only [List.map_cons] at hv
          rcases List.mem_cons.1 hv with rfl | hv
          · exact ⟨a2, a3⟩
          · exact b4 v hv
        · cases q with
          | zero =>
            simp at hz; subst hz
            refine ⟨ev' x, rfl, fun r cv hcv => ?_⟩
            obtain ⟨u, hu, hc⟩ := a4 r cv hcv
            exact ⟨u, hu, CVo.widen (fun b ⟨d, hd, hb⟩ => ⟨d, List.mem_append_left _ hd, hb⟩) _ _ hc⟩
          | succ q =>
            obtain ⟨v, hv, hall⟩ := b5 q z (by simpa using hz)
            refine ⟨v, by simpa using hv, fun r cv hcv => ?_⟩
            obtain ⟨u, hu, hc⟩ := hall r cv hcv
            exact ⟨u, hu, CVo.widen (fun b ⟨d, hd, hb⟩ => ⟨d, List.mem_append_right _ hd, hb⟩) _ _ hc⟩
      · cases h
    · cases h
theorem fine_build_deep {t m e : Nat} {k : K} {z : SC} {en : Env} {ps : Array (Nat × Operand)} {ys : List k.T} {D : List Nat} {Hl : Heap} {ev' : Operand → Value} (hT : TabOk P T) (ht : look T t = some (.sc (some (k, e)) z)) (hH : ∀ id, (hget Hl id).live = true → H id = hget Hl id) (hm : Mem B w0 ρ φ U H w) (hn : ¬ U n) (hev : ∀ x, DenV ρ (ev en x) (ev' x))
    (hel : elemsK k en Hl 0 ps.toList = some (ys, D)) (hl : ps.toList.length = m) (hlim : m * k.size ≤ 16777216) (hone : oneRow k m = true) (dst) (tt) (pos) (af) (gd) :
    Fine B w0 ρ U H ((execOp ev' ⟨dst, .buildSlice t m ps, tt, pos, af, gd⟩).run P w) (.w (.c (.fs n))) (app (deadD D) [(n, .arr k e true ys)]) n (n + 1) := by
  obtain ⟨i, zv, hu, hi, hs', hby, hz, hzc⟩ := el_run hT ht
  have hk := k.size_pos
  have hzs : zv.cells.size = k.size := by rw [← Array.length_toList, ← all2_length hzc, K.enc_length]
  generalize hcs0 : (if m * k.size = 0 then (#[] : Array Value) else zv.cells) = z0
  obtain ⟨b1, b2, b3, b4, b5⟩ := elemsK_sound hH hm hev ps.toList 0 ys D hel
  generalize hvs : (ps.toList.map fun p => ev' p.2) = vs at b2 b4 b5
  have hvl : vs.length = m := by rw [← hvs]; simp [hl]
  have hcl : ∀ v ∈ vs, v.cells.toList.length = k.size := fun v hv => by rw [Array.length_toList]; exact (b4 v hv).1
  obtain ⟨cs', h2, h3, h4⟩ := fill_gen (sz := k.size) vs _ 0 ((Array.range (m * k.size)).map (z0[· % z0.size]!)) (fun v hv => (b4 v hv).1) (by simp [hvl]) b2
  have hlist : (ps.map fun (p : Nat × Operand) => (p.1, ev' p.2)).toList = ps.toList.map fun p => (p.1, ev' p.2) := by simp
  have hsz : cs'.size = m * k.size := by rw [h3]; simp
  have hL := flatMap_len (l := vs) hcl
  have hflat : cs'.toList = vs.flatMap fun v => v.cells.toList := by
    apply List.ext_getElem?
    intro p
    rw [Array.getElem?_toList, h4 p]
    simp only [Nat.zero_mul, Nat.zero_add, Nat.zero_le, true_and, Nat.sub_zero, hvl]
    by_cases hp : p < m * k.size
    · rw [if_pos hp]
    · rw [if_neg hp, List.getElem?_eq_none (by rw [hL, hvl]; omega)]
      simp; omega
  have hyl : ys.length = m := by rw [b1, hl]
  have hrun : (execOp ev' ⟨dst, .buildSlice t m ps, tt, pos, af, gd⟩).run P w = .ok (.value (.slice (some ⟨w.heap.size, 0, none⟩) m m)) (w.alloc (.cells cs' e)) := by
    have hnl : ¬ 16777216 < m * k.size := by omega
    by_cases hmz : m * k.size = 0
    · rw [if_pos hmz] at hcs0
      subst hcs0
      simp only [execOp, Instr.buildSlice, Sem.run_bind, run_underlying hu, Result.andThen_ok, run_sizeOf' hi, hs']
      simp [hnl, hmz] at h2 ⊢
      simp [h2, newRow]
    · rw [if_neg hmz] at hcs0
      subst hcs0
      simp only [execOp, Instr.buildSlice, Sem.run_bind, run_underlying hu, Result.andThen_ok, run_sizeOf' hi, hs']
      simp [hnl, hmz, run_zero hi hz]
      simp [h2, newRow]
  have hlow : ∀ b, (∃ d ∈ D, φ d b) → b < w.heap.size := fun b ⟨d, hd, hb⟩ => hm.lt d (HB.live_of_own (b3 d hd)) b hb
  have hg := hm.gather (w' := w.alloc (.cells cs' e)) D n (.arr k e true ys) (.slice (some ⟨w.heap.size, 0, none⟩) m m) (fun b => b = w.heap.size ∨ ∃ d ∈ D, φ d b) b3 (fun h => absurd h hn) (fun b hb _ => Below.heap_alloc w _ b hb) rfl rfl rfl (by simp) trivial
    ⟨fun g hg => (by have : w.heap.size = g := by simpa [Value.ownBlock] using hg
                     exact .inl this.symm), vs.flatMap fun v => v.cells.toList, ?_, fun i y hy j cv hcv => ?_, rowsApart_one (by rw [hyl]; exact hone) (by rw [hL, hvl, hyl])⟩ (fun _ b hb => ?_) (fun b hb => ?_)
  · rw [← applyD_gather] at hg
    refine ⟨_, _, _, _, .inl hrun, hg.mono fun q hq => ?_, fun q hq => upd_ne _ _ (by rintro rfl; exact hn hq), ⟨(upd_same _ _ _).symm, _, _, _, rfl⟩, fun q hq => ?_⟩
    · rcases hq with hq | rfl
      · exact .inl hq
      · exact .inr ⟨Nat.le_refl _, Nat.lt_succ_self _⟩
    · simp only [SC.ids] at hq
      subst hq
      exact .inr ⟨Nat.le_refl _, Nat.lt_succ_self _⟩
  · have hmm : m ≤ m * k.size := Nat.le_mul_of_pos_right _ hk
    refine ⟨by rw [hL, hvl, hyl], .inr ⟨w.heap.size, m, cs', by rw [hyl], Nat.zero_le _, heap_alloc_new w _, by omega, by simp only [maxLen]; omega, hsz, ?_⟩⟩
    rw [hyl, hflat, List.take_of_length_le (by rw [hL, hvl]; exact Nat.le_refl _)]
  · obtain ⟨v, hv, hall⟩ := b5 i y hy
    obtain ⟨u, hu', hc⟩ := hall j cv hcv
    have hjs : j < k.size := by rw [← K.enc_length k y]; exact (List.getElem?_eq_some_iff.1 hcv).1
    refine ⟨u, by rw [flatMap_at hcl hv hjs]; exact hu', ?_⟩
    refine CVo.widen (φ := fun b => ∃ d ∈ D, φ d b) (fun b hb => ⟨.inr hb, ?_⟩) _ _ (CVo.agree (fun b hb => Below.heap_alloc w _ b (hlow b hb)) _ _ hc)
    intro he
    have : w.heap.size = b := by simpa [Value.ownBlock] using he
    have := hlow b hb
    omega
  · rcases hb with rfl | hb
    · simp
    · have := hlow b hb; simp; omega
  · rcases hb with rfl | hb
    · exact .inl (Nat.le_refl _)
    · exact .inr hb
theorem CVo_one {w : World} {φ : Nat → Prop} : ∀ {cv : CV} {u : Value}, CVo w φ cv u → u.oneCell' = true
  | .i _, _, h => by have h : _ = _ := h; subst h; rfl
  | .b _, _, h => by have h : _ = _ := h; subst h; rfl
  | .sl _ _, _, h => by
    obtain ⟨_, e, cs, ho, _⟩ := h
    rcases ho.2 with ⟨rfl, _⟩ | ⟨g, cap, cur, rfl, _⟩ <;> rfl
/-- An own list's cells. -/
theorem own_one {k : K} {e : Nat} {v : Value} {xs : List k.T} {ψ : Nat → Prop} {cs : List Value} (hl : cs.length = xs.length * k.size) (h : ∀ (i : Nat) x, xs[i]? = some x → ∀ (j : Nat) cv, (k.enc x)[j]? = some cv → ∃ u, cs[i * k.size + j]? = some u ∧ CVo w ψ cv u) : ∀ u ∈ cs, u.oneCell' = true := by
  intro u hu
  obtain ⟨p, hp⟩ := List.getElem?_of_mem hu
  have hk := k.size_pos
  have hlt : p < xs.length * k.size := by rw [← hl]; exact (List.getElem?_eq_some_iff.1 hp).1
  have hi : p / k.size < xs.length := (Nat.div_lt_iff_lt_mul hk).2 hlt
  have hj : p % k.size < (k.enc xs[p / k.size]).length := by rw [K.enc_length]; exact Nat.mod_lt _ hk
  have e : p = p / k.size * k.size + p % k.size := by rw [Nat.mul_comm]; exact (Nat.div_add_mod p k.size).symm
  obtain ⟨u', hu', hc⟩ := h _ _ (List.getElem?_eq_getElem hi) _ _ (List.getElem?_eq_getElem hj)
  rw [← e, hp] at hu'
  injection hu' with hu'
  subst hu'
  exact CVo_one hc
theorem rows_blk {fk : FK} {xs : List (List fk.T)} {cs : List Value} {ψ : Nat → Prop} (hl : cs.length = xs.length) (h : ∀ (i : Nat) x, xs[i]? = some x → ∀ (j : Nat) cv, ((K.rows fk).enc x)[j]? = some cv → ∃ u, cs[i * (K.rows fk).size + j]? = some u ∧ CVo w ψ cv u) {i : Nat} {u : Value} (hu : cs[i]? = some u) : ∀ g, u.ownBlock = some g → ψ g := by
  have hi : i < xs.length := by rw [← hl]; exact (List.getElem?_eq_some_iff.1 hu).1
  obtain ⟨u', hu', hv⟩ := h i _ (List.getElem?_eq_getElem hi) 0 (.sl fk _) rfl
  have e : i * (K.rows fk).size + 0 = i := by show i * 1 + 0 = i; omega
  rw [e, hu] at hu'
  injection hu' with hu'
  subst hu'
  exact hv.1
theorem rowsApart_append {k : K} {xs ys : List k.T} {cs ds : List Value} {ψ ψ' : Nat → Prop} (hl : cs.length = xs.length * k.size) (hl' : ds.length = ys.length * k.size) (ha : RowsApart k xs cs) (ha' : RowsApart k ys ds)
    (h : ∀ (i : Nat) x, xs[i]? = some x → ∀ (j : Nat) cv, (k.enc x)[j]? = some cv → ∃ u, cs[i * k.size + j]? = some u ∧ CVo w ψ cv u) (h' : ∀ (i : Nat) x, ys[i]? = some x → ∀ (j : Nat) cv, (k.enc x)[j]? = some cv → ∃ u, ds[i * k.size + j]? = some u ∧ CVo w ψ' cv u)
    (hd : ∀ b, ψ b → ¬ ψ' b) : RowsApart k (xs ++ ys) (cs ++ ds) := by
  cases k with
  | f k => trivial
  | route => trivial
  | rows fk =>
    have hl : cs.length = xs.length := by have e : (K.rows fk).size = 1 := rfl; rw [hl, e]; omega
    have hl' : ds.length = ys.length := by have e : (K.rows fk).size = 1 := rfl; rw [hl', e]; omega
    intro i j u v hij hu hv g hg hg'
    rw [List.getElem?_append] at hu hv
    rw [hl] at hu hv
    by_cases h1 : i < xs.length <;> by_cases h2 : j < xs.length <;> simp only [h1, h2, if_true, if_false] at hu hv
    · exact ha i j u v hij hu hv g hg hg'
    · exact hd g (rows_blk hl h hu g hg) (rows_blk hl' h' hv g hg')
    · exact hd g (rows_blk hl h hv g hg') (rows_blk hl' h' hu g hg)
    · exact ha' (i - xs.length) (j - xs.length) u v (by omega) hu hv g hg hg'
/-- One list of the call's own behind another one. -/
theorem append_deep {t ty e e2 id2 : Nat} {k : K} {z : SC} {v : Value} {xs : List k.T} {y : k.T} {ys : List k.T} {cs : List Value} (hT : TabOk P T) (ht : look T t = some (.sc (some (k, e)) z)) (hm : Mem B w0 ρ φ U H w) (hH2 : H id2 = .arr k e2 true (y :: ys)) (hown : w.ownsRow 0 e k.size v xs.length cs)
    (hb : (xs.length + (y :: ys).length) * k.byt ≤ 140737488355328) :
    ∃ v' w' ds, (Builtin.append_ #[t, t] ty #[v, ρ id2]).run P w = .ok v' w' ∧ w'.ownsRow 0 e k.size v' (xs ++ y :: ys).length (cs ++ ds) ∧ w.grownBy w' v.ownBlock ∧ (v'.ownBlock = v.ownBlock ∨ v'.ownBlock = some w.heap.size) ∧
      (∀ g, (ρ id2).ownBlock = some g → φ id2 g) ∧ (∀ (i : Nat) x, (y :: ys)[i]? = some x → ∀ (j : Nat) cv, (k.enc x)[j]? = some cv → ∃ u, ds[i * k.size + j]? = some u ∧ CVo w (fun b => φ id2 b ∧ (ρ id2).ownBlock ≠ some b) cv u) ∧ RowsApart k (y :: ys) ds ∧ ds.length = (y :: ys).length * k.size := by
  obtain ⟨i, zv, hu, hi, hs, hby, hz, hzc⟩ := el_run hT ht
  have hk := k.size_pos
  have hOwn := hm.holds id2
  rw [hH2] at hOwn
  obtain ⟨h0, ds, ho, hc, hap⟩ := hOwn
  have hdl := ho.1
  rcases ho.2 with ⟨_, hn⟩ | ⟨g2, cap2, cur2, hv2, _, hh, c1, c2, c3, c4⟩
  · simp at hn
  have hcell : ∀ (p : Nat) u, ds[p]? = some u → w.cell? ((⟨g2, 0, none⟩ : Addr).add p) = some u := by
    intro p u hp
    rw [plain_addr, cell_of_row w g2 _ cur2 e2 (0, 0) hh]
    rw [← c4, List.getElem?_take] at hp
    split at hp
    · simpa using hp
    · cases hp
  have hcells : zv.cells.size = k.size := by rw [← Array.length_toList, ← all2_length hzc, K.enc_length]
  have hmul : (xs.length + (y :: ys).length) * i.bytes ≤ 140737488355328 := Nat.le_trans (Nat.mul_le_mul_left _ hby) hb
  have hbyt : 0 < k.byt := by
    cases k with
    | f k => have := k.size_pos; simp only [K.byt]; omega
    | route => exact Nat.succ_pos _
    | rows k => exact Nat.succ_pos _
  have hmax : xs.length + (y :: ys).length ≤ maxLen := by
    have : xs.length + (y :: ys).length ≤ (xs.length + (y :: ys).length) * k.byt := Nat.le_mul_of_pos_right _ hbyt
    simp only [maxLen]; omega
  obtain ⟨v', w', g1, g2', g3, _, g5⟩ := run_append_own_at (P := P) w 0 t ty e i zv k.size i.bytes hu hi hz hs rfl hcells hk v xs.length cs hown ⟨g2, 0, none⟩ (y :: ys).length cap2 ds hdl hcell (own_one (e := e2) (v := ρ id2) hdl hc) hmax hmul (Nat.zero_le _)
  refine ⟨v', w', ds, by rw [hv2]; exact g1, by rw [List.length_append]; exact g2', g3, g5, h0, hc, hap, hdl⟩
theorem own_lt {e sz m : Nat} {v : Value} {L : List Value} (h : w.ownsRow 0 e sz v m L) : ∀ g, v.ownBlock = some g → g < w.heap.size := by
  intro g hg
  rcases h.2 with ⟨rfl, _⟩ | ⟨g', cap, cur, rfl, _, hh, _⟩
  · cases hg
  · have : g' = g := by simpa [Value.ownBlock] using hg
    subst this
    exact (Array.getElem?_eq_some_iff.1 hh).1
theorem fine_append_deep {t id id2 e e2 ty : Nat} {k : K} {z : SC} {xs ys : List k.T} {y : k.T} {x x2 : Operand} {ev : Operand → Value} (hT : TabOk P T) (ht : look T t = some (.sc (some (k, e)) z)) (hm : Mem B w0 ρ φ U H w) (hn : ¬ U n) (hne : id ≠ id2) (hH : H id = .arr k e true xs) (hH2 : H id2 = .arr k e2 true (y :: ys))
    (hd : DenV ρ (.w (.c (.fs id))) (ev x)) (hd2 : DenV ρ (.w (.c (.fs id2))) (ev x2)) (hb : (xs.length + (y :: ys).length) * k.byt ≤ 140737488355328) (dst) (tt) (pos) (af) (gd) :
    Fine B w0 ρ U H ((execOp ev ⟨dst, .call ⟨.builtin .append, #[x, x2], #[t, t]⟩, tt, pos, af, gd⟩).run P w) (.w (.c (.fs n))) [(id, .dead), (id2, .dead), (n, .arr k e true (xs ++ y :: ys))] n (n + 1) := by
  have hOwn := hm.holds id
  rw [hH] at hOwn
  obtain ⟨h0, cs, hown, hc, hap⟩ := hOwn
  have hl1 : (H id).live = true := by rw [hH]; rfl
  have hl2 : (H id2).live = true := by rw [hH2]; rfl
  have ho1 : (H id).own = true := by rw [hH]; rfl
  have ho2 : (H id2).own = true := by rw [hH2]; rfl
  obtain ⟨v', w', ds, hrun, g1, g2, g3, q1, q2, q3, q4⟩ := append_deep (ty := tt) hT ht hm hH2 hown hb
  have hv : ev x = ρ id := hd.1
  have hv2 : ev x2 = ρ id2 := hd2.1
  have hD : ∀ d ∈ [id, id2], (H d).own = true := by simp [ho1, ho2]
  have keep1 : ∀ b, φ id b ∧ (ρ id).ownBlock ≠ some b → w'.heap[b]? = w.heap[b]? ∧ (φ id b ∨ φ id2 b ∨ v'.ownBlock = some b) ∧ v'.ownBlock ≠ some b := by
    rintro b ⟨hb1, hb2⟩
    have hlt := hm.lt id hl1 b hb1
    refine ⟨g2.block b hlt (fun e => hb2 e.symm), .inl hb1, fun e => ?_⟩
    rcases g3 with h | h
    · rw [h] at e; exact hb2 e
    · rw [h] at e; injection e with e; omega
  have keep2 : ∀ b, φ id2 b ∧ (ρ id2).ownBlock ≠ some b → w'.heap[b]? = w.heap[b]? ∧ (φ id b ∨ φ id2 b ∨ v'.ownBlock = some b) ∧ v'.ownBlock ≠ some b := by
    rintro b ⟨hb1, _⟩
    have hlt := hm.lt id2 hl2 b hb1
    have hno : (ρ id).ownBlock ≠ some b := fun e => hm.apart id id2 hne ho1 hl2 b (h0 b e) hb1
    refine ⟨g2.block b hlt (fun e => hno e.symm), .inr (.inl hb1), fun e => ?_⟩
    rcases g3 with h | h
    · rw [h] at e; exact hno e
    · rw [h] at e; injection e with e; omega
  have hcl := hown.1
  have hg := hm.gather (w' := w') [id, id2] n (.arr k e true (xs ++ y :: ys)) v' (fun b => φ id b ∨ φ id2 b ∨ v'.ownBlock = some b) hD (fun h => absurd h hn)
    (fun b hb h => g2.block b hb (fun e => h id (by simp) (h0 b e.symm))) g2.os g2.tape g2.output g2.size trivial
    ⟨fun g hg => .inr (.inr hg), cs ++ ds, g1, fun i z' hz' j cv hcv => ?_, rowsApart_append hcl q4 hap q3 hc q2 fun b hb hb' => hm.apart id id2 hne ho1 hl2 b hb.1 hb'.1⟩ (fun _ b hb => ?_) (fun b hb => ?_)
  · have hfun : applyD H [(id, .dead), (id2, .dead), (n, .arr k e true (xs ++ y :: ys))] = upd (fun z => if z ∈ [id, id2] then HB.dead else H z) n (.arr k e true (xs ++ y :: ys)) := applyD_gather [id, id2] n _ H
    rw [← hfun] at hg
    refine ⟨v', w', _, _, .inl (by simp [execOp, resolve, invoke, builtin, hv, hv2, hrun]), hg.mono fun q hq => ?_, fun q hq => upd_ne _ _ (by rintro rfl; exact hn hq), ⟨(upd_same _ _ _).symm, own_slice' g1⟩, fun q hq => ?_⟩
    · rcases hq with hq | rfl
      · exact .inl hq
      · exact .inr ⟨Nat.le_refl _, Nat.lt_succ_self _⟩
    · simp only [SC.ids] at hq
      subst hq
      exact .inr ⟨Nat.le_refl _, Nat.lt_succ_self _⟩
  · rw [List.getElem?_append] at hz'
    split at hz'
    · rename_i hi
      obtain ⟨u, hu, hr⟩ := hc i z' hz' j cv hcv
      refine ⟨u, ?_, CVo.widen (fun b hb => (keep1 b hb).2) _ _ (CVo.agree (fun b hb => (keep1 b hb).1) _ _ hr)⟩
      rw [List.getElem?_append_left (List.getElem?_eq_some_iff.1 hu).1]
      exact hu
    · rename_i hi
      obtain ⟨u, hu, hr⟩ := q2 (i - xs.length) z' hz' j cv hcv
      refine ⟨u, ?_, CVo.widen (fun b hb => (keep2 b hb).2) _ _ (CVo.agree (fun b hb => (keep2 b hb).1) _ _ hr)⟩
      have e1 : i * k.size = xs.length * k.size + (i - xs.length) * k.size := by rw [← Nat.add_mul]; congr 1; omega
      rw [List.getElem?_append_right (by rw [hcl]; omega), hcl]
      have e2 : i * k.size + j - xs.length * k.size = (i - xs.length) * k.size + j := by omega
      rw [e2]
      exact hu
  · rcases hb with hb | hb | hb
    · exact Nat.lt_of_lt_of_le (hm.lt id hl1 b hb) g2.size
    · exact Nat.lt_of_lt_of_le (hm.lt id2 hl2 b hb) g2.size
    · exact own_lt g1 b hb
  · rcases hb with hb | hb | hb
    · exact .inr ⟨id, by simp, hb⟩
    · exact .inr ⟨id2, by simp, hb⟩
    · rcases g3 with h | h
      · rw [h] at hb; exact .inr ⟨id, by simp, h0 b hb⟩
      · rw [h] at hb; injection hb with hb; exact .inl (by omega)
theorem fine_append_deep_nil {t id2 e e2 ty : Nat} {k : K} {z : SC} {ys : List k.T} {y : k.T} {x x2 : Operand} {ev : Operand → Value} (hT : TabOk P T) (ht : look T t = some (.sc (some (k, e)) z)) (hm : Mem B w0 ρ φ U H w) (hn : ¬ U n) (hH2 : H id2 = .arr k e2 true (y :: ys))
    (hd : DenV ρ (.w (.c .nls)) (ev x)) (hd2 : DenV ρ (.w (.c (.fs id2))) (ev x2)) (hb : (y :: ys).length * k.byt ≤ 140737488355328) (dst) (tt) (pos) (af) (gd) :
    Fine B w0 ρ U H ((execOp ev ⟨dst, .call ⟨.builtin .append, #[x, x2], #[t, t]⟩, tt, pos, af, gd⟩).run P w) (.w (.c (.fs n))) [(id2, .dead), (n, .arr k e true (y :: ys))] n (n + 1) := by
  have hl2 : (H id2).live = true := by rw [hH2]; rfl
  have ho2 : (H id2).own = true := by rw [hH2]; rfl
  have hown : w.ownsRow 0 e k.size (.slice none 0 0) ([] : List k.T).length ([] : List Value) := World.ownsRow_nil _ _ _ _
  obtain ⟨v', w', ds, hrun, g1, g2, g3, q1, q2, q3, q4⟩ := append_deep (ty := tt) hT ht hm hH2 hown (by simpa using hb)
  have hv : ev x = .slice none 0 0 := hd
  have hv2 : ev x2 = ρ id2 := hd2.1
  have hD : ∀ d ∈ [id2], (H d).own = true := by simp [ho2]
  have hnew : ∀ b, v'.ownBlock = some b → w.heap.size ≤ b := fun b e => by
    rcases g3 with h | h
    · rw [h] at e; cases e
    · rw [h] at e; injection e with e; omega
  have keep2 : ∀ b, φ id2 b ∧ (ρ id2).ownBlock ≠ some b → w'.heap[b]? = w.heap[b]? ∧ (φ id2 b ∨ v'.ownBlock = some b) ∧ v'.ownBlock ≠ some b := by
    rintro b ⟨hb1, _⟩
    have hlt := hm.lt id2 hl2 b hb1
    exact ⟨g2.block b hlt (by simp [Value.ownBlock]), .inl hb1, fun e => by have := hnew b e; omega⟩
  have hg := hm.gather (w' := w') [id2] n (.arr k e true (y :: ys)) v' (fun b => φ id2 b ∨ v'.ownBlock = some b) hD (fun h => absurd h hn)
    (fun b hb h => g2.block b hb (by simp [Value.ownBlock])) g2.os g2.tape g2.output g2.size trivial
    ⟨fun g hg => .inr hg, ds, by simpa using g1, fun i z' hz' j cv hcv => ?_, q3⟩ (fun _ b hb => ?_) (fun b hb => ?_)
  · have hfun : applyD H [(id2, .dead), (n, .arr k e true (y :: ys))] = upd (fun z => if z ∈ [id2] then HB.dead else H z) n (.arr k e true (y :: ys)) := applyD_gather [id2] n _ H
    rw [← hfun] at hg
    refine ⟨v', w', _, _, .inl (by simp [execOp, resolve, invoke, builtin, hv, hv2, hrun]), hg.mono fun q hq => ?_, fun q hq => upd_ne _ _ (by rintro rfl; exact hn hq), ⟨(upd_same _ _ _).symm, own_slice' g1⟩, fun q hq => ?_⟩
    · rcases hq with hq | rfl
      · exact .inl hq
      · exact .inr ⟨Nat.le_refl _, Nat.lt_succ_self _⟩
    · simp only [SC.ids] at hq
      subst hq
      exact .inr ⟨Nat.le_refl _, Nat.lt_succ_self _⟩
  · obtain ⟨u, hu, hr⟩ := q2 i z' hz' j cv hcv
    exact ⟨u, hu, CVo.widen (fun b hb => (keep2 b hb).2) _ _ (CVo.agree (fun b hb => (keep2 b hb).1) _ _ hr)⟩
  · rcases hb with hb | hb
    · exact Nat.lt_of_lt_of_le (hm.lt id2 hl2 b hb) g2.size
    · exact own_lt g1 b hb
  · rcases hb with hb | hb
    · exact .inr ⟨id2, by simp, hb⟩
    · exact .inl (hnew b hb)

theorem route_enc (r : Route) : K.enc .route r = [.i r.driver, .i r.served, .sl .stop r.stops] := rfl
theorem fine_store_route {t id ix e : Nat} {kk : Option (K × Nat)} {zz : SC} {c : SC} {xs : List Route} {ys : List Stop} {D : List Nat} {Hl : Heap} {x z : Operand} {ev : Operand → Value} (hT : TabOk P T) (ht : look T t = some (.sc kk zz)) (hH : ∀ id, (hget Hl id).live = true → H id = hget Hl id) (hm : Mem B w0 ρ φ U H w) (hHi : H id = .arr .route e true xs)
    (hd : DenV ρ (.w (.c (.el id ix 3 2))) (ev x)) (hz : DenC ρ c (ev z)) (hrow : rowOf .stop Hl c = some (ys, D)) (hix : ix < xs.length) (dst) (tt) (pos) (af) (gd) :
    Fine B w0 ρ U H ((execOp ev ⟨dst, .store t x z, tt, pos, af, gd⟩).run P w) .u (app (deadD D) [(id, .arr .route e true (xs.set ix ⟨(xs.getD ix (K.zero .route)).driver, (xs.getD ix (K.zero .route)).served, ys⟩))]) n n := by
  obtain ⟨i, d, v, hi, hs, hu, hp, _⟩ := td_sc hT ht
  obtain ⟨q1, q2, q3, q4⟩ := rowOf_sound hH hm hrow hz
  have hl1 : (H id).live = true := by rw [hHi]; rfl
  have ho1 : (H id).own = true := by rw [hHi]; rfl
  have hOwn := hm.holds id
  rw [hHi] at hOwn
  obtain ⟨h0, cs, hown, hc, _⟩ := hOwn
  have hcl := hown.1
  have hne : xs ≠ [] := by rintro rfl; simp at hix
  rcases hown.2 with ⟨_, hn0⟩ | ⟨g, cap, cur, hρ, _, hh, h1, h2, h3, h4⟩
  · exact absurd (List.eq_nil_of_length_eq_zero hn0) hne
  have hob : (ρ id).ownBlock = some g := by rw [hρ]; rfl
  have hφ : φ id g := h0 g hob
  obtain ⟨a, n', c', hρ', hv⟩ := hd
  rw [hρ] at hρ'
  injection hρ' with e1 e2 e3
  injection e1 with e1
  subst e1
  rw [plain_addr, plain_addr] at hv
  have h3' : cur.size = cap * 3 := h3
  have h4' : cur.toList.take (xs.length * 3) = cs := h4
  have hcl' : cs.length = xs.length * 3 := hcl
  have hin : (ix + 1) * 3 ≤ xs.length * 3 := Nat.mul_le_mul_right _ hix
  have hcsz : xs.length * 3 ≤ cur.size := by rw [h3']; exact Nat.mul_le_mul_right _ h1
  have hrun := run_storeCells_at P g (0 + ix * 3 + 2) e [ev z] 0 cur w hh (by simp; omega) (fun v hv => by simp at hv; subst hv; exact q3)
  have hw := own_write (sz := 3) (m := xs.length) (o := 0 + ix * 3 + 2) (vs := [ev z]) (L := cs) (L' := cs.set (ix * 3 + 2) (ev z)) hh h1 h2 h3' h4' (by simp; omega) (by rw [List.length_set]; exact hcl') (fun p hp => by
    rw [List.getElem?_set]
    by_cases hpe : ix * 3 + 2 = p
    · subst hpe
      rw [if_pos rfl, if_pos (by omega), if_pos (by simp)]
      simp
    · rw [if_neg hpe, if_neg (by simp; omega)])
  generalize hw' : (w.setRow g (cur.toList.take (0 + ix * 3 + 2 + 0) ++ [ev z] ++ cur.toList.drop (0 + ix * 3 + 2 + 0 + [ev z].length)).toArray) = w' at hw
  have hother : ∀ b, b ≠ g → w'.heap[b]? = w.heap[b]? := fun b hb => by rw [← hw']; exact setRow_other _ _ _ _ hb
  have hdne : ∀ d ∈ D, d ≠ id ∧ (H d).own = true := fun d hd => by
    obtain ⟨o, e', ys', hd'⟩ := q1 d hd
    refine ⟨?_, o⟩
    rintro rfl
    rw [hHi] at hd'
    cases hd'
  have hgD : ∀ b, (∃ d ∈ D, φ d b) → b ≠ g := by
    rintro b ⟨d, hd, hb⟩ rfl
    exact hm.apart d id (hdne d hd).1 (hdne d hd).2 hl1 b hb hφ
  have hg := hm.gather (w' := w') (id :: D) id (.arr .route e true (xs.set ix ⟨(xs.getD ix (K.zero .route)).driver, (xs.getD ix (K.zero .route)).served, ys⟩)) (ρ id) (fun b => φ id b ∨ ∃ d ∈ D, φ d b)
    (fun d hd => by
      rcases List.mem_cons.1 hd with rfl | hd
      · exact ho1
      · exact (hdne d hd).2) (fun _ => ⟨List.mem_cons_self .., rfl⟩)
    (fun b hb h => hother b (by rintro rfl; exact h id (List.mem_cons_self ..) hφ)) (by rw [← hw']; rfl) (by rw [← hw']; rfl) (by rw [← hw']; rfl) (by rw [← hw']; simp) trivial
    ⟨fun b hb => .inl (h0 b hb), cs.set (ix * 3 + 2) (ev z), by rw [hρ, List.length_set]; exact hw, fun j r hr q cv hcv => ?_, trivial⟩ (fun _ b hb => ?_) (fun b hb => ?_)
  · have hfun : applyD H (app (deadD D) [(id, .arr .route e true (xs.set ix ⟨(xs.getD ix (K.zero .route)).driver, (xs.getD ix (K.zero .route)).served, ys⟩))]) = upd (fun z => if z ∈ id :: D then HB.dead else H z) id (.arr .route e true (xs.set ix ⟨(xs.getD ix (K.zero .route)).driver, (xs.getD ix (K.zero .route)).served, ys⟩)) := by
      rw [applyD_gather]
      funext y
      by_cases hy : y = id
      · subst hy; rw [upd_same, upd_same]
      · rw [upd_ne _ _ hy, upd_ne _ _ hy]
        simp [hy]
    rw [← hfun] at hg
    refine ⟨undef, _, _, _, .inr ⟨?_, rfl⟩, hg.mono fun q hq => ?_, fun q hq => by rw [upd_self], trivial, fun q hq => hq.elim⟩
    · rw [← hw']
      have hne' : (ev z).cells.size = i.size := by rw [q4, hs]; rfl
      have hcz : (ev z).cells.toList = [ev z] := by rw [q4]
      simp only [execOp, hv, Instr.storeAt, Instr.sureAddr, storeVar]
      simp only [Nat.zero_add, Nat.add_zero] at hrun
      simp [run_sizeOf' hi, hne', hcz, hrun]
    · rcases hq with hq | rfl
      · exact .inl hq
      · exact .inl (hm.used _ hl1)
  · have hold : ∀ (b : Nat), φ id b ∧ (ρ id).ownBlock ≠ some b → w'.heap[b]? = w.heap[b]? ∧ (φ id b ∨ ∃ d ∈ D, φ d b) ∧ (ρ id).ownBlock ≠ some b := fun b hb => ⟨hother b (by rintro rfl; exact hb.2 hob), .inl hb.1, hb.2⟩
    have hnew : ∀ b, (∃ d ∈ D, φ d b) → w'.heap[b]? = w.heap[b]? ∧ (φ id b ∨ ∃ d ∈ D, φ d b) ∧ (ρ id).ownBlock ≠ some b := fun b hb => ⟨hother b (hgD b hb), .inr hb, by rw [hob]; intro e; injection e with e; exact hgD b hb e.symm⟩
    have hqs : q < 3 := by
      have := (List.getElem?_eq_some_iff.1 hcv).1
      rw [K.enc_length] at this
      exact this
    rw [List.getElem?_set] at hr
    split at hr
    · rename_i hij
      subst hij
      injection hr with hr
      subst hr
      have hx : xs[ix]? = some (xs.getD ix (K.zero .route)) := getD_at (k := .route) hix
      rw [route_enc] at hcv
      show ∃ u, (cs.set (ix * 3 + 2) (ev z))[ix * 3 + q]? = some u ∧ _
      match q, hqs, hcv with
      | 0, _, hcv =>
        obtain ⟨u, hu, hr⟩ := hc ix _ hx 0 (.i (xs.getD ix (K.zero .route)).driver) rfl
        simp at hcv; subst hcv
        refine ⟨u, ?_, hr⟩
        rw [List.getElem?_set, if_neg (by omega)]; exact hu
      | 1, _, hcv =>
        obtain ⟨u, hu, hr⟩ := hc ix _ hx 1 (.i (xs.getD ix (K.zero .route)).served) rfl
        simp at hcv; subst hcv
        refine ⟨u, ?_, hr⟩
        rw [List.getElem?_set, if_neg (by omega)]; exact hu
      | 2, _, hcv =>
        simp at hcv; subst hcv
        refine ⟨ev z, ?_, CVo.widen (fun b hb => (hnew b hb).2) _ _ (CVo.agree (fun b hb => (hnew b hb).1) _ _ q2)⟩
        rw [List.getElem?_set, if_pos rfl, if_pos (by omega)]
      | q + 3, hq, _ => omega
    · rename_i hij
      obtain ⟨u, hu, hr'⟩ := hc j r hr q cv hcv
      refine ⟨u, ?_, CVo.widen (fun b hb => (hold b hb).2) _ _ (CVo.agree (fun b hb => (hold b hb).1) _ _ hr')⟩
      show (cs.set (ix * 3 + 2) (ev z))[j * 3 + q]? = some u
      rw [List.getElem?_set, if_neg (by omega)]
      exact hu
  · have hsz' : w'.heap.size = w.heap.size := by rw [← hw']; simp
    rcases hb with hb | ⟨d, hd, hb⟩
    · rw [hsz']; exact hm.lt id hl1 b hb
    · rw [hsz']; exact hm.lt d (HB.live_of_own (hdne d hd).2) b hb
  · rcases hb with hb | ⟨d, hd, hb⟩
    · exact .inr ⟨id, List.mem_cons_self .., hb⟩
    · exact .inr ⟨d, List.mem_cons_of_mem _ hd, hb⟩
end
end Go.Eng

/- The evaluation of one operation is sound: all of it. -/
set_option linter.unusedVariables false
set_option linter.unusedSimpArgs false
namespace Go.Eng
open Go Go.RowKit

section
variable {P : Program} {T : Tab} {B : Nat} {w0 : Base} {w : World} {ρ : Nat → Value} {φ : Nat → Nat → Prop} {U : Nat → Prop} {H : Nat → HB} {n : Nat}

theorem elems_fill {fk : FK} {e : Env} {ev' : Operand → Value} (hev : ∀ x, DenV ρ (ev e x) (ev' x)) : ∀ (ps : List (Nat × Operand)) (j : Nat) (ys : List fk.T) (cs : Array Value), elems fk e j ps = some ys → (j + ps.length) * fk.size ≤ cs.size →
    ys.length = ps.length ∧ ∃ cs', Instr.fill (fun i => some (i * fk.size, fk.size)) cs (ps.map fun p => (p.1, ev' p.2)) = some cs' ∧ cs'.size = cs.size ∧
      ∀ (p : Nat), cs'[p]? = if j * fk.size ≤ p ∧ p < (j + ps.length) * fk.size then (flatV fk ys)[p - j * fk.size]? else cs[p]?
  | [], j, ys, cs, h, hsz => by
    injection h with h
    subst h
    refine ⟨rfl, cs, rfl, rfl, fun p => ?_⟩
    rw [if_neg (by simp)]
  | (i, x) :: ps, j, ys, cs, h, hsz => by
    unfold elems at h
    have hx := hev x
    split at h
    · rename_i hij
      subst hij
      split at h
      · rename_i s hs
        rw [hs] at hx
        split at h
        · rename_i cvs hcv
          split at h
          · rename_i y ys' hdec hrest
            injection h with h
            subst h
            have hcs := cvsOf_W hcv hx
            have henc := fk.dec_enc hdec
            have hlen : cvs.length = fk.size := by rw [← henc, fk.enc_length]
            have hvl : (ev' x).cells.size = fk.size := by
              rw [← Array.length_toList, hcs.1, List.length_map, hlen]
            have e0 : (i + ((i, x) :: ps).length) * fk.size = i * fk.size + fk.size + ps.length * fk.size := by
              simp only [List.length_cons]
              rw [show i + (ps.length + 1) = i + 1 + ps.length by omega, Nat.add_mul, Nat.succ_mul]
            obtain ⟨f1, f2⟩ := foldl_set (i * fk.size) (ev' x).cells.toList 0 cs
            have e1 : (ev' x).cells.zipIdx.foldl (fun cs (c, j) => cs.setIfInBounds (i * fk.size + j) c) cs = (((ev' x).cells.toList.zipIdx 0).foldl (fun (cs : Array Value) (p : Value × Nat) => cs.setIfInBounds (i * fk.size + p.2) p.1) cs) := by
              rw [← Array.foldl_toList, Array.toList_zipIdx]
            have ih := elems_fill hev ps (i + 1) ys' ((ev' x).cells.zipIdx.foldl (fun cs (c, j) => cs.setIfInBounds (i * fk.size + j) c) cs) hrest (by
              rw [e1, f1]
              have : (i + 1 + ps.length) * fk.size = i * fk.size + fk.size + ps.length * fk.size := by rw [Nat.add_mul, Nat.succ_mul]
              omega)
            obtain ⟨h1, cs', h2, h3, h4⟩ := ih
            refine ⟨by simp [h1], cs', ?_, by rw [h3, e1, f1], fun p => ?_⟩
            · have hb : ¬ ((ev' x).cells.size ≠ fk.size ∨ i * fk.size + (ev' x).cells.size > cs.size) := by omega
              have e2 : ((ev' x).cells.size ≠ fk.size || i * fk.size + (ev' x).cells.size > cs.size) = false := by
                simp
                omega
              simp only [List.map_cons, Instr.fill]
              rw [if_neg (by rw [e2]; simp)]
              exact h2
            · rw [h4 p]
              have e3 : (i + 1) * fk.size = i * fk.size + fk.size := Nat.succ_mul _ _
              have e4 : (i + 1 + ps.length) * fk.size = i * fk.size + fk.size + ps.length * fk.size := by rw [Nat.add_mul, Nat.succ_mul]
              have hel : ((fk.enc y).map cvv).length = fk.size := by rw [List.length_map, fk.enc_length]
              rw [e0]
              by_cases c1 : (i + 1) * fk.size ≤ p ∧ p < (i + 1 + ps.length) * fk.size
              · rw [if_pos c1, if_pos (by omega), flatV_cons, List.getElem?_append_right (by rw [hel]; omega), hel]
                congr 1
                omega
              · rw [if_neg c1, e1, f2]
                simp only [Nat.add_zero, Array.length_toList]
                by_cases c2 : i * fk.size ≤ p ∧ p < i * fk.size + (ev' x).cells.size ∧ p < cs.size
                · rw [if_pos c2, if_pos (by omega), flatV_cons, List.getElem?_append_left (by rw [hel]; omega), henc, hcs.1]
                · rw [if_neg c2, if_neg (by omega)]
          · cases h
        · cases h
      · cases h
    · cases h
theorem fine_buildSlice {t m e : Nat} {fk : FK} {z : SC} {en : Env} {ps : Array (Nat × Operand)} {ys : List fk.T} {ev' : Operand → Value} (hT : TabOk P T) (ht : look T t = some (.sc (some (.f fk, e)) z)) (hm : Mem B w0 ρ φ U H w) (hn : ¬ U n) (hev : ∀ x, DenV ρ (ev en x) (ev' x))
    (hel : elems fk en 0 ps.toList = some ys) (hl : ps.toList.length = m) (hlim : m * fk.size ≤ 16777216) (dst) (tt) (pos) (af) (gd) :
    Fine B w0 ρ U H ((execOp ev' ⟨dst, .buildSlice t m ps, tt, pos, af, gd⟩).run P w) (.w (.c (.fs n))) [(n, .arr (.f fk) e true ys)] n (n + 1) := by
  obtain ⟨i, zv, hu, hi, hs, hby, hz, hzc⟩ := el_run hT ht
  have hs' : i.size = fk.size := hs
  have hk := fk.size_pos
  have hzs : zv.cells.size = fk.size := by rw [← Array.length_toList, ← all2_length hzc, K.enc_length]; rfl
  generalize hcs0 : (if m * fk.size = 0 then (#[] : Array Value) else zv.cells) = z0
  obtain ⟨h1, cs', h2, h3, h4⟩ := elems_fill hev ps.toList 0 ys ((Array.range (m * fk.size)).map (z0[· % z0.size]!)) hel (by simp [hl])
  have hlist : (ps.map fun (p : Nat × Operand) => (p.1, ev' p.2)).toList = ps.toList.map fun p => (p.1, ev' p.2) := by simp
  have hsz : cs'.size = m * fk.size := by rw [h3]; simp
  have hflat : cs'.toList = flatV fk ys := by
    apply List.ext_getElem?
    intro p
    rw [Array.getElem?_toList, h4 p]
    simp only [Nat.zero_mul, Nat.zero_add, Nat.zero_le, true_and, Nat.sub_zero, hl]
    by_cases hp : p < m * fk.size
    · rw [if_pos hp]
    · rw [if_neg hp, List.getElem?_eq_none (by rw [flatV_length, h1, hl]; omega)]
      simp; omega
  have hyl : ys.length = m := by rw [h1, hl]
  refine fine_newarr hm hn (v := .slice (some ⟨w.heap.size, 0, none⟩) m m) (w' := w.alloc (.cells cs' e)) ?_ ⟨rfl, rfl, rfl, by simp, fun q hq _ => Below.heap_alloc w _ q hq⟩ (.inr rfl) ?_
  · have hnl : ¬ 16777216 < m * fk.size := by omega
    by_cases hmz : m * fk.size = 0
    · rw [if_pos hmz] at hcs0
      subst hcs0
      simp only [execOp, Instr.buildSlice, Sem.run_bind, run_underlying hu, Result.andThen_ok, run_sizeOf' hi, hs']
      simp [hnl, hmz] at h2 ⊢
      simp [h2, newRow]
    · rw [if_neg hmz] at hcs0
      subst hcs0
      simp only [execOp, Instr.buildSlice, Sem.run_bind, run_underlying hu, Result.andThen_ok, run_sizeOf' hi, hs']
      simp [hnl, hmz, run_zero hi hz]
      simp [h2, newRow]
  · have hmm : m ≤ m * fk.size := Nat.le_mul_of_pos_right _ hk
    refine ⟨by rw [flatV_length], .inr ⟨w.heap.size, m, cs', by rw [hyl], Nat.zero_le _, heap_alloc_new w _, by omega, by simp only [maxLen]; omega, hsz, ?_⟩⟩
    rw [hyl, hflat, List.take_of_length_le (by rw [flatV_length, hyl]; exact Nat.le_refl _)]

theorem live_arr {Hl : Heap} {id e : Nat} {k : K} {o : Bool} {xs : List k.T} (hH : ∀ id, (hget Hl id).live = true → H id = hget Hl id) (h : hget Hl id = .arr k e o xs) : H id = .arr k e o xs := by
  rw [hH id (by rw [h]; rfl), h]
theorem live_cells {Hl : Heap} {id t : Nat} {l : List SC} {o : Bool} (hH : ∀ id, (hget Hl id).live = true → H id = hget Hl id) (h : hget Hl id = .cells o t l) : H id = .cells o t l := by
  rw [hH id (by rw [h]; rfl), h]
theorem wf_p {id off : Nat} (h : (SV.w (.c (.p id off))).wf U) : U id := h id rfl
theorem wf_el {id ix sz off : Nat} (h : (SV.w (.c (.el id ix sz off))).wf U) : U id := h id rfl

/-- An own array that is only looked at from now on. -/
theorem mem_freeze {id e : Nat} {k : K} {xs : List k.T} (hm : Mem B w0 ρ φ U H w) (hH : H id = .arr k e true xs) : Mem B w0 ρ φ U (upd H id (.arr k e false xs)) w := by
  have hl : (H id).live = true := by rw [hH]; rfl
  have ho : (H id).own = true := by rw [hH]; rfl
  have := hm.put (w' := w) id (.arr k e false xs) (ρ id) (φ id) (fun _ => rfl) (fun b _ _ => rfl) rfl rfl rfl (Nat.le_refl _) trivial (mem_view hm hH) (fun _ b hb => hm.lt id hl b hb) (fun b hb => .inr (.inl ⟨ho, hb⟩))
  rw [upd_self, upd_self] at this
  exact this.mono fun x hx => by
    rcases hx with hx | rfl
    · exact hx
    · exact hm.used _ hl
theorem load_sound {t : Nat} {x : Operand} {en : Env} {Hl : Heap} {a : Operand → Value} {out : Out} (hT : TabOk P T) (hev : DenV ρ (ev en x) (a x)) (hH : ∀ id, (hget Hl id).live = true → H id = hget Hl id) (hm : Mem B w0 ρ φ U H w)
    (hs : stepLoad T t (ev en x) Hl n = some out) (hc : holdsO out.c) (hU : ∀ q, n ≤ q → q < out.n → ¬ U q) (dst) (tt) (pos) (af) (gd) :
    Fine B w0 ρ U H ((execOp a ⟨dst, .load t x, tt, pos, af, gd⟩).run P w) out.v out.d n out.n := by
  generalize ev en x = s at *
  unfold stepLoad at hs
  split at hs
  · rename_i id off
    split at hs
    · rename_i _ ty l k z hh ht
      split at hs
      · rename_i ho
        injection hs with hs
        subst hs
        exact fine_load_sc hT ht hm (live_cells hH hh) (by rw [← len_eq]; exact ho) hev dst tt pos af gd
      · cases hs
    · rename_i _ ty l m fs z eq hh ht
      split at hs
      · rename_i ho
        injection hs with hs
        subst hs
        exact fine_load_st hT ht hm (live_cells hH hh) (by rw [← len_eq]; exact ho) hev dst tt pos af gd
      · cases hs
    · cases hs
  · rename_i id ix sz off
    split at hs
    · rename_i k e own xs kk z hh ht
      split at hs
      · rename_i m hcell
        split at hs
        · rename_i ho
          split at hs
          · rename_i hsz
            injection hs with hs
            subst hs
            exact fine_load_el_i hT ht hm (live_arr hH hh) hev ho hsz hc hcell dst tt pos af gd
          · cases hs
        · cases hs
      · rename_i m hcell
        split at hs
        · rename_i ho
          split at hs
          · rename_i hsz
            injection hs with hs
            subst hs
            exact fine_load_el_b hT ht hm (live_arr hH hh) hev ho hsz hc hcell dst tt pos af gd
          · cases hs
        · cases hs
      · rename_i fk ys hcell
        split at hs
        · rename_i ho
          split at hs
          · rename_i hsz
            cases own with
            | true =>
              simp only at hs
              injection hs with hs
              subst hs
              exact fine_load_el_sl hT ht (mem_freeze hm (live_arr hH hh)) (upd_same _ _ _) (hU n (Nat.le_refl _) (Nat.lt_succ_self _)) hev ho hsz hc hcell dst tt pos af gd
            | false =>
              simp only at hs
              injection hs with hs
              subst hs
              exact fine_load_el_sl hT ht hm (live_arr hH hh) (hU n (Nat.le_refl _) (Nat.lt_succ_self _)) hev ho hsz hc hcell dst tt pos af gd
          · cases hs
        · cases hs
    · rename_i k e own xs m fs z eq hh ht
      split at hs
      rename_i l d n' hcells
      split at hs
      · rename_i ho
        split at hs
        · rename_i hsz
          split at hs
          · rename_i y r
            injection hs with hs
            subst hs
            exact fine_load_el_st hT ht (mem_freeze hm (live_arr hH hh)) (upd_same _ _ _) hev ho hsz hc hcells (.inl rfl) hU dst tt pos af gd
          · rename_i hno
            injection hs with hs
            subst hs
            refine fine_load_el_st hT ht hm (live_arr hH hh) hev ho hsz hc hcells ?_ hU dst tt pos af gd
            cases own with
            | false => exact .inl rfl
            | true =>
              cases d with
              | nil => exact .inr rfl
              | cons x y => exact (hno x y rfl rfl).elim
        · cases hs
      · cases hs
    · cases hs
  · cases hs

theorem store_sound {t : Nat} {x y : Operand} {en : Env} {Hl : Heap} {a : Operand → Value} {out : Out} (hT : TabOk P T) (hev : ∀ x, DenV ρ (ev en x) (a x)) (hwf : ∀ x, (ev en x).wf U) (hH : ∀ id, (hget Hl id).live = true → H id = hget Hl id) (hm : Mem B w0 ρ φ U H w)
    (hs : stepStore T t (ev en x) (ev en y) Hl n = some out) (hc : holdsO out.c) (dst) (tt) (pos) (af) (gd) :
    Fine B w0 ρ U H ((execOp a ⟨dst, .store t x y, tt, pos, af, gd⟩).run P w) out.v out.d n out.n := by
  have hx := hev x
  have hy := hev y
  have hyw := hwf y
  generalize ev en x = sx at *
  generalize ev en y = sy at *
  unfold stepStore at hs
  split at hs
  · rename_i id off s
    replace hy : DenW ρ s (a y) := hy
    replace hyw : s.wf U := hyw
    split at hs
    · rename_i ty l k z hh ht
      obtain ⟨i, d, v, hi, hsz, _⟩ := td_sc hT ht
      split at hs
      · rename_i c
        split at hs
        · rename_i hk
          split at hs
          · rename_i ho
            injection hs with hs
            subst hs
            rw [len_eq] at ho
            have hk' : known [c] = true := by unfold known; rw [hk]; rfl
            have e1 : splice l off [c] = Go.Eng.put c l off := by
              rw [splice_eq, put_eq]
              apply List.ext_getElem?
              intro j
              rw [List.getElem?_set]
              by_cases h1 : j < off
              · rw [List.getElem?_append_left (by simp; omega), List.getElem?_take, if_pos h1, if_neg (by omega)]
              · rw [List.getElem?_append_right (by simp; omega)]
                have : (List.take off l).length = off := by simp; omega
                rw [this]
                by_cases h2 : off = j
                · subst h2
                  rw [if_pos rfl, if_pos ho]
                  simp
                · rw [if_neg h2, List.getElem?_append_right (by simp; omega), List.getElem?_drop]
                  congr 1
                  simp
                  omega
            have := fine_store (n := n) (off := off) (l' := [c]) hi (by rw [hsz]; rfl) hm (live_cells hH hh) (by simp; omega) hx (SW.denL (s := .c c) hy hk') hk' (fun c' h => by simp at h; subst h; exact hyw) dst tt pos af gd
            rw [e1] at this
            exact this
          · cases hs
        · cases hs
      · cases hs
    · rename_i ty l m fs z eq hh ht
      obtain ⟨i, F, v, hi, hu, hsz, _⟩ := td_st hT ht
      split at hs
      · rename_i l'
        split at hs
        · rename_i hk
          split at hs
          · rename_i hlm
            split at hs
            · rename_i ho
              injection hs with hs
              subst hs
              rw [len_eq] at ho hlm
              exact fine_store (n := n) (l' := l') hi (by rw [hsz]; exact hlm.symm) hm (live_cells hH hh) (by omega) hx (SW.denL (s := .g l') hy hk) hk hyw dst tt pos af gd
            · cases hs
          · cases hs
        · cases hs
      · cases hs
    · cases hs
  · rename_i id ix sz off s
    replace hy : DenW ρ s (a y) := hy
    split at hs
    · rename_i fk e xs hh
      split at hs
      · rename_i cs hcs
        split at hs
        · rename_i v hdec
          split at hs
          · rename_i ho
            split at hs
            · rename_i hsz
              rw [len_eq] at ho
              split at hs
              · rename_i k z c ht
                obtain ⟨i, d, v', hi, hsz', _⟩ := td_sc hT ht
                injection hs with hs
                subst hs
                exact fine_store_el hi (by rw [hsz']; rfl) hm (live_arr hH hh) hx hy hcs hdec ho hsz hc dst tt pos af gd
              · rename_i m fs z eq l' ht
                obtain ⟨i, F, v', hi, hu, hsz', _⟩ := td_st hT ht
                split at hs
                · rename_i hlm
                  injection hs with hs
                  subst hs
                  rw [len_eq] at hlm
                  exact fine_store_el hi (by rw [hsz']; exact hlm.symm) hm (live_arr hH hh) hx hy hcs hdec ho hsz hc dst tt pos af gd
                · cases hs
              · cases hs
            · cases hs
          · cases hs
        · cases hs
      · cases hs
    · rename_i e xs hh
      split at hs
      · rename_i c kk z ht
        split at hs
        · rename_i ys D hrow
          split at hs
          · rename_i hoff
            split at hs
            · rename_i hsz
              subst hoff
              subst hsz
              injection hs with hs
              subst hs
              exact fine_store_route hT ht hH hm (live_arr hH hh) hx hy hrow hc dst tt pos af gd
            · cases hs
          · cases hs
        · cases hs
      · cases hs
    · cases hs
  · cases hs

theorem src_sound {en : Env} {Hl : Heap} {y : Operand} {a : Operand → Value} {fk : FK} {id2 : Nat} {ys : List fk.T} (hev : DenV ρ (ev en y) (a y)) (hH : ∀ id, (hget Hl id).live = true → H id = hget Hl id) (hm : Mem B w0 ρ φ U H w)
    (h : srcOf fk (ev en y) Hl n = some (id2, ys)) (hc : srcC fk (ev en y) Hl) : Src w fk (a y) ys := by
  generalize ev en y = s at *
  unfold srcOf at h
  split at h
  · injection h with h
    injection h with h1 h2
    subst h2
    exact src_nil hev
  · split at h
    · rename_i k2 e o zs hh
      split at h
      · rename_i hk _
        injection h with h
        injection h with h1 h2
        subst hk
        subst h2
        exact src_fs hm (live_arr hH hh) hev
      · cases h
    · cases h
  · rename_i id lo m sz
    split at h
    · rename_i k2 e o zs hh
      split at h
      · rename_i hk _
        split at h
        · rename_i hsz
          injection h with h
          injection h with h1 h2
          subst hk
          subst h2
          have hc' : lo + m ≤ zs.length := by
            unfold srcC at hc
            simp only [hh] at hc
            exact hc
          exact src_s hm (live_arr hH hh) hsz hc' hev
        · cases h
      · cases h
    · cases h
  · cases h
end
end Go.Eng

/- The evaluation of one operation is sound: put together. -/
set_option linter.unusedVariables false
set_option linter.unusedSimpArgs false
namespace Go.Eng
open Go Go.RowKit

theorem fk_same {a b : FK} {h : PLift (a = b)} (e : FK.same a b = some h) : a = b := h.down
theorem k_same {a b : K} {h : PLift (a = b)} (e : K.same a b = some h) : a = b := h.down

section
variable {P : Program} {T : Tab} {B : Nat} {w0 : Base} {w : World} {ρ : Nat → Value} {φ : Nat → Nat → Prop} {U : Nat → Prop} {H : Nat → HB} {n : Nat}

theorem cst_den {v : Value} : DenV ρ (cst v) v := by
  unfold cst
  split <;> first | rfl | trivial
theorem cst_wf {v : Value} : (cst v).wf U := by
  unfold cst
  split <;> exact fun _ h => h.elim

theorem call_sound {c : Call} {en : Env} {Hl : Heap} {a : Operand → Value} {out : Out} (hT : TabOk P T) (hev : ∀ x, DenV ρ (ev en x) (a x)) (hH : ∀ id, (hget Hl id).live = true → H id = hget Hl id) (hm : Mem B w0 ρ φ U H w)
    (hs : step T en Hl n (.call c) = some out) (hc : holdsO out.c) (hU : ∀ q, n ≤ q → q < out.n → ¬ U q) (dst) (tt) (pos) (af) (gd) :
    Fine B w0 ρ U H ((execOp a ⟨dst, .call c, tt, pos, af, gd⟩).run P w) out.v out.d n out.n := by
  obtain ⟨callee, ⟨args⟩, ⟨ts⟩⟩ := c
  simp only [step] at hs
  split at hs
  · -- len
    rename_i x t
    split at hs
    · rename_i ke z ht
      obtain ⟨k', e'⟩ := ke
      have hx := hev x
      generalize ev en x = s at *
      unfold stepLen at hs
      split at hs
      · injection hs with hs
        subst hs
        exact fine_len_nil (ty := 0) hT ht hm hx dst tt pos af gd
      · split at hs
        · rename_i k e o xs hh
          injection hs with hs
          subst hs
          exact fine_len_fs (ty := 0) hT ht hm (live_arr hH hh) hx dst tt pos af gd
        · cases hs
      · injection hs with hs
        subst hs
        exact fine_len_s (ty := 0) hT ht hm hx dst tt pos af gd
      · cases hs
    · cases hs
  · -- append
    rename_i x y t t'
    split at hs
    · rename_i htt
      subst htt
      unfold stepAppend at hs
      split at hs
      · rename_i fk e z ht
        split at hs
        · cases hs
        · rename_i id2 ys hsrc
          have hx := hev x
          split at hs
          · rename_i hnil
            injection hs with hs
            subst hs
            rw [hnil] at hx
            exact fine_append_nil (ty := 0) hT ht hm (hU n (Nat.le_refl _) (Nat.lt_succ_self _)) hx (src_sound (hev y) hH hm hsrc hc.1) hc.2 dst tt pos af gd
          · rename_i id hfs
            split at hs
            · cases hs
            · split at hs
              · rename_i k1 e1 xs hh
                split at hs
                · rename_i hk _
                  split at hs
                  · rename_i he
                    injection hs with hs
                    subst hs
                    subst hk
                    subst he
                    rw [hfs] at hx
                    exact fine_append_fs (ty := 0) hT ht hm (hU n (Nat.le_refl _) (Nat.lt_succ_self _)) (live_arr hH hh) hx (src_sound (hev y) hH hm hsrc hc.1) hc.2 dst tt pos af gd
                  · cases hs
                · cases hs
              · cases hs
          · cases hs
      · rename_i k e z _ ht
        have hx := hev x
        have hy := hev y
        split at hs
        · rename_i id2 hfs2
          rw [hfs2] at hy
          split at hs
          · rename_i k2 e2 y0 ys hh2
            split at hs
            · rename_i hk _
              subst hk
              split at hs
              · rename_i hnil
                injection hs with hs
                subst hs
                rw [hnil] at hx
                exact fine_append_deep_nil (ty := 0) hT ht hm (hU n (Nat.le_refl _) (Nat.lt_succ_self _)) (live_arr hH hh2) hx hy hc dst tt pos af gd
              · rename_i id hfs
                rw [hfs] at hx
                split at hs
                · cases hs
                · rename_i hne
                  split at hs
                  · rename_i k1 e1 xs hh
                    split at hs
                    · rename_i hk1 _
                      subst hk1
                      split at hs
                      · rename_i he
                        subst he
                        injection hs with hs
                        subst hs
                        exact fine_append_deep (ty := 0) hT ht hm (hU n (Nat.le_refl _) (Nat.lt_succ_self _)) hne (live_arr hH hh) (live_arr hH hh2) hx hy hc dst tt pos af gd
                      · cases hs
                    · cases hs
                  · cases hs
              · cases hs
            · cases hs
          · cases hs
        · cases hs
      · cases hs
    · cases hs
  · -- copy
    rename_i x y t t'
    split at hs
    · rename_i k e' z id ht hfs
      split at hs
      · rename_i k' e own xs hh
        split at hs
        · rename_i hk _
          have hkk : k = k' := hk.down
          have hx := hev x
          rw [hfs] at hx hs
          unfold stepCopy at hs
          cases k' with
          | f fk =>
            cases own with
            | true =>
              simp only [hh] at hs
              split at hs
              · cases hs
              · rename_i id2 ys hsrc
                split at hs
                · cases hs
                · injection hs with hs
                  subst hs
                  exact fine_copy hT ht hkk hm (live_arr hH hh) hx (src_sound (hev y) hH hm hsrc hc) dst tt pos af gd
            | false =>
              simp only [hh] at hs
              cases hs
          | route => simp only [hh] at hs; cases hs
          | rows k => simp only [hh] at hs; cases hs
        · cases hs
      · cases hs
    · cases hs
  · -- max
    rename_i x y
    have hx := hev x
    have hy := hev y
    split at hs
    · rename_i p q h1 h2
      rw [h1] at hx
      rw [h2] at hy
      injection hs with hs
      subst hs
      refine fine_same hm (u := .int .i64 (max p q)) ?_ rfl (fun _ h => h.elim)
      have hx := den_i hx
      have hy := den_i hy
      simp [execOp, resolve, invoke, builtin, hx, hy, Builtin.max_, Builtin.max2]
      rw [Int.max_def]; split <;> split <;> omega
    · cases hs
  · -- min
    rename_i x y
    have hx := hev x
    have hy := hev y
    split at hs
    · rename_i p q h1 h2
      rw [h1] at hx
      rw [h2] at hy
      injection hs with hs
      subst hs
      refine fine_same hm (u := .int .i64 (min p q)) ?_ rfl (fun _ h => h.elim)
      have hx := den_i hx
      have hy := den_i hy
      simp [execOp, resolve, invoke, builtin, hx, hy, Builtin.min_, Builtin.min2]
      rw [Int.min_def]; split <;> split <;> omega
    · cases hs
  · cases hs

theorem step_sound {op : Op} {en : Env} {Hl : Heap} {a : Operand → Value} {out : Out} (hT : TabOk P T) (hev : ∀ x, DenV ρ (ev en x) (a x)) (hwf : ∀ x, (ev en x).wf U) (hH : ∀ id, (hget Hl id).live = true → H id = hget Hl id) (hm : Mem B w0 ρ φ U H w)
    (hs : step T en Hl n op = some out) (hc : holdsO out.c) (hU : ∀ q, n ≤ q → q < out.n → ¬ U q) (dst) (tt) (pos) (af) (gd) :
    Fine B w0 ρ U H ((execOp a ⟨dst, op, tt, pos, af, gd⟩).run P w) out.v out.d n out.n := by
  cases op with
  | move x =>
    simp only [step] at hs
    injection hs with hs
    subst hs
    exact fine_same hm (by simp [execOp]) (hev x) (hwf x)
  | assign x =>
    simp only [step] at hs
    injection hs with hs
    subst hs
    exact fine_same hm (by simp [execOp]) (hev x) (hwf x)
  | pick c x y =>
    simp only [step] at hs
    have hx := hev c
    split at hs
    · rename_i h
      rw [h] at hx
      injection hs with hs
      subst hs
      exact fine_same hm (by simp [execOp, den_l hx, asBool]) (hev x) (hwf x)
    · rename_i h
      rw [h] at hx
      injection hs with hs
      subst hs
      exact fine_same hm (by simp [execOp, den_l hx, asBool]) (hev y) (hwf y)
    · cases hs
  | alloc t =>
    simp only [step] at hs
    split at hs
    · rename_i ht
      injection hs with hs
      subst hs
      exact fine_alloc_sc hT ht hm (hU n (Nat.le_refl _) (Nat.lt_succ_self _)) a dst tt pos af gd
    · rename_i ht
      injection hs with hs
      subst hs
      exact fine_alloc_st hT ht hm (hU n (Nat.le_refl _) (Nat.lt_succ_self _)) a dst tt pos af gd
    · cases hs
  | box t x =>
    simp only [step] at hs
    have hx := hev x
    have hw := hwf x
    split at hs
    · rename_i s h
      rw [h] at hx hw
      split at hs
      · rename_i hk
        injection hs with hs
        subst hs
        exact fine_box a hm (hU n (Nat.le_refl _) (Nat.lt_succ_self _)) hx hw hk dst tt pos af gd
      · cases hs
    · cases hs
  | load t x => exact load_sound hT (hev x) hH hm hs hc hU dst tt pos af gd
  | store t x y => exact store_sound hT hev hwf hH hm hs hc dst tt pos af gd
  | nilCheck x =>
    simp only [step] at hs
    have hx := hev x
    have hw := hwf x
    split at hs
    · rename_i id off h
      rw [h] at hx hw
      injection hs with hs
      subst hs
      refine fine_same hm ?_ hx hw
      obtain ⟨g, _, hv⟩ := hx
      simp [execOp, hv]
    · rename_i id ix sz off h
      rw [h] at hx hw
      injection hs with hs
      subst hs
      refine fine_same hm ?_ hx hw
      obtain ⟨g, _, _, _, hv⟩ := hx
      simp [execOp, hv]
    · cases hs
  | binOp op t x y yt =>
    simp only [step] at hs
    have hx := hev x
    have hy := hev y
    split at hs
    · rename_i p q h1 h2
      rw [h1] at hx
      rw [h2] at hy
      split at hs
      · rename_i c pr har
        injection hs with hs
        subst hs
        exact fine_arith har hc hm hx hy dst tt pos af gd
      · cases hs
    · rename_i p q hno h1 h2
      rw [h1] at hx
      rw [h2] at hy
      split at hs
      · rename_i r hr
        have hr := ptrEq_eqT hr
        split at hs
        · injection hs with hs
          subst hs
          exact fine_eq (op := .eql) hT hr (.inl rfl) (fun i j e1 e2 => hno i j e1 e2) hm hx hy dst tt pos af gd
        · injection hs with hs
          subst hs
          exact fine_eq (op := .neq) hT hr (.inr rfl) (fun i j e1 e2 => hno i j e1 e2) hm hx hy dst tt pos af gd
        · cases hs
      · split at hs
        · rename_i r hr
          injection hs with hs
          subst hs
          exact fine_eq (op := .eql) hT hr (.inl rfl) (fun i j e1 e2 => hno i j e1 e2) hm hx hy dst tt pos af gd
        · rename_i r hr
          injection hs with hs
          subst hs
          exact fine_eq (op := .neq) hT hr (.inr rfl) (fun i j e1 e2 => hno i j e1 e2) hm hx hy dst tt pos af gd
        · cases hs
    · cases hs
  | unOp op t x =>
    simp only [step] at hs
    have hx := hev x
    split at hs
    · rename_i p h
      rw [h] at hx
      injection hs with hs
      subst hs
      exact fine_not hm hx dst tt pos af gd
    · rename_i p h
      rw [h] at hx
      injection hs with hs
      subst hs
      exact fine_not_l hm hx dst tt pos af gd
    · rename_i p h
      rw [h] at hx
      injection hs with hs
      subst hs
      exact fine_neg hm hx dst tt pos af gd
    · cases hs
  | build t ps =>
    simp only [step] at hs
    split at hs
    · rename_i m fs z eq ht
      split at hs
      · rename_i l hb
        injection hs with hs
        subst hs
        exact fine_build hT ht hev hwf hb hm dst tt pos af gd
      · cases hs
    · cases hs
  | buildSlice t m ps =>
    simp only [step] at hs
    split at hs
    · rename_i fk e z ht
      split at hs
      · rename_i ys hel
        split at hs
        · rename_i hl
          split at hs
          · rename_i hlim
            injection hs with hs
            subst hs
            rw [len_eq] at hl
            exact fine_buildSlice hT ht hm (hU n (Nat.le_refl _) (Nat.lt_succ_self _)) hev hel hl hlim dst tt pos af gd
          · cases hs
        · cases hs
      · cases hs
    · rename_i k e z _ ht
      split at hs
      · rename_i ys D hel
        split at hs
        · rename_i hl
          split at hs
          · rename_i hlim
            split at hs
            · rename_i hone
              injection hs with hs
              subst hs
              rw [len_eq] at hl
              exact fine_build_deep hT ht hH hm (hU n (Nat.le_refl _) (Nat.lt_succ_self _)) hev hel hl hlim hone dst tt pos af gd
            · cases hs
          · cases hs
        · cases hs
      · cases hs
    · cases hs
  | field t x f =>
    simp only [step] at hs
    have hx := hev x
    have hw := hwf x
    split at hs
    · rename_i l m fs z eq h ht
      rw [h] at hx hw
      split at hs
      · rename_i hl
        split at hs
        · rename_i hf
          split at hs
          · rename_i ho
            injection hs with hs
            subst hs
            rw [len_eq] at hl hf
            exact fine_field (n := n) hT ht hf hl ho hm hx hw dst tt pos af gd
          · cases hs
        · cases hs
      · cases hs
    · cases hs
  | fieldAddr t x f =>
    simp only [step] at hs
    have hx := hev x
    have hw := hwf x
    split at hs
    · rename_i m fs z eq ht
      split at hs
      · rename_i hf
        rw [len_eq] at hf
        split at hs
        · rename_i id o h
          rw [h] at hx hw
          injection hs with hs
          subst hs
          exact fine_fieldAddr_p (n := n) hT ht hf hm hx (wf_p hw) dst tt pos af gd
        · rename_i id ix sz o h
          rw [h] at hx hw
          injection hs with hs
          subst hs
          exact fine_fieldAddr_el (n := n) hT ht hf hm hx (wf_el hw) dst tt pos af gd
        · cases hs
      · cases hs
    · cases hs
  | indexAddr t x ix =>
    simp only [step] at hs
    have hx := hev x
    have hi := hev ix
    split at hs
    · rename_i k e z ht
      split at hs
      · rename_i id h
        rw [h] at hx hs
        split at hs
        · rename_i k' e' own xs hh
          split at hs
          · rename_i hk _
            unfold stepIndex at hs
            split at hs
            · rename_i id' j q1 q2
              injection q1 with q1
              injection q1 with q1
              injection q1 with q1
              subst q1
              rw [q2] at hi
              simp only [hh] at hs
              injection hs with hs
              subst hs
              exact fine_index_fs hT ht hk.down hm (live_arr hH hh) hx hi hc dst tt pos af gd
            · rename_i q1 _
              injection q1 with q1
              injection q1 with q1
              cases q1
            · cases hs
          · cases hs
        · cases hs
      · rename_i id lo m sz h
        rw [h] at hx hs
        split at hs
        · rename_i k' e' own xs hh
          split at hs
          · rename_i hk _
            unfold stepIndex at hs
            split at hs
            · rename_i q1 _
              injection q1 with q1
              injection q1 with q1
              cases q1
            · rename_i id' lo' m' sz' j q1 q2
              injection q1 with q1
              injection q1 with q1
              injection q1 with e1 e2 e3 e4
              subst e1; subst e2; subst e3; subst e4
              rw [q2] at hi
              simp only [hh] at hs
              split at hs
              · rename_i hsz
                injection hs with hs
                subst hs
                exact fine_index_s hT ht hk.down hm (live_arr hH hh) hsz hx hi hc dst tt pos af gd
              · cases hs
            · cases hs
          · cases hs
        · cases hs
      · cases hs
    · exact at_sound hT hm hs hx (hwf x) hi hc dst tt pos af gd
  | makeMap t r =>
    cases r with
    | some r => simp [step] at hs
    | none =>
      simp only [step] at hs
      split at hs
      · injection hs with hs
        subst hs
        exact fine_makeMap hm (hU n (Nat.le_refl _) (Nat.lt_succ_self _)) dst tt pos af gd
      · cases hs
  | lookup t m x ok =>
    cases ok with
    | true => simp [step] at hs
    | false => exact lookup_sound hT hH hm hs (hev m) (hev x) dst tt pos af gd
  | mapUpdate t m x v => exact update_sound hT hH hm hs (hev m) (hev x) (hev v) dst tt pos af gd
  | slice t x lo hi mx =>
    simp only [step] at hs
    have hx := hev x
    split at hs
    · rename_i k e z ht
      split at hs
      · rename_i id h
        rw [h] at hx hs
        split at hs
        · rename_i k' e' own xs hh
          split at hs
          · rename_i hk _
            simp only [stepSlice, hh] at hs
            split at hs
            · rename_i l hb h1 h2
              injection hs with hs
              subst hs
              exact fine_slice_fs hT ht hk.down hm (live_arr hH hh) hev hx h1 h2 hc dst tt pos af gd
            · cases hs
          · cases hs
        · cases hs
      · rename_i id lo' m sz h
        rw [h] at hx hs
        split at hs
        · rename_i k' e' own xs hh
          split at hs
          · rename_i hk _
            simp only [stepSlice, hh] at hs
            split at hs
            · rename_i l hb h1 h2
              split at hs
              · rename_i hsz
                injection hs with hs
                subst hs
                exact fine_slice_s hT ht hk.down hm (live_arr hH hh) hsz hev hx h1 h2 hc dst tt pos af gd
              · cases hs
            · cases hs
          · cases hs
        · cases hs
      · cases hs
    · cases hs
  | makeSlice t x y =>
    simp only [step] at hs
    have hx := hev x
    have hy := hev y
    split at hs
    · rename_i fk e z p q ht h1 h2
      rw [h1] at hx
      rw [h2] at hy
      injection hs with hs
      subst hs
      exact fine_make hT ht hm (hU n (Nat.le_refl _) (Nat.lt_succ_self _)) hx hy hc dst tt pos af gd
    · cases hs
  | extract x j =>
    simp only [step] at hs
    have hx := hev x
    have hw := hwf x
    split at hs
    · rename_i l h
      rw [h] at hx hw
      split at hs
      · rename_i hj
        injection hs with hs
        subst hs
        exact fine_extract (by rw [← len_eq]; exact hj) hm hx hw dst tt pos af gd
      · cases hs
    · cases hs
  | call c => exact call_sound hT hev hH hm hs hc hU dst tt pos af gd
  | _ => simp [step] at hs
end
end Go.Eng
