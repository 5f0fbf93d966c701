/- The evaluation of one operation is sound: first what makes no memory and variables of structs. -/
import Derived.Test.YtadblcopmoiaaaaEStep
import Derived.Laws.CopyRow
import Derived.Laws.Rows
import Derived.Laws.Entries
import Derived.Laws.MakeOwn
import Derived.Maps.AppendAt
import Derived.Laws.IdiomRangeMap
set_option linter.unusedVariables false
set_option linter.unusedSimpArgs false
namespace Go.Eng
open Go Go.RowKit

/-! ### The table of types -/
def plainD : TypeDesc → Bool
  | .struct _ | .array _ _ => false
  | _ => true
def scz : SC → Value → Bool
  | .i n, .int .i64 m => decide (n = m)
  | .b x, .bool y => x == y
  | .l x, .bool y => x == y
  | .nls, .slice none 0 0 => true
  | .nlp, .pointer none => true
  | _, _ => false
def cvz : CV → Value → Bool
  | .i n, .int .i64 m => decide (n = m)
  | .b x, .bool y => x == y
  | .sl _ [], .slice none 0 0 => true
  | _, _ => false
def all2 {α β : Type} (p : α → β → Bool) : List α → List β → Bool
  | [], [] => true
  | a :: l, b :: m => p a b && all2 p l m
  | _, _ => false
def elChk (P : Program) (e : Nat) (k : K) : Bool := match P.info? e with
  | some i => decide (i.size = k.size) && decide (i.bytes ≤ k.byt) && (match i.zero with | some z => all2 cvz (k.enc k.zero) z.cells.toList | none => false)
  | none => false
def kindD : SC → TypeDesc → Bool
  | .i _, .int .i64 => true
  | .l _, .bool => true
  | .nlp, .pointer _ => true
  | .nls, .slice _ => true
  | _, _ => false
def fdChk (P : Program) (eq : Bool) (fd : FD) (f : Field) : Bool := match P.info? f.type, P.underlying f.type with
  | some i, some d => decide (f.offset = fd.off) && decide (f.type = fd.ty) && decide (i.size = fd.size) && decide (0 < fd.size) && ((!plainD d) == fd.agg) && (!eq || decide (f.name ≠ "_"))
  | _, _ => false
def scChk (P : Program) (t : Nat) (k : Option (K × Nat)) (z : SC) : Bool := match P.info? t, P.underlying t with
    | some i, some d => decide (i.size = 1) && plainD d && (match i.zero with | some v => scz z v | none => false) && kindD z d &&
      (match k with | none => true | some (k, e) => (match d with | .slice e' => decide (e' = e) | _ => false) && elChk P e k)
    | _, _ => false
def stChk (P : Program) (t n : Nat) (fs : List FD) (z : List SC) (eq : Bool) : Bool := match P.info? t, P.underlying t with
    | some i, some (.struct F) => decide (i.size = n) && (match i.zero with | some (.agg v) => all2 scz z v.toList | _ => false) && decide (z.length = n) && all2 (fdChk P eq) fs F.toList &&
      (!eq || (!P.stoodInHeld t && !P.eqGuardType P.depth t))
    | _, _ => false
def tdChk (P : Program) (t : Nat) : TD → Bool
  | .sc k z => scChk P t k z
  | .st n fs z eq => stChk P t n fs z eq
def TabOk (P : Program) (T : Tab) : Prop := ∀ t td, look T t = some td → tdChk P t td = true
theorem tabOk_of {P : Program} {T : Tab} (h : T.all (fun x => tdChk P x.1 x.2) = true) : TabOk P T := by
  induction T with
  | nil => intro t td h; cases h
  | cons x l ih =>
    obtain ⟨a, d⟩ := x
    simp only [List.all_cons, Bool.and_eq_true] at h
    intro t td ht
    rw [look_cons] at ht
    split at ht
    · rename_i e
      subst e
      injection ht with ht
      subst ht
      exact h.1
    · exact ih h.2 t td ht

theorem scz_den {ρ : Nat → Value} {z : SC} {v : Value} (h : scz z v = true) : DenC ρ z v := by
  unfold scz at h
  split at h <;> simp_all [DenC]
theorem scz_wf {z : SC} {v : Value} (h : scz z v = true) (U : Nat → Prop) : z.wf U := by
  unfold scz at h
  split at h <;> simp_all [SC.wf, SC.ids]
theorem scz_one {z : SC} {v : Value} (h : scz z v = true) : v.oneCell' = true ∧ v.cells = #[v] := by
  unfold scz at h
  split at h <;> simp_all [Value.oneCell', Value.cells]
theorem all2_length {α β : Type} {p : α → β → Bool} : ∀ {l : List α} {m : List β}, all2 p l m = true → l.length = m.length
  | [], [], _ => rfl
  | a :: l, b :: m, h => by simp only [all2, Bool.and_eq_true] at h; simp [all2_length h.2]
theorem all2_get {α β : Type} {p : α → β → Bool} : ∀ {l : List α} {m : List β}, all2 p l m = true → ∀ (j : Nat) (a : α), l[j]? = some a → ∃ b, m[j]? = some b ∧ p a b = true
  | a :: l, b :: m, h, 0, x, hx => by
    simp only [all2, Bool.and_eq_true] at h
    simp at hx; subst hx
    exact ⟨b, rfl, h.1⟩
  | a :: l, b :: m, h, j + 1, x, hx => by
    simp only [all2, Bool.and_eq_true] at h
    simp at hx
    exact all2_get h.2 j x hx
  | [], [], _, j, x, hx => by simp at hx

section
variable {P : Program} {T : Tab}
theorem td_sc {t : Nat} {k : Option (K × Nat)} {z : SC} (hT : TabOk P T) (h : look T t = some (.sc k z)) :
    ∃ i d v, P.info? t = some i ∧ i.size = 1 ∧ P.underlying t = some d ∧ plainD d = true ∧ i.zero = some v ∧ scz z v = true ∧ kindD z d = true ∧ ∀ k' e, k = some (k', e) → d = .slice e ∧ elChk P e k' = true := by
  have h1 : scChk P t k z = true := hT t _ h
  unfold scChk at h1
  split at h1
  · rename_i i d hi hd
    simp only [Bool.and_eq_true, decide_eq_true_eq] at h1
    obtain ⟨⟨⟨⟨h2, h3⟩, h4⟩, h5⟩, h6⟩ := h1
    split at h4
    · rename_i v hv
      refine ⟨i, d, v, hi, h2, hd, h3, hv, h4, h5, ?_⟩
      rintro k' e rfl
      simp only [Bool.and_eq_true] at h6
      obtain ⟨h7, h8⟩ := h6
      split at h7
      · simp at h7; subst h7; exact ⟨rfl, h8⟩
      · cases h7
    · cases h4
  · cases h1
theorem td_st {t n : Nat} {fs : List FD} {z : List SC} {eq : Bool} (hT : TabOk P T) (h : look T t = some (.st n fs z eq)) :
    ∃ i F v, P.info? t = some i ∧ P.underlying t = some (.struct F) ∧ i.size = n ∧ i.zero = some (.agg v) ∧ all2 scz z v.toList = true ∧ z.length = n ∧ all2 (fdChk P eq) fs F.toList = true ∧
      (eq = true → P.stoodInHeld t = false ∧ P.eqGuardType P.depth t = false) := by
  have h1 : stChk P t n fs z eq = true := hT t _ h
  unfold stChk at h1
  split at h1
  · rename_i i F hi hd
    simp only [Bool.and_eq_true, decide_eq_true_eq] at h1
    obtain ⟨⟨⟨⟨h2, h3⟩, h4⟩, h5⟩, h6⟩ := h1
    split at h3
    · rename_i v hv
      refine ⟨i, F, v, hi, hd, h2, hv, h3, h4, h5, ?_⟩
      rintro rfl
      simpa using h6
    · cases h3
  · cases h1
end

/-! ### What an operation comes to -/
def applyD (H : Nat → HB) : List (Nat × HB) → Nat → HB
  | [] => H
  | (i, x) :: l => applyD (upd H i x) l
def U' (U : Nat → Prop) (n n' : Nat) : Nat → Prop := fun y => U y ∨ (n ≤ y ∧ y < n')
def Fine (B : Nat) (w0 : World) (ρ : Nat → Value) (U : Nat → Prop) (H : Nat → HB) (r : Result Next) (v : SV) (d : List (Nat × HB)) (n n' : Nat) : Prop :=
  ∃ u w' ρ' φ', (r = .ok (.value u) w' ∨ (r = .ok .skip w' ∧ u = undef)) ∧ Mem B w0 ρ' φ' (U' U n n') (applyD H d) w' ∧ (∀ x, U x → ρ' x = ρ x) ∧ DenV ρ' v u ∧ v.wf (U' U n n')
theorem Mem.mono {B : Nat} {w0 w : World} {ρ : Nat → Value} {φ : Nat → Nat → Prop} {U V : Nat → Prop} {H : Nat → HB} (h : Mem B w0 ρ φ U H w) (hU : ∀ x, U x → V x) : Mem B w0 ρ φ V H w :=
  ⟨h.base, h.below, fun id hl => hU _ (h.used id hl), fun id => (h.wf id).mono hU, h.holds, h.lt, h.low, h.apart⟩
theorem U'_self {U : Nat → Prop} {n : Nat} {x : Nat} (h : U x) : U' U n n x := .inl h

section
variable {P : Program} {T : Tab} {B : Nat} {w0 w : World} {ρ : Nat → Value} {φ : Nat → Nat → Prop} {U : Nat → Prop} {H : Nat → HB} {n : Nat}

theorem fine_same {r : Result Next} {v : SV} {u : Value} (hm : Mem B w0 ρ φ U H w) (hr : r = .ok (.value u) w) (hd : DenV ρ v u) (hw : v.wf U) : Fine B w0 ρ U H r v [] n n :=
  ⟨u, w, ρ, φ, .inl hr, hm.mono fun _ h => .inl h, fun _ _ => rfl, hd, hw.mono fun _ h => .inl h⟩

theorem den_i {s : Int} {v : Value} (h : DenV ρ (.w (.c (.i s))) v) : v = .int .i64 s := h
theorem den_l {s : Bool} {v : Value} (h : DenV ρ (.w (.c (.l s))) v) : v = .bool s := h
theorem den_b {s : Bool} {v : Value} (h : DenV ρ (.w (.c (.b s))) v) : v = .bool s := h

theorem alloc_row (cs : Array Value) (t : Nat) (b : Nat) (h : b < w.heap.size) : (w.alloc (.cells cs t)).heap[b]? = w.heap[b]? := Below.heap_alloc w _ b h

/-- A new variable. -/
theorem fine_var {t : Nat} {l : List SC} {cs : Array Value} {r : Result Next} (hm : Mem B w0 ρ φ U H w) (hn : ¬ U n) (hl : DenL ρ l cs) (hw : ∀ c ∈ l, c.wf U)
    (hr : r = .ok (.value (.pointer (some ⟨w.heap.size, 0, none⟩))) (w.alloc (.cells cs t))) : Fine B w0 ρ U H r (.w (.c (.p n 0))) [(n, .cells true t l)] n (n + 1) := by
  have hH : (H n).live = false := by
    cases hh : (H n).live
    · rfl
    · exact absurd (hm.used n hh) hn
  have hp := hm.put (w' := w.alloc (.cells cs t)) n (.cells true t l) (.pointer (some ⟨w.heap.size, 0, none⟩)) (fun b => b = w.heap.size) (fun h => absurd h hn)
    (fun b hb _ => alloc_row cs t b hb) rfl rfl rfl (by simp)
    (fun c hc => (hw c hc).mono fun _ h => .inl h)
    ⟨w.heap.size, cs, rfl, rfl, heap_alloc_new w _, hl.anchors hw fun x hx => upd_ne _ _ (by rintro rfl; exact hn hx)⟩
    (fun _ b hb => by subst hb; simp)
    (fun b hb => .inl (by omega))
  refine ⟨_, _, _, _, .inl hr, hp.mono fun x hx => ?_, fun x hx => upd_ne _ _ (by rintro rfl; exact hn hx), ⟨w.heap.size, upd_same _ _ _, rfl⟩, ?_⟩
  · rcases hx with hx | rfl
    · exact .inl hx
    · exact .inr ⟨Nat.le_refl _, Nat.lt_succ_self _⟩
  · intro x hx
    simp only [SC.ids] at hx
    subst hx
    exact .inr ⟨Nat.le_refl _, Nat.lt_succ_self _⟩

theorem run_isAgg_sc {t : Nat} {d : TypeDesc} (h : P.underlying t = some d) (hd : plainD d = true) (w : World) : (isAgg t).run P w = .ok false w := by
  unfold isAgg
  simp only [Sem.run_bind, run_underlying h, Result.andThen_ok]
  cases d <;> simp_all [plainD]
theorem run_isAgg_st {t : Nat} {F : Array Field} (h : P.underlying t = some (.struct F)) (w : World) : (isAgg t).run P w = .ok true w := by
  unfold isAgg
  simp [run_underlying h]
theorem run_sizeOf' {t : Nat} {i : TypeInfo} (h : P.info? t = some i) (w : World) : (sizeOf t).run P w = .ok i.size w := by
  simp [sizeOf, typeInfo, h]
theorem run_zero {t : Nat} {i : TypeInfo} {v : Value} (h : P.info? t = some i) (hz : i.zero = some v) (w : World) : (zeroValue t).run P w = .ok v w := by
  simp [zeroValue, typeInfo, h, hz]

theorem fine_alloc_sc {t : Nat} {k : Option (K × Nat)} {z : SC} (hT : TabOk P T) (ht : look T t = some (.sc k z)) (hm : Mem B w0 ρ φ U H w) (hn : ¬ U n) (ev : Operand → Value) (dst) (ty) (pos) (af) (gd) :
    Fine B w0 ρ U H ((execOp ev ⟨dst, .alloc t, ty, pos, af, gd⟩).run P w) (.w (.c (.p n 0))) [(n, .cells true t [z])] n (n + 1) := by
  obtain ⟨i, d, v, hi, hs, hu, hp, hz, hsz, _⟩ := td_sc hT ht
  obtain ⟨h1, h2⟩ := scz_one hsz
  refine fine_var hm hn (cs := v.cells) ⟨by rw [h2]; rfl, fun j c hc => ?_⟩ (fun c hc => ?_) ?_
  · match j, hc with
    | 0, hc =>
      simp at hc; subst hc
      exact ⟨v, by rw [h2]; rfl, scz_den hsz⟩
    | j + 1, hc => simp at hc
  · simp at hc; subst hc; exact scz_wf hsz U
  · simp [execOp, Instr.alloc, run_zero hi hz, newVar, newRow]
theorem fine_alloc_st {t m : Nat} {fs : List FD} {z : List SC} {eq : Bool} (hT : TabOk P T) (ht : look T t = some (.st m fs z eq)) (hm : Mem B w0 ρ φ U H w) (hn : ¬ U n) (ev : Operand → Value) (dst) (ty) (pos) (af) (gd) :
    Fine B w0 ρ U H ((execOp ev ⟨dst, .alloc t, ty, pos, af, gd⟩).run P w) (.w (.c (.p n 0))) [(n, .cells true t z)] n (n + 1) := by
  obtain ⟨i, F, v, hi, hu, hs, hz, hv, hl, _⟩ := td_st hT ht
  refine fine_var hm hn (cs := v) ⟨by rw [← Array.length_toList, ← all2_length hv], fun j c hc => ?_⟩ (fun c hc => ?_) ?_
  · obtain ⟨b, hb, hp⟩ := all2_get hv j c hc
    exact ⟨b, by simpa using hb, scz_den hp⟩
  · obtain ⟨j, hj⟩ := List.getElem?_of_mem hc
    obtain ⟨b, hb, hp⟩ := all2_get hv j c hj
    exact scz_wf hp U
  · simp [execOp, Instr.alloc, run_zero hi hz, newVar, newRow, Value.cells]
theorem DenC.one {ρ : Nat → Value} {c : SC} {v : Value} (h : DenC ρ c v) (hk : c.known = true) : v.oneCell' = true ∧ v.cells = #[v] := by
  cases c <;> simp only [DenC, SC.known] at h hk <;> first
    | (cases hk; done)
    | (subst h; exact ⟨rfl, rfl⟩)
    | (obtain ⟨_, _, rfl⟩ := h; exact ⟨rfl, rfl⟩)
    | (obtain ⟨_, _, _, _, rfl⟩ := h; exact ⟨rfl, rfl⟩)
    | (obtain ⟨_, _, _, _, rfl⟩ := h; exact ⟨rfl, rfl⟩)
    | (obtain ⟨_, _, _, _, _, _, rfl, _⟩ := h; exact ⟨rfl, rfl⟩)
theorem known_mem {l : List SC} (h : known l = true) : ∀ c ∈ l, c.known = true := by
  induction l with
  | nil => intro c hc; cases hc
  | cons a l ih =>
    unfold known at h
    split at h
    · rename_i ha
      intro c hc
      rcases List.mem_cons.1 hc with rfl | hc
      · exact ha
      · exact ih h c hc
    · cases h
theorem SW.denL {ρ : Nat → Value} {s : SW} {v : Value} (h : DenW ρ s v) (hk : known s.cells = true) : DenL ρ s.cells v.cells := by
  cases s with
  | c x =>
    have hx : x.known = true := known_mem hk x (by simp [SW.cells])
    obtain ⟨_, h2⟩ := DenC.one h hx
    refine ⟨by rw [h2]; rfl, fun j c hc => ?_⟩
    match j, hc with
    | 0, hc =>
      simp [SW.cells] at hc; subst hc
      exact ⟨v, by rw [h2]; rfl, h⟩
    | j + 1, hc => simp [SW.cells] at hc
  | g l =>
    obtain ⟨vs, rfl, hl⟩ := h
    exact hl
theorem DenL.one {ρ : Nat → Value} {l : List SC} {vs : Array Value} (h : DenL ρ l vs) (hk : known l = true) : ∀ v ∈ vs.toList, v.oneCell' = true := by
  intro v hv
  obtain ⟨j, hj⟩ := List.getElem?_of_mem hv
  have hlt : j < vs.size := by
    have := (List.getElem?_eq_some_iff.1 hj).1
    simpa using this
  have hl : j < l.length := by rw [← h.1]; exact hlt
  obtain ⟨u, hu, hd⟩ := h.2 j _ (List.getElem?_eq_getElem hl)
  have : u = v := by
    rw [Array.getElem?_toList] at hj
    exact Option.some.inj (hu.symm.trans hj)
  subst this
  exact (hd.one (known_mem hk _ (List.getElem_mem hl))).1
theorem fine_box {t : Nat} {s : SW} {x : Operand} (ev : Operand → Value) (hm : Mem B w0 ρ φ U H w) (hn : ¬ U n) (hd : DenW ρ s (ev x)) (hw : s.wf U) (hk : known s.cells = true) (dst) (ty) (pos) (af) (gd) :
    Fine B w0 ρ U H ((execOp ev ⟨dst, .box t x, ty, pos, af, gd⟩).run P w) (.w (.c (.p n 0))) [(n, .cells true t s.cells)] n (n + 1) := by
  refine fine_var hm hn (SW.denL hd hk) (fun c hc => ?_) ?_
  · cases s with
    | c x => simp [SW.cells] at hc; subst hc; exact hw
    | g l => exact hw c hc
  · simp [execOp, Instr.box, newVar, newRow]
end
end Go.Eng
