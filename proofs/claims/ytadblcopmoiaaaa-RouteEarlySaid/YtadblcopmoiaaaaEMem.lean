/- What symbolic memory says of a World: anchors, footprints. -/
import Derived.Test.YtadblcopmoiaaaaEData
import Derived.Laws.OwnMore
set_option linter.unusedVariables false
set_option linter.unusedSimpArgs false
namespace Go.Eng
open Go Go.RowKit

/-! ### Values -/
def cvv : CV → Value
  | .i n => .int .i64 n
  | .b x => .bool x
  | .sl _ _ => .slice none 0 0
def R0 : CV → Value → Prop
  | .i n, v => v = .int .i64 n
  | .b x, v => v = .bool x
  | .sl _ _, _ => False
def ViewR (R : CV → Value → Prop) (w : World) (φ : Nat → Prop) {α : Type} (enc : α → List CV) (sz : Nat) (v : Value) (xs : List α) : Prop :=
  ∃ A c, v = .slice A xs.length c ∧ xs.length ≤ c ∧ c ≤ maxLen ∧ (xs ≠ [] → ∃ a, A = some a ∧ φ a.block) ∧
    ∀ a, A = some a → ∀ (i : Nat) x, xs[i]? = some x → ∀ (j : Nat) cv, (enc x)[j]? = some cv → ∃ u, w.cell? ((a.add (i * sz)).add j) = some u ∧ R cv u
def CVat (w : World) (φ : Nat → Prop) : CV → Value → Prop
  | .i n, v => v = .int .i64 n
  | .b x, v => v = .bool x
  | .sl k xs, v => ViewR R0 w φ k.enc k.size v xs
def View (w : World) (φ : Nat → Prop) (k : K) (v : Value) (xs : List k.T) : Prop := ViewR (CVat w φ) w φ k.enc k.size v xs
def Own (w : World) (φ : Nat → Prop) (k : K) (e : Nat) (v : Value) (xs : List k.T) : Prop :=
  (∀ g, v.ownBlock = some g → φ g) ∧ ∃ cs : List Value, w.ownsRow 0 e k.size v xs.length cs ∧
    ∀ (i : Nat) x, xs[i]? = some x → ∀ (j : Nat) cv, (k.enc x)[j]? = some cv → ∃ u, cs[i * k.size + j]? = some u ∧ CVat w φ cv u

/-- A symbolic cell stands for a value; 'ρ': the blocks' anchors. -/
def DenC (ρ : Nat → Value) : SC → Value → Prop
  | .u, _ => True
  | .i n, v => v = .int .i64 n
  | .b x, v => v = .bool x
  | .l x, v => v = .bool x
  | .p id off, v => ∃ g, ρ id = .pointer (some ⟨g, 0, none⟩) ∧ v = .pointer (some ⟨g, off, none⟩)
  | .el id ix sz off, v => ∃ a n c, ρ id = .slice (some a) n c ∧ v = .pointer (some ((a.add (ix * sz)).add off))
  | .fs id, v => v = ρ id ∧ ∃ A n c, v = .slice A n c
  | .s id lo n sz, v => ∃ A n0 c0 A' c', ρ id = .slice A n0 c0 ∧ v = .slice A' n c' ∧ n ≤ c' ∧ c' ≤ maxLen ∧ (0 < n → ∃ a, A = some a ∧ A' = some (a.add (lo * sz)))
  | .nls, v => v = .slice none 0 0
  | .nlp, v => v = .pointer none
  | .fn f, v => v = .func (.func f) #[] #[]
def DenL (ρ : Nat → Value) (l : List SC) (vs : Array Value) : Prop := vs.size = l.length ∧ ∀ (j : Nat) c, l[j]? = some c → ∃ v, vs[j]? = some v ∧ DenC ρ c v
def DenW (ρ : Nat → Value) : SW → Value → Prop
  | .c x, v => DenC ρ x v
  | .g l, v => ∃ vs, v = .agg vs ∧ DenL ρ l vs
def DenV (ρ : Nat → Value) : SV → Value → Prop
  | .w x, v => DenW ρ x v
  | .t l, v => ∃ vs : Array Value, v = .tuple vs ∧ vs.size = l.length ∧ ∀ (j : Nat) c, l[j]? = some c → ∃ v, vs[j]? = some v ∧ DenW ρ c v

def Holds (ρ : Nat → Value) (w : World) (φ : Nat → Prop) : HB → Value → Prop
  | .dead, _ => True
  | .cells o ty l, v => ∃ g cs, v = .pointer (some ⟨g, 0, none⟩) ∧ φ g ∧ w.heap[g]? = some (.cells cs ty (0, 0)) ∧ DenL ρ l cs
  | .arr k e true xs, v => Own w φ k e v xs
  | .arr k e false xs, v => View w φ k v xs

/-! ### What agrees on the footprint holds on -/
def Agree (φ : Nat → Prop) (w w' : World) : Prop := ∀ b, φ b → w'.heap[b]? = w.heap[b]?
theorem Agree.cell {φ : Nat → Prop} {w w' : World} (h : Agree φ w w') {a : Addr} (ha : φ a.block) : w'.cell? a = w.cell? a := World.cell?_of_block (h _ ha)
theorem add_block (a : Addr) (n : Nat) : (a.add n).block = a.block := by unfold Addr.add; split <;> rfl
theorem add_add (a : Addr) (i j : Nat) : (a.add i).add j = a.add (i + j) := by
  unfold Addr.add
  by_cases hi : i = 0 <;> by_cases hj : j = 0 <;> simp [hi, hj, Nat.add_assoc]
theorem ViewR.agree {R : CV → Value → Prop} {R' : CV → Value → Prop} {w w' : World} {φ : Nat → Prop} {α : Type} {enc : α → List CV} {sz : Nat} {v : Value} {xs : List α} (h : ViewR R w φ enc sz v xs) (hg : Agree φ w w')
    (hR : ∀ c u, R c u → R' c u) : ViewR R' w' φ enc sz v xs := by
  obtain ⟨A, c, hv, h1, h2, h3, h4⟩ := h
  refine ⟨A, c, hv, h1, h2, h3, fun a ha i x hx j cv hj => ?_⟩
  obtain ⟨u, hu, hr⟩ := h4 a ha i x hx j cv hj
  have hne : xs ≠ [] := by rintro rfl; simp at hx
  obtain ⟨a', ha', hφ⟩ := h3 hne
  obtain rfl : a = a' := Option.some.inj (ha.symm.trans ha')
  exact ⟨u, (hg.cell (by rw [add_block, add_block]; exact hφ)).trans hu, hR _ _ hr⟩
theorem CVat.agree {w w' : World} {φ : Nat → Prop} (hg : Agree φ w w') : ∀ c u, CVat w φ c u → CVat w' φ c u
  | .i _, _, h => h
  | .b _, _, h => h
  | .sl _ _, _, h => ViewR.agree h hg fun _ _ h => h
theorem View.agree {w w' : World} {φ : Nat → Prop} {k : K} {v : Value} {xs : List k.T} (h : View w φ k v xs) (hg : Agree φ w w') : View w' φ k v xs := ViewR.agree h hg (CVat.agree hg)
theorem Own.agree {w w' : World} {φ : Nat → Prop} {k : K} {e : Nat} {v : Value} {xs : List k.T} (h : Own w φ k e v xs) (hg : Agree φ w w') : Own w' φ k e v xs := by
  obtain ⟨h0, cs, ho, hc⟩ := h
  refine ⟨h0, cs, ⟨ho.1, ?_⟩, fun i x hx j cv hj => ?_⟩
  · rcases ho.2 with h1 | ⟨g, cap, cur, hv, hb, hh, rest⟩
    · exact .inl h1
    · exact .inr ⟨g, cap, cur, hv, hb, (hg g (h0 g (by rw [hv]; rfl))).trans hh, rest⟩
  · obtain ⟨u, hu, hr⟩ := hc i x hx j cv hj
    exact ⟨u, hu, CVat.agree hg _ _ hr⟩
theorem Holds.agree {ρ : Nat → Value} {w w' : World} {φ : Nat → Prop} {hb : HB} {v : Value} (h : Holds ρ w φ hb v) (hg : Agree φ w w') : Holds ρ w' φ hb v := by
  match hb with
  | .dead => trivial
  | .cells o ty l =>
    obtain ⟨g, cs, hv, hφ, hh, hl⟩ := h
    exact ⟨g, cs, hv, hφ, (hg g hφ).trans hh, hl⟩
  | .arr k e true xs => exact Own.agree h hg
  | .arr k e false xs => exact View.agree h hg

/-! ### Anchors of more blocks -/
def SC.ids : SC → Nat → Prop
  | .p id _, x | .el id _ _ _, x | .fs id, x | .s id _ _ _, x => x = id
  | _, _ => False
theorem DenC.anchors {ρ ρ' : Nat → Value} {c : SC} {v : Value} (h : DenC ρ c v) (hρ : ∀ x, c.ids x → ρ' x = ρ x) : DenC ρ' c v := by
  cases c <;> simp only [DenC, SC.ids] at h hρ ⊢ <;> first
    | exact h
    | (rw [hρ _ rfl]; exact h)

/-! ### Symbolic memory as a whole. 'U': the names that are in use. -/
def SC.wf (U : Nat → Prop) (c : SC) : Prop := ∀ x, c.ids x → U x
def SW.wf (U : Nat → Prop) : SW → Prop
  | .c x => x.wf U
  | .g l => ∀ c ∈ l, c.wf U
def SV.wf (U : Nat → Prop) : SV → Prop
  | .w x => x.wf U
  | .t l => ∀ c ∈ l, c.wf U
def HB.wf (U : Nat → Prop) : HB → Prop
  | .cells _ _ l => ∀ c ∈ l, c.wf U
  | _ => True
theorem SC.wf.mono {U U' : Nat → Prop} {c : SC} (h : c.wf U) (hU : ∀ x, U x → U' x) : c.wf U' := fun x hx => hU x (h x hx)
theorem SW.wf.mono {U U' : Nat → Prop} {c : SW} (h : c.wf U) (hU : ∀ x, U x → U' x) : c.wf U' := by
  cases c with
  | c x => exact SC.wf.mono h hU
  | g l => exact fun c hc => (h c hc).mono hU
theorem SV.wf.mono {U U' : Nat → Prop} {c : SV} (h : c.wf U) (hU : ∀ x, U x → U' x) : c.wf U' := by
  cases c with
  | w x => exact SW.wf.mono h hU
  | t l => exact fun c hc => (h c hc).mono hU
theorem HB.wf.mono {U U' : Nat → Prop} {c : HB} (h : c.wf U) (hU : ∀ x, U x → U' x) : c.wf U' := by
  cases c with
  | cells o t l => exact fun c hc => SC.wf.mono (h c hc) hU
  | dead => trivial
  | arr k e o xs => trivial

theorem DenL.anchors {ρ ρ' : Nat → Value} {l : List SC} {vs : Array Value} {U : Nat → Prop} (h : DenL ρ l vs) (hw : ∀ c ∈ l, c.wf U) (hρ : ∀ x, U x → ρ' x = ρ x) : DenL ρ' l vs :=
  ⟨h.1, fun j c hc => by
    obtain ⟨v, hv, hd⟩ := h.2 j c hc
    exact ⟨v, hv, hd.anchors fun x hx => hρ x (hw c (List.mem_of_getElem? hc) x hx)⟩⟩
theorem DenW.anchors {ρ ρ' : Nat → Value} {s : SW} {v : Value} {U : Nat → Prop} (h : DenW ρ s v) (hw : s.wf U) (hρ : ∀ x, U x → ρ' x = ρ x) : DenW ρ' s v := by
  cases s with
  | c x => exact DenC.anchors h fun y hy => hρ y (hw y hy)
  | g l =>
    obtain ⟨vs, hv, hl⟩ := h
    exact ⟨vs, hv, hl.anchors hw hρ⟩
theorem DenV.anchors {ρ ρ' : Nat → Value} {s : SV} {v : Value} {U : Nat → Prop} (h : DenV ρ s v) (hw : s.wf U) (hρ : ∀ x, U x → ρ' x = ρ x) : DenV ρ' s v := by
  cases s with
  | w x => exact DenW.anchors h hw hρ
  | t l =>
    obtain ⟨vs, hv, hs, hl⟩ := h
    refine ⟨vs, hv, hs, fun j c hc => ?_⟩
    obtain ⟨u, hu, hd⟩ := hl j c hc
    exact ⟨u, hu, hd.anchors (hw c (List.mem_of_getElem? hc)) hρ⟩
theorem Holds.anchors {ρ ρ' : Nat → Value} {w : World} {φ : Nat → Prop} {hb : HB} {v : Value} {U : Nat → Prop} (h : Holds ρ w φ hb v) (hw : hb.wf U) (hρ : ∀ x, U x → ρ' x = ρ x) : Holds ρ' w φ hb v := by
  match hb with
  | .dead => trivial
  | .cells o ty l =>
    obtain ⟨g, cs, hv, hφ, hh, hl⟩ := h
    exact ⟨g, cs, hv, hφ, hh, hl.anchors hw hρ⟩
  | .arr k e true xs => exact h
  | .arr k e false xs => exact h

structure Mem (B : Nat) (w0 : World) (ρ : Nat → Value) (φ : Nat → Nat → Prop) (U : Nat → Prop) (H : Nat → HB) (w : World) : Prop where
  base : B ≤ w.heap.size
  below : Below B w0 w
  used : ∀ id, (H id).live = true → U id
  wf : ∀ id, (H id).wf U
  holds : ∀ id, Holds ρ w (φ id) (H id) (ρ id)
  lt : ∀ id, (H id).live = true → ∀ b, φ id b → b < w.heap.size
  low : ∀ id, (H id).own = true → ∀ b, φ id b → B ≤ b
  apart : ∀ id id', id ≠ id' → (H id).own = true → (H id').live = true → ∀ b, φ id b → ¬ φ id' b

theorem HB.live_of_own {hb : HB} (h : hb.own = true) : hb.live = true := by cases hb <;> simp_all [HB.own, HB.live]

def upd {α : Type} (f : Nat → α) (i : Nat) (x : α) : Nat → α := fun j => if j = i then x else f j
theorem upd_same {α : Type} (f : Nat → α) (i : Nat) (x : α) : upd f i x i = x := by simp [upd]
theorem upd_ne {α : Type} (f : Nat → α) {i j : Nat} (x : α) (h : j ≠ i) : upd f i x j = f j := by simp [upd, h]

section
variable {B : Nat} {w0 w w' : World} {ρ : Nat → Value} {φ : Nat → Nat → Prop} {U : Nat → Prop} {H : Nat → HB}

/-- The world goes on; what was there stays. -/
theorem Mem.next (h : Mem B w0 ρ φ U H w) (hb : Below w.heap.size w w') : Mem B w0 ρ φ U H w' where
  base := Nat.le_trans h.base hb.size
  below := h.below.trans ⟨hb.os, hb.tape, hb.output, hb.size, fun k hk => hb.block k (Nat.lt_of_lt_of_le hk h.base)⟩
  used := h.used
  wf := h.wf
  holds := fun id => by
    by_cases hl : (H id).live = true
    · exact (h.holds id).agree fun b hb' => hb.block b (h.lt id hl b hb')
    · have : H id = .dead := by cases hh : H id <;> simp_all [HB.live]
      rw [this]; trivial
  lt := fun id hl b hb' => Nat.lt_of_lt_of_le (h.lt id hl b hb') hb.size
  low := h.low
  apart := h.apart

/-- A block dies. -/
theorem Mem.kill (h : Mem B w0 ρ φ U H w) (x : Nat) : Mem B w0 ρ φ U (upd H x .dead) w where
  base := h.base
  below := h.below
  used := fun id hl => by
    by_cases e : id = x
    · subst e; simp [upd_same, HB.live] at hl
    · rw [upd_ne _ _ e] at hl; exact h.used id hl
  wf := fun id => by
    by_cases e : id = x
    · subst e; rw [upd_same]; trivial
    · rw [upd_ne _ _ e]; exact h.wf id
  holds := fun id => by
    by_cases e : id = x
    · subst e; rw [upd_same]; trivial
    · rw [upd_ne _ _ e]; exact h.holds id
  lt := fun id hl => by
    by_cases e : id = x
    · subst e; simp [upd_same, HB.live] at hl
    · rw [upd_ne _ _ e] at hl; exact h.lt id hl
  low := fun id hl => by
    by_cases e : id = x
    · subst e; simp [upd_same, HB.own] at hl
    · rw [upd_ne _ _ e] at hl; exact h.low id hl
  apart := fun id id' hne hl hl' => by
    by_cases e : id = x
    · subst e; simp [upd_same, HB.own] at hl
    · by_cases e' : id' = x
      · subst e'; simp [upd_same, HB.live] at hl'
      · rw [upd_ne _ _ e] at hl; rw [upd_ne _ _ e'] at hl'; exact h.apart id id' hne hl hl'

/-- A block that is new, or (of the call's own) is another one now; the world has turned in its footprint alone. -/
theorem Mem.put (h : Mem B w0 ρ φ U H w) (x : Nat) (hb : HB) (v : Value) (ψ : Nat → Prop) (hx : U x → ρ x = v)
    (hkeep : ∀ b, b < w.heap.size → ¬ (H x).own = true ∨ ¬ φ x b → w'.heap[b]? = w.heap[b]?) (hos : w'.os = w.os) (htape : w'.tape = w.tape) (hout : w'.output = w.output) (hsize : w.heap.size ≤ w'.heap.size)
    (hw : hb.wf (fun y => U y ∨ y = x)) (hh : Holds (upd ρ x v) w' ψ hb v) (hlt : hb.live = true → ∀ b, ψ b → b < w'.heap.size)
    (hown : ∀ b, ψ b → w.heap.size ≤ b ∨ ((H x).own = true ∧ φ x b) ∨ (hb.own = false ∧ ∃ y, y ≠ x ∧ (H y).live = true ∧ (H y).own = false ∧ φ y b)) :
    Mem B w0 (upd ρ x v) (upd φ x ψ) (fun y => U y ∨ y = x) (upd H x hb) w' where
  base := Nat.le_trans h.base hsize
  below := by
    refine ⟨hos.trans h.below.os, htape.trans h.below.tape, hout.trans h.below.output, Nat.le_trans h.below.size hsize, fun k hk => ?_⟩
    refine (hkeep k (Nat.lt_of_lt_of_le hk h.base) ?_).trans (h.below.block k hk)
    by_cases ho : (H x).own = true
    · exact .inr fun hφ => by have := h.low x ho k hφ; omega
    · exact .inl ho
  used := fun id hl => by
    by_cases e : id = x
    · exact .inr e
    · rw [upd_ne _ _ e] at hl; exact .inl (h.used id hl)
  wf := fun id => by
    by_cases e : id = x
    · subst e; rw [upd_same]; exact hw
    · rw [upd_ne _ _ e]; exact (h.wf id).mono fun _ h => .inl h
  holds := fun id => by
    by_cases e : id = x
    · subst e; rw [upd_same, upd_same, upd_same]; exact hh
    · rw [upd_ne _ _ e, upd_ne _ _ e, upd_ne _ _ e]
      by_cases hl : (H id).live = true
      · refine (Holds.anchors (h.holds id) (h.wf id) fun y hy => ?_).agree fun b hb' => ?_
        · by_cases ey : y = x
          · subst ey; rw [upd_same]; exact (hx hy).symm
          · rw [upd_ne _ _ ey]
        · refine hkeep b (h.lt id hl b hb') ?_
          by_cases ho : (H x).own = true
          · exact .inr fun hφ => h.apart x id (Ne.symm e) ho hl b hφ hb'
          · exact .inl ho
      · have : H id = .dead := by cases hh : H id <;> simp_all [HB.live]
        rw [this]; trivial
  lt := fun id hl b hb' => by
    by_cases e : id = x
    · subst e; rw [upd_same] at hl hb'; exact hlt hl b hb'
    · rw [upd_ne _ _ e] at hl hb'; exact Nat.lt_of_lt_of_le (h.lt id hl b hb') hsize
  low := fun id hl b hb' => by
    by_cases e : id = x
    · subst e
      rw [upd_same] at hl hb'
      rcases hown b hb' with h1 | ⟨h1, h2⟩ | ⟨h1, _⟩
      · exact Nat.le_trans h.base h1
      · exact h.low _ h1 b h2
      · rw [hl] at h1; cases h1
    · rw [upd_ne _ _ e] at hl hb'; exact h.low id hl b hb'
  apart := fun id id' hne hl hl' b hφ hφ' => by
    by_cases e : id = x
    · subst e
      have e' : id' ≠ id := Ne.symm hne
      rw [upd_same] at hl hφ
      rw [upd_ne _ _ e'] at hl' hφ'
      rcases hown b hφ with h1 | ⟨h1, h2⟩ | ⟨h1, _⟩
      · have := h.lt id' hl' b hφ'; omega
      · exact h.apart _ _ hne h1 hl' b h2 hφ'
      · rw [hl] at h1; cases h1
    · rw [upd_ne _ _ e] at hl hφ
      by_cases e' : id' = x
      · subst e'
        rw [upd_same] at hl' hφ'
        have hlt' := h.lt id (HB.live_of_own hl) b hφ
        rcases hown b hφ' with h1 | ⟨h1, h2⟩ | ⟨_, y, hy, hly, hoy, hφy⟩
        · omega
        · exact h.apart _ _ (Ne.symm hne) h1 (HB.live_of_own hl) b h2 hφ
        · by_cases ey : id = y
          · subst ey; rw [hl] at hoy; cases hoy
          · exact h.apart _ _ ey hl hly b hφ hφy
      · rw [upd_ne _ _ e'] at hl' hφ'
        exact h.apart id id' hne hl hl' b hφ hφ'
end
end Go.Eng
