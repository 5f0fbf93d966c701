/- The evaluation of one operation is sound: indexes, cuts, lengths; arrays of the call's own, written. -/
import Derived.Test.YtadblcopmoiaaaaESound4
set_option linter.unusedVariables false
set_option linter.unusedSimpArgs false
namespace Go.Eng
open Go Go.RowKit

section
variable {P : Program} {T : Tab} {B : Nat} {w0 w : World} {ρ : Nat → Value} {φ : Nat → Nat → Prop} {U : Nat → Prop} {H : Nat → HB} {n : Nat}

theorem wf_fs {id : Nat} (h : U id) : (SV.w (.c (.fs id))).wf U := fun x hx => by simp only [SC.ids] at hx; subst hx; exact h
theorem used_arr {id e : Nat} {k : K} {own : Bool} {xs : List k.T} (hm : Mem B w0 ρ φ U H w) (h : H id = .arr k e own xs) : U id := hm.used id (by rw [h]; rfl)

theorem fine_len_fs {id e t ty : Nat} {k k' : K} {e' : Nat} {own : Bool} {xs : List k.T} {z : SC} {x : Operand} {ev : Operand → Value} (hT : TabOk P T) (ht : look T t = some (.sc (some (k', e')) z)) (hm : Mem B w0 ρ φ U H w) (hH : H id = .arr k e own xs) (hd : DenV ρ (.w (.c (.fs id))) (ev x)) (dst) (tt) (pos) (af) (gd) :
    Fine B w0 ρ U H ((execOp ev ⟨dst, .call ⟨.builtin .len, #[x], #[t]⟩, tt, pos, af, gd⟩).run P w) (.w (.c (.i (xs.length : Int)))) [] n n := by
  obtain ⟨i, zv, hu, _⟩ := el_run hT ht
  obtain ⟨A, c, hv, h1, h2, h3, h4⟩ := mem_view hm hH
  have hv' : ev x = .slice A xs.length c := hd.1.trans hv
  refine fine_same hm (u := .int .i64 (xs.length : Int)) ?_ rfl (fun _ h => h.elim)
  simp [execOp, resolve, invoke, builtin, Builtin.len_, hv', run_underlying hu]
  rfl
theorem fine_len_s {id lo m sz t ty : Nat} {k' : K} {e' : Nat} {z : SC} {x : Operand} {ev : Operand → Value} (hT : TabOk P T) (ht : look T t = some (.sc (some (k', e')) z)) (hm : Mem B w0 ρ φ U H w) (hd : DenV ρ (.w (.c (.s id lo m sz))) (ev x)) (dst) (tt) (pos) (af) (gd) :
    Fine B w0 ρ U H ((execOp ev ⟨dst, .call ⟨.builtin .len, #[x], #[t]⟩, tt, pos, af, gd⟩).run P w) (.w (.c (.i (m : Int)))) [] n n := by
  obtain ⟨i, zv, hu, _⟩ := el_run hT ht
  obtain ⟨A, n0, c0, A', c', _, hv', _⟩ := hd
  refine fine_same hm (u := .int .i64 (m : Int)) ?_ rfl (fun _ h => h.elim)
  simp [execOp, resolve, invoke, builtin, Builtin.len_, hv', run_underlying hu]
  rfl
theorem fine_len_nil {t ty : Nat} {k' : K} {e' : Nat} {z : SC} {x : Operand} {ev : Operand → Value} (hT : TabOk P T) (ht : look T t = some (.sc (some (k', e')) z)) (hm : Mem B w0 ρ φ U H w) (hd : DenV ρ (.w (.c .nls)) (ev x)) (dst) (tt) (pos) (af) (gd) :
    Fine B w0 ρ U H ((execOp ev ⟨dst, .call ⟨.builtin .len, #[x], #[t]⟩, tt, pos, af, gd⟩).run P w) (.w (.c (.i 0))) [] n n := by
  obtain ⟨i, zv, hu, _⟩ := el_run hT ht
  have hv' : ev x = .slice none 0 0 := hd
  refine fine_same hm (u := .int .i64 0) ?_ rfl (fun _ h => h.elim)
  simp [execOp, resolve, invoke, builtin, Builtin.len_, hv', run_underlying hu]
  rfl

theorem fine_index_fs {id e t : Nat} {k k' : K} {e' : Nat} {own : Bool} {xs : List k.T} {z : SC} {x y : Operand} {j : Int} {ev : Operand → Value} (hT : TabOk P T) (ht : look T t = some (.sc (some (k', e')) z)) (hk : k' = k) (hm : Mem B w0 ρ φ U H w) (hH : H id = .arr k e own xs)
    (hd : DenV ρ (.w (.c (.fs id))) (ev x)) (hy : DenV ρ (.w (.c (.i j))) (ev y)) (hj : 0 ≤ j ∧ j < (xs.length : Int)) (dst) (tt) (pos) (af) (gd) :
    Fine B w0 ρ U H ((execOp ev ⟨dst, .indexAddr t x y, tt, pos, af, gd⟩).run P w) (.w (.c (.el id j.toNat k.size 0))) [] n n := by
  subst hk
  obtain ⟨i, zv, hu, hi, hs, _⟩ := el_run hT ht
  obtain ⟨A, c, hv, h1, h2, h3, h4⟩ := mem_view hm hH
  have hv' : ev x = .slice A xs.length c := hd.1.trans hv
  have hne : xs ≠ [] := by rintro rfl; simp at hj; omega
  obtain ⟨a, rfl, _⟩ := h3 hne
  refine fine_same hm (u := .pointer (some (a.add (j.toNat * k'.size)))) ?_ ⟨a, xs.length, c, hv, by rw [add_zero]⟩ (fun q hq => by simp only [SC.ids] at hq; subst hq; exact used_arr hm hH)
  simp [execOp, Instr.indexAt, hv', den_i hy, asIntOf, run_underlying hu, run_sizeOf' hi, hs, hj]
theorem fine_index_s {id e t lo m sz : Nat} {k k' : K} {e' : Nat} {own : Bool} {xs : List k.T} {z : SC} {x y : Operand} {j : Int} {ev : Operand → Value} (hT : TabOk P T) (ht : look T t = some (.sc (some (k', e')) z)) (hk : k' = k) (hm : Mem B w0 ρ φ U H w) (hH : H id = .arr k e own xs) (hsz : sz = k.size)
    (hd : DenV ρ (.w (.c (.s id lo m sz))) (ev x)) (hy : DenV ρ (.w (.c (.i j))) (ev y)) (hj : 0 ≤ j ∧ j < (m : Int)) (dst) (tt) (pos) (af) (gd) :
    Fine B w0 ρ U H ((execOp ev ⟨dst, .indexAddr t x y, tt, pos, af, gd⟩).run P w) (.w (.c (.el id (lo + j.toNat) sz 0))) [] n n := by
  subst hk
  obtain ⟨i, zv, hu, hi, hs, _⟩ := el_run hT ht
  obtain ⟨A, n0, c0, A', c', hρ, hv', _, _, h5⟩ := hd
  obtain ⟨a, rfl, rfl⟩ := h5 (by omega)
  refine fine_same hm (u := .pointer (some ((a.add (lo * sz)).add (j.toNat * k'.size)))) ?_ ⟨a, n0, c0, hρ, by rw [add_zero, add_add, hsz, Nat.add_mul]⟩ (fun q hq => by simp only [SC.ids] at hq; subst hq; exact used_arr hm hH)
  simp [execOp, Instr.indexAt, hv', den_i hy, asIntOf, run_underlying hu, run_sizeOf' hi, hs, hj]

theorem bound_run {e : Env} {d : Int} {o : Option Operand} {r : Int} {ev' : Operand → Value} (hev : ∀ x, DenV ρ (ev e x) (ev' x)) (h : bound e d o = some r) : (o = none ∧ r = d) ∨ ∃ x, o = some x ∧ ev' x = .int .i64 r := by
  cases o with
  | none => injection h with h; exact .inl ⟨rfl, h.symm⟩
  | some x =>
    simp only [bound] at h
    have hx := hev x
    split at h
    · rename_i n hn
      injection h with h
      subst h
      rw [hn] at hx
      exact .inr ⟨x, rfl, hx⟩
    · cases h
theorem run_bounds {len cap : Nat} {lo hi : Option Operand} {e : Env} {l h : Int} {ev' : Operand → Value} (hev : ∀ x, DenV ρ (ev e x) (ev' x)) (hl : bound e 0 lo = some l) (hh : bound e (len : Int) hi = some h) (h0 : 0 ≤ l) (h1 : l ≤ h) (h2 : h ≤ (len : Int)) (hc : len ≤ cap) :
    (Instr.sliceBounds true len cap (lo.map ev') (hi.map ev') none).run P w = .ok (l.toNat, h.toNat, cap) w := by
  have e1 : (h ≤ (cap : Int)) := by omega
  rcases bound_run hev hl with ⟨rfl, rfl⟩ | ⟨x, rfl, hx⟩ <;> rcases bound_run hev hh with ⟨rfl, rfl⟩ | ⟨y, rfl, hy⟩
  · simp [Instr.sliceBounds]
  · have h3 : 0 ≤ h := by omega
    simp [Instr.sliceBounds, Instr.sliceBound, hy, asIntOf, h3, e1]
  · simp [Instr.sliceBounds, Instr.sliceBound, hx, asIntOf, h0, h1]
  · have h3 : 0 ≤ h := by omega
    have h4 : l ≤ max h 0 := by omega
    simp [Instr.sliceBounds, Instr.sliceBound, hx, hy, asIntOf, h0, h1, h3, e1, h4]

theorem fine_slice_fs {id e t : Nat} {k k' : K} {e' : Nat} {own : Bool} {xs : List k.T} {z : SC} {x : Operand} {lo hi : Option Operand} {en : Env} {l h : Int} {ev' : Operand → Value} (hT : TabOk P T) (ht : look T t = some (.sc (some (k', e')) z)) (hk : k' = k) (hm : Mem B w0 ρ φ U H w) (hH : H id = .arr k e own xs)
    (hev : ∀ x, DenV ρ (ev en x) (ev' x)) (hd : DenV ρ (.w (.c (.fs id))) (ev' x)) (hl : bound en 0 lo = some l) (hh : bound en (xs.length : Int) hi = some h) (hj : 0 ≤ l ∧ l ≤ h ∧ h ≤ (xs.length : Int)) (dst) (tt) (pos) (af) (gd) :
    Fine B w0 ρ U H ((execOp ev' ⟨dst, .slice t x lo hi none, tt, pos, af, gd⟩).run P w) (.w (.c (.s id l.toNat (h.toNat - l.toNat) k.size))) [] n n := by
  subst hk
  obtain ⟨i, zv, hu, hi', hs, _⟩ := el_run hT ht
  obtain ⟨A, c, hv, h1, h2, h3, h4⟩ := mem_view hm hH
  have hv' : ev' x = .slice A xs.length c := hd.1.trans hv
  obtain ⟨g0, g1, g2⟩ := hj
  have hb := run_bounds (P := P) (w := w) (cap := c) hev hl hh g0 g1 g2 h1
  refine fine_same hm (u := .slice (if c = l.toNat then A else A.map (·.add (l.toNat * k'.size))) (h.toNat - l.toNat) (c - l.toNat)) ?_ ⟨A, _, c, _, _, hv, rfl, by omega, by omega, fun hp => ?_⟩ (fun q hq => by simp only [SC.ids] at hq; subst hq; exact used_arr hm hH)
  · simp [execOp, Instr.sliceAt, Instr.slice, hv', run_underlying hu, hb, run_sizeOf' hi', hs]
  · have hne : xs ≠ [] := by rintro rfl; simp at g2; omega
    obtain ⟨a, rfl, _⟩ := h3 hne
    refine ⟨a, rfl, ?_⟩
    rw [if_neg (by omega)]
    rfl
theorem fine_slice_s {id e t lo0 m sz : Nat} {k k' : K} {e' : Nat} {own : Bool} {xs : List k.T} {z : SC} {x : Operand} {lo hi : Option Operand} {en : Env} {l h : Int} {ev' : Operand → Value} (hT : TabOk P T) (ht : look T t = some (.sc (some (k', e')) z)) (hk : k' = k) (hm : Mem B w0 ρ φ U H w) (hH : H id = .arr k e own xs) (hsz : sz = k.size)
    (hev : ∀ x, DenV ρ (ev en x) (ev' x)) (hd : DenV ρ (.w (.c (.s id lo0 m sz))) (ev' x)) (hl : bound en 0 lo = some l) (hh : bound en (m : Int) hi = some h) (hj : 0 ≤ l ∧ l ≤ h ∧ h ≤ (m : Int)) (dst) (tt) (pos) (af) (gd) :
    Fine B w0 ρ U H ((execOp ev' ⟨dst, .slice t x lo hi none, tt, pos, af, gd⟩).run P w) (.w (.c (.s id (lo0 + l.toNat) (h.toNat - l.toNat) sz))) [] n n := by
  subst hk
  subst hsz
  obtain ⟨i, zv, hu, hi', hs, _⟩ := el_run hT ht
  obtain ⟨A, n0, c0, A', c', hρ, hv', h1, h2, h5⟩ := hd
  obtain ⟨g0, g1, g2⟩ := hj
  have hb := run_bounds (P := P) (w := w) (cap := c') hev hl hh g0 g1 g2 h1
  refine fine_same hm (u := .slice (if c' = l.toNat then A' else A'.map (·.add (l.toNat * k'.size))) (h.toNat - l.toNat) (c' - l.toNat)) ?_ ⟨A, n0, c0, _, _, hρ, rfl, by omega, by omega, fun hp => ?_⟩ (fun q hq => by simp only [SC.ids] at hq; subst hq; exact used_arr hm hH)
  · simp [execOp, Instr.sliceAt, Instr.slice, hv', run_underlying hu, hb, run_sizeOf' hi', hs]
  · obtain ⟨a, rfl, rfl⟩ := h5 (by omega)
    refine ⟨a, rfl, ?_⟩
    rw [if_neg (by omega)]
    simp only [Option.map_some, add_add, Nat.add_mul]

/-! ### Arrays of the call's own -/
/-- An own array is another one now; the world has turned in its block alone, or has a new one. -/
theorem fine_put {id x e : Nat} {k : FK} {ys : List k.T} {w' : World} {v : Value} (hm : Mem B w0 ρ φ U H w) (hx : ¬ U x) (hH : ∀ g, v.ownBlock = some g → w.heap.size ≤ g ∨ ((H id).own = true ∧ φ id g)) (hid : (H id).own = true ∨ H id = .dead) (hne : id ≠ x)
    (hkeep : ∀ b, b < w.heap.size → ¬ (H id).own = true ∨ ¬ φ id b → w'.heap[b]? = w.heap[b]?) (hos : w'.os = w.os) (htape : w'.tape = w.tape) (hout : w'.output = w.output) (hsize : w.heap.size ≤ w'.heap.size)
    (hown : w'.ownsRow 0 e k.size v ys.length (flatV k ys)) :
    ∃ ρ' φ', Mem B w0 ρ' φ' (fun y => U y ∨ y = x) (upd (upd H id .dead) x (.arr (.f k) e true ys)) w' ∧ (∀ y, U y → ρ' y = ρ y) ∧ ρ' x = v := by
  -- first the array itself, under the old name, then the new name
  have hHx : (H x).live = false := by
    cases hh : (H x).live
    · rfl
    · exact absurd (hm.used x hh) hx
  let ψ : Nat → Prop := fun g => v.ownBlock = some g
  have hblk : ∀ g, v.ownBlock = some g → g < w'.heap.size := by
    intro g hg
    rcases hown.2 with ⟨rfl, _⟩ | ⟨g', cap, cur, rfl, _, hh, _⟩
    · cases hg
    · have : g' = g := by simpa [Value.ownBlock] using hg
      subst this
      exact (Array.getElem?_eq_some_iff.1 hh).1
  refine ⟨upd ρ x v, upd φ x ψ, ?_, fun y hy => upd_ne _ _ (by rintro rfl; exact hx hy), upd_same _ _ _⟩
  refine ⟨Nat.le_trans hm.base hsize, ?_, fun z hz => ?_, fun z => ?_, fun z => ?_, fun z hz b hb => ?_, fun z hz b hb => ?_, fun z z' hzz hz hz' b hb hb' => ?_⟩
  · refine ⟨hos.trans hm.below.os, htape.trans hm.below.tape, hout.trans hm.below.output, Nat.le_trans hm.below.size hsize, fun q hq => ?_⟩
    refine (hkeep q (Nat.lt_of_lt_of_le hq hm.base) ?_).trans (hm.below.block q hq)
    by_cases ho : (H id).own = true
    · exact .inr fun hφ => by have := hm.low id ho q hφ; omega
    · exact .inl ho
  · by_cases e1 : z = x
    · exact .inr e1
    · rw [upd_ne _ _ e1] at hz
      by_cases e2 : z = id
      · subst e2; simp [upd_same, HB.live] at hz
      · rw [upd_ne _ _ e2] at hz; exact .inl (hm.used z hz)
  · by_cases e1 : z = x
    · subst e1; rw [upd_same]; trivial
    · rw [upd_ne _ _ e1]
      by_cases e2 : z = id
      · subst e2; rw [upd_same]; trivial
      · rw [upd_ne _ _ e2]; exact (hm.wf z).mono fun _ h => .inl h
  · by_cases e1 : z = x
    · subst e1
      rw [upd_same, upd_same, upd_same]
      exact own_flat.2 ⟨fun g hg => hg, hown⟩
    · rw [upd_ne _ _ e1, upd_ne _ _ e1, upd_ne _ _ e1]
      by_cases e2 : z = id
      · subst e2; rw [upd_same]; trivial
      · rw [upd_ne _ _ e2]
        by_cases hl : (H z).live = true
        · refine (Holds.anchors (hm.holds z) (hm.wf z) fun y hy => upd_ne _ _ (by rintro rfl; exact hx hy)).agree fun b hb => ?_
          refine hkeep b (hm.lt z hl b hb) ?_
          by_cases ho : (H id).own = true
          · exact .inr fun hφ => hm.apart id z (Ne.symm e2) ho hl b hφ hb
          · exact .inl ho
        · have : H z = .dead := by cases hh : H z <;> simp_all [HB.live]
          rw [this]; trivial
  · by_cases e1 : z = x
    · subst e1; rw [upd_same] at hb; exact hblk b hb
    · rw [upd_ne _ _ e1] at hz hb
      by_cases e2 : z = id
      · subst e2; simp [upd_same, HB.live] at hz
      · rw [upd_ne _ _ e2] at hz; exact Nat.lt_of_lt_of_le (hm.lt z hz b hb) hsize
  · by_cases e1 : z = x
    · subst e1
      rw [upd_same] at hb
      rcases hH b hb with h | ⟨h1, h2⟩
      · exact Nat.le_trans hm.base h
      · exact hm.low id h1 b h2
    · rw [upd_ne _ _ e1] at hz hb
      by_cases e2 : z = id
      · subst e2; simp [upd_same, HB.own] at hz
      · rw [upd_ne _ _ e2] at hz; exact hm.low z hz b hb
  · have far : ∀ z, z ≠ x → z ≠ id → (H z).live = true → ∀ b, v.ownBlock = some b → ¬ φ z b := by
      intro z _ e2 hl b hb hφ
      rcases hH b hb with h | ⟨h1, h2⟩
      · have := hm.lt z hl b hφ; omega
      · exact hm.apart id z (Ne.symm e2) h1 hl b h2 hφ
    by_cases e1 : z = x
    · subst e1
      rw [upd_same] at hb
      rw [upd_ne _ _ (Ne.symm hzz)] at hz' hb'
      by_cases e2 : z' = id
      · subst e2; simp [upd_same, HB.live] at hz'
      · rw [upd_ne _ _ e2] at hz'
        exact far z' (Ne.symm hzz) e2 hz' b hb hb'
    · rw [upd_ne _ _ e1] at hz hb
      by_cases e2 : z = id
      · subst e2; simp [upd_same, HB.own] at hz
      · rw [upd_ne _ _ e2] at hz
        by_cases e3 : z' = x
        · subst e3
          rw [upd_same] at hb'
          exact far z e1 e2 (HB.live_of_own hz) b hb' hb
        · rw [upd_ne _ _ e3] at hz' hb'
          by_cases e4 : z' = id
          · subst e4; simp [upd_same, HB.live] at hz'
          · rw [upd_ne _ _ e4] at hz'
            exact hm.apart z z' hzz hz hz' b hb hb'
end
end Go.Eng
