/- The evaluation of one operation is sound: arrays that are read; arrays of the call's own, of elements without slices. -/
import Derived.Test.YtadblcopmoiaaaaESound3
set_option linter.unusedVariables false
set_option linter.unusedSimpArgs false
namespace Go.Eng
open Go Go.RowKit

theorem FK.size_pos (k : FK) : 0 < k.size := by cases k <;> decide
theorem K.size_pos (k : K) : 0 < k.size := by
  cases k with
  | f k => exact k.size_pos
  | route => exact Nat.succ_pos _
  | rows k => exact Nat.succ_pos _
theorem add_zero (a : Addr) : a.add 0 = a := by simp [Addr.add]

/-! ### The cells of elements without slices -/
def flatV (k : FK) (xs : List k.T) : List Value := xs.flatMap fun x => (k.enc x).map cvv
theorem flatV_nil (k : FK) : flatV k [] = [] := rfl
theorem flatV_cons (k : FK) (x : k.T) (xs : List k.T) : flatV k (x :: xs) = (k.enc x).map cvv ++ flatV k xs := rfl
theorem flatV_append (k : FK) (xs ys : List k.T) : flatV k (xs ++ ys) = flatV k xs ++ flatV k ys := by simp [flatV]
theorem flatV_length (k : FK) (xs : List k.T) : (flatV k xs).length = xs.length * k.size := by
  induction xs with
  | nil => simp [flatV]
  | cons x xs ih => rw [flatV_cons, List.length_append, List.length_map, k.enc_length, ih, List.length_cons, Nat.add_mul]; omega
theorem flatV_get (k : FK) (xs : List k.T) (i j : Nat) (x : k.T) (cv : CV) (hx : xs[i]? = some x) (hj : (k.enc x)[j]? = some cv) : (flatV k xs)[i * k.size + j]? = some (cvv cv) := by
  induction xs generalizing i with
  | nil => simp at hx
  | cons y ys ih =>
    have hjl : j < k.size := by rw [← k.enc_length x]; exact (List.getElem?_eq_some_iff.1 hj).1
    rw [flatV_cons]
    cases i with
    | zero =>
      simp at hx; subst hx
      rw [List.getElem?_append_left (by rw [List.length_map, k.enc_length]; omega)]
      simp [hj]
    | succ i =>
      simp at hx
      rw [List.getElem?_append_right (by rw [List.length_map, k.enc_length, Nat.succ_mul]; omega), List.length_map, k.enc_length]
      have : (i + 1) * k.size + j - k.size = i * k.size + j := by rw [Nat.succ_mul]; omega
      rw [this]
      exact ih i hx
theorem flatV_inv (k : FK) (xs : List k.T) (p : Nat) (u : Value) (h : (flatV k xs)[p]? = some u) : ∃ i j x cv, p = i * k.size + j ∧ xs[i]? = some x ∧ (k.enc x)[j]? = some cv ∧ u = cvv cv := by
  have hp := k.size_pos
  have hlt : p < xs.length * k.size := by rw [← flatV_length]; exact (List.getElem?_eq_some_iff.1 h).1
  have hi : p / k.size < xs.length := (Nat.div_lt_iff_lt_mul hp).2 hlt
  have hj : p % k.size < (k.enc xs[p / k.size]).length := by rw [k.enc_length]; exact Nat.mod_lt _ hp
  have e : p = p / k.size * k.size + p % k.size := by rw [Nat.mul_comm]; exact (Nat.div_add_mod p k.size).symm
  refine ⟨p / k.size, p % k.size, xs[p / k.size], (k.enc xs[p / k.size])[p % k.size], e, List.getElem?_eq_getElem hi, List.getElem?_eq_getElem hj, ?_⟩
  have := flatV_get k xs (p / k.size) (p % k.size) _ _ (List.getElem?_eq_getElem hi) (List.getElem?_eq_getElem hj)
  rw [← e, h] at this
  exact Option.some.inj this
def isFlat : CV → Bool
  | .sl _ _ => false
  | _ => true
theorem FK.enc_flat (k : FK) (x : k.T) : ∀ cv ∈ k.enc x, isFlat cv = true := by
  cases k <;> simp [FK.enc, isFlat]
theorem enc_at_flat {k : FK} {x : k.T} {j : Nat} {cv : CV} (h : (k.enc x)[j]? = some cv) : isFlat cv = true := k.enc_flat x cv (List.mem_of_getElem? h)
theorem CVat_flat {w : World} {φ : Nat → Prop} {cv : CV} {u : Value} (h : isFlat cv = true) : CVat w φ cv u ↔ u = cvv cv := by
  cases cv <;> simp_all [CVat, cvv, isFlat]
theorem R0_flat {cv : CV} {u : Value} (h : isFlat cv = true) : R0 cv u ↔ u = cvv cv := by
  cases cv <;> simp_all [R0, cvv, isFlat]
theorem cvv_one (cv : CV) : (cvv cv).oneCell' = true := by cases cv <;> rfl

theorem own_flat {w : World} {φ : Nat → Prop} {k : FK} {e : Nat} {v : Value} {xs : List k.T} : Own w φ (.f k) e v xs ↔ (∀ g, v.ownBlock = some g → φ g) ∧ w.ownsRow 0 e k.size v xs.length (flatV k xs) := by
  constructor
  · rintro ⟨h0, cs, ho, hc⟩
    refine ⟨h0, ?_⟩
    have : cs = flatV k xs := by
      apply List.ext_getElem?
      intro p
      by_cases hp : p < xs.length * k.size
      · have hl : p < (flatV k xs).length := by rw [flatV_length]; exact hp
        obtain ⟨i, j, x, cv, e1, h1, h2, h3⟩ := flatV_inv k xs p _ (List.getElem?_eq_getElem hl)
        obtain ⟨u, hu, hr⟩ := hc i x h1 j cv h2
        rw [CVat_flat (enc_at_flat h2)] at hr
        rw [List.getElem?_eq_getElem hl, h3, e1]
        rw [← hr]; exact hu
      · rw [List.getElem?_eq_none (by rw [ho.1]; show xs.length * k.size ≤ p; omega), List.getElem?_eq_none (by rw [flatV_length]; omega)]
    rw [← this]
    exact ho
  · rintro ⟨h0, ho⟩
    refine ⟨h0, flatV k xs, ho, fun i x hx j cv hj => ⟨cvv cv, flatV_get k xs i j x cv hx hj, (CVat_flat (enc_at_flat hj)).2 rfl⟩⟩

theorem Own.view {w : World} {φ : Nat → Prop} {k : K} {e : Nat} {v : Value} {xs : List k.T} (h : Own w φ k e v xs) : View w φ k v xs := by
  obtain ⟨h0, cs, ho, hc⟩ := h
  rcases ho.2 with ⟨rfl, hn⟩ | ⟨g, cap, cur, rfl, _, hh, h1, h2, h3, h4⟩
  · have : xs = [] := List.eq_nil_of_length_eq_zero hn
    subst this
    exact ⟨none, 0, rfl, by simp, by decide, fun h => absurd rfl h, fun a ha => by cases ha⟩
  · refine ⟨_, cap, rfl, h1, h2, fun _ => ⟨_, rfl, h0 g rfl⟩, fun a ha i x hx j cv hj => ?_⟩
    injection ha with ha
    subst ha
    obtain ⟨u, hu, hr⟩ := hc i x hx j cv hj
    refine ⟨u, ?_, hr⟩
    rw [plain_addr, plain_addr, cell_of_row w g _ cur e (0, 0) hh]
    rw [← h4, List.getElem?_take] at hu
    split at hu
    · simpa using hu
    · cases hu

section
variable {P : Program} {T : Tab} {B : Nat} {w0 w : World} {ρ : Nat → Value} {φ : Nat → Nat → Prop} {U : Nat → Prop} {H : Nat → HB} {n : Nat}

theorem mem_view {id e : Nat} {k : K} {own : Bool} {xs : List k.T} (hm : Mem B w0 ρ φ U H w) (h : H id = .arr k e own xs) : View w (φ id) k (ρ id) xs := by
  have := hm.holds id
  rw [h] at this
  cases own with
  | true => exact Own.view this
  | false => exact this
theorem mem_own {id e : Nat} {k : FK} {xs : List k.T} (hm : Mem B w0 ρ φ U H w) (h : H id = .arr (.f k) e true xs) : (∀ g, (ρ id).ownBlock = some g → φ id g) ∧ w.ownsRow 0 e k.size (ρ id) xs.length (flatV k xs) := by
  have := hm.holds id
  rw [h] at this
  exact own_flat.1 this
theorem el_run {t e : Nat} {k : K} {z : SC} (hT : TabOk P T) (ht : look T t = some (.sc (some (k, e)) z)) : ∃ i zv, P.underlying t = some (.slice e) ∧ P.info? e = some i ∧ i.size = k.size ∧ i.bytes ≤ k.byt ∧ i.zero = some zv ∧ all2 cvz (k.enc k.zero) zv.cells.toList = true := by
  obtain ⟨i, d, v, hi, hs, hu, hp, hz, hsz, hk, hel⟩ := td_sc hT ht
  obtain ⟨rfl, h⟩ := hel k e rfl
  unfold elChk at h
  split at h
  · rename_i i' hi'
    simp only [Bool.and_eq_true, decide_eq_true_eq] at h
    obtain ⟨⟨h1, h2⟩, h3⟩ := h
    split at h3
    · rename_i zv hzv
      exact ⟨i', zv, hu, hi', h1, h2, hzv, h3⟩
    · cases h3
  · cases h

/-- The address of an element. -/
theorem el_addr {id ix sz off e : Nat} {k : K} {own : Bool} {xs : List k.T} {v : Value} (hm : Mem B w0 ρ φ U H w) (h : H id = .arr k e own xs) (hd : DenV ρ (.w (.c (.el id ix sz off))) v) :
    ∃ a : Addr, v = .pointer (some ((a.add (ix * sz)).add off)) ∧ ∀ x, xs[ix]? = some x → φ id a.block ∧ (sz = k.size → ∀ (j : Nat) cv, (k.enc x)[j]? = some cv → ∃ u, w.cell? ((a.add (ix * sz)).add j) = some u ∧ CVat w (φ id) cv u) := by
  obtain ⟨a, n', c, hρ, hv⟩ := hd
  obtain ⟨A, c', hv', h1, h2, h3, h4⟩ := mem_view hm h
  rw [hρ] at hv'
  injection hv' with hA hn hc
  subst hA
  refine ⟨a, hv, fun x hx => ⟨?_, ?_⟩⟩
  · obtain ⟨a', ha', hφ⟩ := h3 (by rintro rfl; simp at hx)
    injection ha' with ha'
    subst ha'
    exact hφ
  · rintro rfl j cv hj
    exact h4 a rfl ix x hx j cv hj
theorem getD_at {k : K} {xs : List k.T} {ix : Nat} (h : ix < xs.length) : xs[ix]? = some (xs.getD ix k.zero) := by
  rw [List.getD_eq_getElem?_getD, List.getElem?_eq_getElem h]; rfl
theorem nth_at {α : Type} {d : α} {l : List α} {j : Nat} (h : j < l.length) : l[j]? = some (nth d l j) := by
  rw [nth_eq, List.getD_eq_getElem?_getD, List.getElem?_eq_getElem h]; rfl

theorem load_el_sc {t id ix sz off e : Nat} {k : K} {own : Bool} {xs : List k.T} {kk : Option (K × Nat)} {z : SC} {x : Operand} {ev : Operand → Value} (hT : TabOk P T) (ht : look T t = some (.sc kk z)) (hm : Mem B w0 ρ φ U H w) (hH : H id = .arr k e own xs)
    (hd : DenV ρ (.w (.c (.el id ix sz off))) (ev x)) (ho : off < k.size) (hs : sz = k.size) (hi : ix < xs.length) (dst) (tt) (pos) (af) (gd) :
    ∃ u, (execOp ev ⟨dst, .load t x, tt, pos, af, gd⟩).run P w = .ok (.value u) w ∧ CVat w (φ id) (nth (.i 0) (k.enc (xs.getD ix k.zero)) off) u := by
  obtain ⟨i, d, v, hi', hs', hu, hp, _⟩ := td_sc hT ht
  obtain ⟨a, hv, h1⟩ := el_addr hm hH hd
  obtain ⟨u, hcell, hr⟩ := (h1 _ (getD_at hi)).2 hs off _ (nth_at (d := .i 0) (by rw [k.enc_length]; exact ho))
  refine ⟨u, ?_, hr⟩
  simp [execOp, hv, Instr.loadAt, Instr.sureAddr, loadVar, run_isAgg_sc hu hp, hcell]
theorem fine_load_el_i {t id ix sz off e : Nat} {k : K} {own : Bool} {xs : List k.T} {kk : Option (K × Nat)} {z : SC} {x : Operand} {m : Int} {ev : Operand → Value} (hT : TabOk P T) (ht : look T t = some (.sc kk z)) (hm : Mem B w0 ρ φ U H w) (hH : H id = .arr k e own xs)
    (hd : DenV ρ (.w (.c (.el id ix sz off))) (ev x)) (ho : off < k.size) (hs : sz = k.size) (hi : ix < xs.length) (hc : nth (.i 0) (k.enc (xs.getD ix k.zero)) off = .i m) (dst) (tt) (pos) (af) (gd) :
    Fine B w0 ρ U H ((execOp ev ⟨dst, .load t x, tt, pos, af, gd⟩).run P w) (.w (.c (.i m))) [] n n := by
  obtain ⟨u, hr, hv⟩ := load_el_sc hT ht hm hH hd ho hs hi dst tt pos af gd
  rw [hc] at hv
  exact fine_same hm hr hv (fun _ h => h.elim)
theorem fine_load_el_b {t id ix sz off e : Nat} {k : K} {own : Bool} {xs : List k.T} {kk : Option (K × Nat)} {z : SC} {x : Operand} {m : Bool} {ev : Operand → Value} (hT : TabOk P T) (ht : look T t = some (.sc kk z)) (hm : Mem B w0 ρ φ U H w) (hH : H id = .arr k e own xs)
    (hd : DenV ρ (.w (.c (.el id ix sz off))) (ev x)) (ho : off < k.size) (hs : sz = k.size) (hi : ix < xs.length) (hc : nth (.i 0) (k.enc (xs.getD ix k.zero)) off = .b m) (dst) (tt) (pos) (af) (gd) :
    Fine B w0 ρ U H ((execOp ev ⟨dst, .load t x, tt, pos, af, gd⟩).run P w) (.w (.c (.b m))) [] n n := by
  obtain ⟨u, hr, hv⟩ := load_el_sc hT ht hm hH hd ho hs hi dst tt pos af gd
  rw [hc] at hv
  exact fine_same hm hr hv (fun _ h => h.elim)

/-- A new name for a slice that lies in something that is read. -/
theorem mem_newview {id x e : Nat} {k : K} {xs : List k.T} {fk : FK} {ys : List fk.T} {u : Value} (hm : Mem B w0 ρ φ U H w) (hH : H id = .arr k e false xs) (hx : ¬ U x) (hu : CVat w (φ id) (.sl fk ys) u) :
    Mem B w0 (upd ρ x u) (upd φ x (φ id)) (fun y => U y ∨ y = x) (upd H x (.arr (.f fk) 0 false ys)) w := by
  have hlive : (H id).live = true := by rw [hH]; rfl
  have hne : id ≠ x := by rintro rfl; exact hx (hm.used _ hlive)
  refine hm.put x _ u (φ id) (fun h => absurd h hx) (fun _ _ _ => rfl) rfl rfl rfl (Nat.le_refl _) trivial ?_ (fun _ b hb => hm.lt id hlive b hb) (fun b hb => .inr (.inr ⟨rfl, id, hne, hlive, by rw [hH]; rfl, hb⟩))
  exact ViewR.agree hu (fun _ _ => rfl) (fun c v hr => by
    cases c with
    | i n => exact hr
    | b n => exact hr
    | sl k y => exact hr.elim)
theorem mem_slice {w : World} {φ : Nat → Prop} {fk : FK} {ys : List fk.T} {u : Value} (hu : CVat w φ (.sl fk ys) u) : ∃ A n c, u = .slice A n c := by
  obtain ⟨A, c, h, _⟩ := hu
  exact ⟨_, _, _, h⟩
theorem fine_load_el_sl {t id ix sz off e : Nat} {k : K} {xs : List k.T} {kk : Option (K × Nat)} {z : SC} {x : Operand} {fk : FK} {ys : List fk.T} {ev : Operand → Value} (hT : TabOk P T) (ht : look T t = some (.sc kk z)) (hm : Mem B w0 ρ φ U H w) (hH : H id = .arr k e false xs)
    (hn : ¬ U n) (hd : DenV ρ (.w (.c (.el id ix sz off))) (ev x)) (ho : off < k.size) (hs : sz = k.size) (hi : ix < xs.length) (hc : nth (.i 0) (k.enc (xs.getD ix k.zero)) off = .sl fk ys) (dst) (tt) (pos) (af) (gd) :
    Fine B w0 ρ U H ((execOp ev ⟨dst, .load t x, tt, pos, af, gd⟩).run P w) (.w (.c (.fs n))) [(n, .arr (.f fk) 0 false ys)] n (n + 1) := by
  obtain ⟨u, hr, hv⟩ := load_el_sc hT ht hm hH hd ho hs hi dst tt pos af gd
  rw [hc] at hv
  refine ⟨u, w, _, _, .inl hr, (mem_newview hm hH hn hv).mono fun y hy => ?_, fun y hy => upd_ne _ _ (by rintro rfl; exact hn hy), ⟨(upd_same _ _ _).symm, mem_slice hv⟩, fun y hy => ?_⟩
  · rcases hy with hy | rfl
    · exact .inl hy
    · exact .inr ⟨Nat.le_refl _, Nat.lt_succ_self _⟩
  · simp only [SC.ids] at hy
    subst hy
    exact .inr ⟨Nat.le_refl _, Nat.lt_succ_self _⟩

/-- Cells of an element, all of them. -/
theorem cells_fine {id e : Nat} {k : K} {own : Bool} {xs : List k.T} (w : World) : ∀ (l : List CV) (vs : List Value) (ρ : Nat → Value) (φ : Nat → Nat → Prop) (U : Nat → Prop) (H : Nat → HB) (n : Nat), Mem B w0 ρ φ U H w → H id = .arr k e own xs → (own = false ∨ (cells l n).2.1 = []) →
    (∀ x, n ≤ x → x < (cells l n).2.2 → ¬ U x) → vs.length = l.length → (∀ (j : Nat) cv, l[j]? = some cv → ∃ u, vs[j]? = some u ∧ CVat w (φ id) cv u) →
    ∃ ρ' φ', Mem B w0 ρ' φ' (U' U n (cells l n).2.2) (applyD H (cells l n).2.1) w ∧ (∀ x, U x → ρ' x = ρ x) ∧ DenL ρ' (cells l n).1 vs.toArray ∧ (∀ c ∈ (cells l n).1, c.wf (U' U n (cells l n).2.2)) ∧ n ≤ (cells l n).2.2
  | [], vs, ρ, φ, U, H, n, hm, hH, hown, hU, hl, hv => by
    have : vs = [] := List.eq_nil_of_length_eq_zero hl
    subst this
    exact ⟨ρ, φ, hm.mono fun _ h => .inl h, fun _ _ => rfl, ⟨rfl, fun j c hc => by simp [cells] at hc⟩, fun c hc => by simp [cells] at hc, Nat.le_refl _⟩
  | cv :: l, [], ρ, φ, U, H, n, hm, hH, hown, hU, hl, hv => by simp at hl
  | cv :: l, v :: vs, ρ, φ, U, H, n, hm, hH, hown, hU, hl, hv => by
    have hl' : vs.length = l.length := by simpa using hl
    have hv' : ∀ (j : Nat) c, l[j]? = some c → ∃ u, vs[j]? = some u ∧ CVat w (φ id) c u := fun j c hc => by
      have := hv (j + 1) c (by simpa using hc)
      simpa using this
    obtain ⟨u, hu, hcv⟩ := hv 0 cv rfl
    have : v = u := by simpa using hu
    subst this
    have join : ∀ (sc : SC) (ρ' : Nat → Value) (r : List SC), DenC ρ' sc v → DenL ρ' r vs.toArray → DenL ρ' (sc :: r) (v :: vs).toArray := by
      intro sc ρ' r hs hr
      refine ⟨by have := hr.1; simpa using this, fun j c hc => ?_⟩
      cases j with
      | zero => simp at hc; subst hc; exact ⟨v, by simp, hs⟩
      | succ j =>
        simp at hc
        obtain ⟨q, hq, hd⟩ := hr.2 j c hc
        exact ⟨q, by simpa using hq, hd⟩
    cases cv with
    | i m =>
      have ih := cells_fine w l vs ρ φ U H n hm hH (by simpa [cells] using hown) (by simpa [cells] using hU) hl' hv'
      obtain ⟨ρ', φ', h1, h2, h3, h4, h5⟩ := ih
      refine ⟨ρ', φ', by simpa [cells] using h1, h2, by simpa [cells] using join (.i m) ρ' _ hcv h3, ?_, by simpa [cells] using h5⟩
      intro c hc
      simp only [cells, List.mem_cons] at hc ⊢
      rcases hc with rfl | hc
      · exact fun _ h => h.elim
      · exact h4 c hc
    | b m =>
      have ih := cells_fine w l vs ρ φ U H n hm hH (by simpa [cells] using hown) (by simpa [cells] using hU) hl' hv'
      obtain ⟨ρ', φ', h1, h2, h3, h4, h5⟩ := ih
      refine ⟨ρ', φ', by simpa [cells] using h1, h2, by simpa [cells] using join (.b m) ρ' _ hcv h3, ?_, by simpa [cells] using h5⟩
      intro c hc
      simp only [cells, List.mem_cons] at hc ⊢
      rcases hc with rfl | hc
      · exact fun _ h => h.elim
      · exact h4 c hc
    | sl fk ys =>
      have ho : own = false := by
        rcases hown with h | h
        · exact h
        · simp [cells] at h
      subst ho
      have hlive : (H id).live = true := by rw [hH]; rfl
      have hmono : ∀ (l : List CV) (n : Nat), n ≤ (cells l n).2.2 := by
        intro l
        induction l with
        | nil => intro n; exact Nat.le_refl _
        | cons c l ih => intro n; cases c <;> simp only [cells] <;> first | exact ih n | exact Nat.le_trans (Nat.le_succ n) (ih (n + 1))
      have hn : ¬ U n := hU n (Nat.le_refl _) (by simp only [cells]; exact Nat.lt_of_lt_of_le (Nat.lt_succ_self n) (hmono l (n + 1)))
      have hne : id ≠ n := by rintro rfl; exact hn (hm.used _ hlive)
      have hm1 := mem_newview hm hH hn hcv
      have ih := cells_fine w l vs _ _ _ _ (n + 1) hm1 (by rw [upd_ne _ _ hne]; exact hH) (.inl rfl) (fun x h1 h2 hx => by
          rcases hx with hx | rfl
          · exact hU x (by omega) (by simpa [cells] using h2) hx
          · omega) hl' (fun j c hc => by
          obtain ⟨u, hu, hr⟩ := hv' j c hc
          rw [upd_ne _ _ hne]
          exact ⟨u, hu, hr⟩)
      obtain ⟨ρ', φ', h1, h2, h3, h4, h5⟩ := ih
      have hU'' : ∀ x, U' (fun y => U y ∨ y = n) (n + 1) (cells l (n + 1)).2.2 x → U' U n (cells l (n + 1)).2.2 x := by
        rintro x ((hx | rfl) | ⟨a, b⟩)
        · exact .inl hx
        · exact .inr ⟨Nat.le_refl _, by omega⟩
        · exact .inr ⟨by omega, b⟩
      refine ⟨ρ', φ', by simpa [cells, applyD] using h1.mono hU'', fun x hx => (h2 x (.inl hx)).trans (upd_ne _ _ (by rintro rfl; exact hn hx)), ?_, ?_, ?_⟩
      · have : DenC ρ' (.fs n) v := ⟨by rw [h2 n (.inr rfl), upd_same], mem_slice hcv⟩
        simpa [cells] using join (.fs n) ρ' _ this h3
      · intro c hc
        simp only [cells, List.mem_cons] at hc ⊢
        rcases hc with rfl | hc
        · intro x hx
          simp only [SC.ids] at hx
          subst hx
          exact .inr ⟨Nat.le_refl _, Nat.lt_of_succ_le h5⟩
        · exact (h4 c hc).mono hU''
      · simp only [cells]; exact Nat.le_of_succ_le h5
theorem fine_load_el_st {t id ix sz off e m : Nat} {k : K} {own : Bool} {xs : List k.T} {fs : List FD} {z : List SC} {eq : Bool} {x : Operand} {l : List SC} {d : List (Nat × HB)} {n' : Nat} {ev : Operand → Value} (hT : TabOk P T) (ht : look T t = some (.st m fs z eq)) (hm : Mem B w0 ρ φ U H w)
    (hH : H id = .arr k e own xs) (hd : DenV ρ (.w (.c (.el id ix sz off))) (ev x)) (ho : off + m ≤ k.size) (hs : sz = k.size) (hi : ix < xs.length) (hc : cells (tk m (dr off (k.enc (xs.getD ix k.zero)))) n = (l, d, n')) (hown : own = false ∨ d = []) (hU : ∀ x, n ≤ x → x < n' → ¬ U x) (dst) (tt) (pos) (af) (gd) :
    Fine B w0 ρ U H ((execOp ev ⟨dst, .load t x, tt, pos, af, gd⟩).run P w) (.w (.g l)) d n n' := by
  obtain ⟨i, F, v, hi', hu, hs', _⟩ := td_st hT ht
  obtain ⟨a, hv, h1⟩ := el_addr hm hH hd
  have hcell := (h1 _ (getD_at hi)).2 hs
  have hlen := k.enc_length (xs.getD ix k.zero)
  -- the values
  have hvals : ∃ vs : List Value, vs.length = m ∧ (∀ (j : Nat) u, vs[j]? = some u → w.cell? (((a.add (ix * sz)).add off).add j) = some u) ∧ ∀ (j : Nat) cv, (tk m (dr off (k.enc (xs.getD ix k.zero))))[j]? = some cv → ∃ u, vs[j]? = some u ∧ CVat w (φ id) cv u := by
    have key : ∀ j, j < m → ∃ cv u, (k.enc (xs.getD ix k.zero))[off + j]? = some cv ∧ w.cell? (((a.add (ix * sz)).add off).add j) = some u ∧ CVat w (φ id) cv u := by
      intro j hj
      have hlt : off + j < (k.enc (xs.getD ix k.zero)).length := by rw [hlen]; omega
      obtain ⟨u, hu, hr⟩ := hcell (off + j) _ (List.getElem?_eq_getElem hlt)
      exact ⟨_, u, List.getElem?_eq_getElem hlt, by rw [add_add]; exact hu, hr⟩
    refine ⟨(List.range m).map fun j => (w.cell? (((a.add (ix * sz)).add off).add j)).getD undef, by simp, fun j u hu => ?_, fun j cv hcv => ?_⟩
    · simp only [List.getElem?_map] at hu
      by_cases hj : j < m
      · obtain ⟨cv, u', h2, h3, h4⟩ := key j hj
        rw [List.getElem?_range hj] at hu
        simp only [Option.map_some, h3, Option.getD_some, Option.some.injEq] at hu
        rw [h3, hu]
      · rw [List.getElem?_eq_none (by simp; omega)] at hu
        cases hu
    · rw [tk_eq, dr_eq, List.getElem?_take] at hcv
      split at hcv
      · rename_i hj
        rw [List.getElem?_drop] at hcv
        obtain ⟨cv', u', h2, h3, h4⟩ := key j hj
        rw [h2] at hcv
        injection hcv with hcv
        subst hcv
        refine ⟨u', ?_, h4⟩
        simp only [List.getElem?_map, List.getElem?_range hj, Option.map_some, h3, Option.getD_some]
      · cases hcv
  obtain ⟨vs, hvl, hvc, hvv⟩ := hvals
  have hrun := run_loadCells_list (P := P) w ((a.add (ix * sz)).add off) vs hvc
  rw [hvl] at hrun
  have hlen2 : vs.length = (tk m (dr off (k.enc (xs.getD ix k.zero)))).length := by rw [tk_eq, dr_eq, List.length_take, List.length_drop, hlen]; omega
  have hf := cells_fine (B := B) (w0 := w0) w (tk m (dr off (k.enc (xs.getD ix k.zero)))) vs ρ φ U H n hm hH (by rw [hc]; exact hown) (by rw [hc]; exact hU) hlen2 hvv
  rw [hc] at hf
  obtain ⟨ρ', φ', g1, g2, g3, g4, _⟩ := hf
  refine ⟨.agg vs.toArray, w, ρ', φ', .inl ?_, g1, g2, ⟨_, rfl, g3⟩, g4⟩
  simp [execOp, hv, Instr.loadAt, Instr.sureAddr, loadVar, run_isAgg_st hu, run_sizeOf' hi', hs', hrun]
end
end Go.Eng
