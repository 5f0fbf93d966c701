/- The evaluation of one operation is sound: reading and writing variables of structs, records, numbers. -/
import Derived.Test.YtadblcopmoiaaaaESound
set_option linter.unusedVariables false
set_option linter.unusedSimpArgs false
namespace Go.Eng
open Go Go.RowKit

theorem tk_eq {α : Type} (n : Nat) (l : List α) : tk n l = l.take n := by
  induction n generalizing l with
  | zero => cases l <;> rfl
  | succ n ih => cases l <;> simp [tk_nil, tk_succ, ih]
theorem dr_eq {α : Type} (n : Nat) (l : List α) : dr n l = l.drop n := by
  induction n generalizing l with
  | zero => cases l <;> rfl
  | succ n ih => cases l <;> simp [dr_nil, dr_succ, ih]
theorem splice_eq {α : Type} (l : List α) (off : Nat) (xs : List α) : splice l off xs = l.take off ++ (xs ++ l.drop (off + xs.length)) := by
  simp [splice, app_eq, tk_eq, dr_eq, len_eq]
theorem splice_length {α : Type} {l : List α} {off : Nat} {xs : List α} (h : off + xs.length ≤ l.length) : (splice l off xs).length = l.length := by
  rw [splice_eq]; simp; omega
theorem splice_get {α : Type} {l : List α} {off : Nat} {xs : List α} (h : off + xs.length ≤ l.length) (j : Nat) :
    (splice l off xs)[j]? = if off ≤ j ∧ j < off + xs.length then xs[j - off]? else l[j]? := by
  rw [splice_eq]
  by_cases h1 : j < off
  · rw [List.getElem?_append_left (by simp; omega), if_neg (by omega), List.getElem?_take, if_pos h1]
  · rw [List.getElem?_append_right (by simp; omega)]
    have : (l.take off).length = off := by simp; omega
    rw [this]
    by_cases h2 : j < off + xs.length
    · rw [if_pos (by omega), List.getElem?_append_left (by omega)]
    · rw [if_neg (by omega), List.getElem?_append_right (by omega), List.getElem?_drop]
      congr 1; omega

section
variable {P : Program} {T : Tab} {B : Nat} {w0 w : World} {ρ : Nat → Value} {φ : Nat → Nat → Prop} {U : Nat → Prop} {H : Nat → HB} {n : Nat}

theorem DenL.take_drop {ρ : Nat → Value} {l : List SC} {vs : Array Value} {off m : Nat} (h : DenL ρ l vs) (hl : off + m ≤ l.length) : DenL ρ (tk m (dr off l)) (vs.extract off (off + m)) := by
  have hs := h.1
  refine ⟨by simp [tk_eq, dr_eq]; omega, fun j c hc => ?_⟩
  rw [tk_eq, dr_eq, List.getElem?_take] at hc
  split at hc
  · rw [List.getElem?_drop] at hc
    obtain ⟨v, hv, hd⟩ := h.2 _ c hc
    refine ⟨v, ?_, hd⟩
    rw [Array.getElem?_extract]
    rw [if_pos (by omega)]
    exact hv
  · cases hc

/-- The cells of a variable. -/
theorem mem_cells {id ty : Nat} {l : List SC} {o : Bool} (hm : Mem B w0 ρ φ U H w) (h : H id = .cells o ty l) : ∃ g cs, ρ id = .pointer (some ⟨g, 0, none⟩) ∧ φ id g ∧ w.heap[g]? = some (.cells cs ty (0, 0)) ∧ DenL ρ l cs := by
  have := hm.holds id
  rw [h] at this
  exact this
theorem den_p {id off g : Nat} {v : Value} (h : DenV ρ (.w (.c (.p id off))) v) (hg : ρ id = .pointer (some ⟨g, 0, none⟩)) : v = .pointer (some ⟨g, off, none⟩) := by
  obtain ⟨g', h1, h2⟩ := h
  rw [hg] at h1
  injection h1 with h1
  injection h1 with h1
  injection h1 with h1
  subst h1
  exact h2
theorem wf_cells {id ty : Nat} {l : List SC} {o : Bool} (hm : Mem B w0 ρ φ U H w) (h : H id = .cells o ty l) : ∀ c ∈ l, c.wf U := by
  have := hm.wf id
  rw [h] at this
  exact this
theorem nth_mem {l : List SC} {off : Nat} (h : off < l.length) : nth .u l off ∈ l := by
  rw [nth_eq, List.getD_eq_getElem?_getD, List.getElem?_eq_getElem h]
  exact List.getElem_mem h

theorem plain_addr (g i j : Nat) : (⟨g, i, none⟩ : Addr).add j = ⟨g, i + j, none⟩ := by unfold Addr.add; split <;> simp_all

theorem fine_load_sc {o : Bool} {t id off ty : Nat} {l : List SC} {k : Option (K × Nat)} {z : SC} {x : Operand} {ev : Operand → Value} (hT : TabOk P T) (ht : look T t = some (.sc k z)) (hm : Mem B w0 ρ φ U H w) (hH : H id = .cells o ty l) (ho : off < l.length)
    (hd : DenV ρ (.w (.c (.p id off))) (ev x)) (dst) (tt) (pos) (af) (gd) : Fine B w0 ρ U H ((execOp ev ⟨dst, .load t x, tt, pos, af, gd⟩).run P w) (.w (.c (nth .u l off))) [] n n := by
  obtain ⟨g, cs, hg, hφ, hh, hl⟩ := mem_cells hm hH
  obtain ⟨i, d, v, hi, hs, hu, hp, _⟩ := td_sc hT ht
  have hv := den_p hd hg
  have hc : l[off]? = some (nth .u l off) := by rw [nth_eq, List.getD_eq_getElem?_getD, List.getElem?_eq_getElem ho]; rfl
  obtain ⟨u, hu', hdu⟩ := hl.2 off _ hc
  refine fine_same hm (u := u) ?_ hdu (wf_cells hm hH _ (nth_mem ho))
  have hcell : w.cell? ⟨g, off, none⟩ = some u := by rw [cell_of_row w g off cs ty (0, 0) hh]; exact hu'
  simp [execOp, hv, Instr.loadAt, Instr.sureAddr, loadVar, run_isAgg_sc hu hp, hcell]
theorem fine_load_st {o : Bool} {t id off ty m : Nat} {l : List SC} {fs : List FD} {z : List SC} {eq : Bool} {x : Operand} {ev : Operand → Value} (hT : TabOk P T) (ht : look T t = some (.st m fs z eq)) (hm : Mem B w0 ρ φ U H w) (hH : H id = .cells o ty l) (ho : off + m ≤ l.length)
    (hd : DenV ρ (.w (.c (.p id off))) (ev x)) (dst) (tt) (pos) (af) (gd) : Fine B w0 ρ U H ((execOp ev ⟨dst, .load t x, tt, pos, af, gd⟩).run P w) (.w (.g (tk m (dr off l)))) [] n n := by
  obtain ⟨g, cs, hg, hφ, hh, hl⟩ := mem_cells hm hH
  obtain ⟨i, F, v, hi, hu, hs, _⟩ := td_st hT ht
  have hv := den_p hd hg
  have hsz := hl.1
  have hrun : (loadCells (⟨g, off, none⟩ : Addr) m).run P w = .ok (cs.extract off (off + m)) w := by
    have := run_loadCells_list (P := P) w ⟨g, off, none⟩ (cs.extract off (off + m)).toList (fun j v hj => by
      rw [plain_addr, cell_of_row w g _ cs ty (0, 0) hh]
      rw [Array.getElem?_toList, Array.getElem?_extract] at hj
      split at hj
      · exact hj
      · cases hj)
    have hlen : (cs.extract off (off + m)).toList.length = m := by simp; omega
    rw [hlen, Array.toArray_toList] at this
    exact this
  refine fine_same hm (u := .agg (cs.extract off (off + m))) ?_ ⟨_, rfl, hl.take_drop ho⟩ ?_
  · simp [execOp, hv, Instr.loadAt, Instr.sureAddr, loadVar, run_isAgg_st hu, run_sizeOf' hi, hs, hrun]
  · intro c hc
    rw [tk_eq, dr_eq] at hc
    exact wf_cells hm hH c (List.mem_of_mem_drop (List.mem_of_mem_take hc))

/-- Cells are written into a variable. -/
theorem fine_store {t id off ty : Nat} {l l' : List SC} {x y : Operand} {ev : Operand → Value} {i : TypeInfo} (hi : P.info? t = some i) (hs : i.size = l'.length) (hm : Mem B w0 ρ φ U H w) (hH : H id = .cells true ty l) (ho : off + l'.length ≤ l.length)
    (hd : DenV ρ (.w (.c (.p id off))) (ev x)) (hy : DenL ρ l' (ev y).cells) (hk : known l' = true) (hw : ∀ c ∈ l', c.wf U) (dst) (tt) (pos) (af) (gd) :
    Fine B w0 ρ U H ((execOp ev ⟨dst, .store t x y, tt, pos, af, gd⟩).run P w) .u [(id, .cells true ty (splice l off l'))] n n := by
  obtain ⟨g, cs, hg, hφ, hh, hl⟩ := mem_cells hm hH
  have hv := den_p hd hg
  have hsz := hl.1
  have hsz' := hy.1
  have hrun := run_storeCells_at P g off ty (ev y).cells.toList 0 cs w hh (by simp; omega) (hy.one hk)
  have hlive : (H id).live = true := by rw [hH]; rfl
  have hown : (H id).own = true := by rw [hH]; rfl
  have hU := hm.used id hlive
  have hp := hm.put (w' := w.setRow g (cs.toList.take (off + 0) ++ (ev y).cells.toList ++ cs.toList.drop (off + 0 + (ev y).cells.toList.length)).toArray) id (.cells true ty (splice l off l')) (ρ id) (φ id) (fun _ => rfl)
    (fun b hb h => by
      rcases h with h | h
      · exact absurd hown h
      · exact setRow_other _ _ _ _ (by rintro rfl; exact h hφ))
    rfl rfl rfl (by simp)
    (fun c hc => by
      rw [splice_eq] at hc
      simp only [List.mem_append] at hc
      rcases hc with hc | hc | hc
      · exact (wf_cells hm hH c (List.mem_of_mem_take hc)).mono fun _ h => .inl h
      · exact (hw c hc).mono fun _ h => .inl h
      · exact (wf_cells hm hH c (List.mem_of_mem_drop hc)).mono fun _ h => .inl h)
    ⟨g, _, hg, hφ, setRow_heap w g cs _ ty (0, 0) hh, by
      have e : upd ρ id (ρ id) = ρ := by funext z; unfold upd; split <;> simp_all
      rw [e]
      refine ⟨by rw [splice_length ho]; simp; omega, fun j c hc => ?_⟩
      rw [splice_get ho] at hc
      simp only [Nat.add_zero, List.getElem?_toArray, Array.length_toList]
      by_cases h : off ≤ j ∧ j < off + l'.length
      · rw [if_pos h] at hc
        obtain ⟨u, hu, hdu⟩ := hy.2 _ c hc
        refine ⟨u, ?_, hdu⟩
        rw [List.append_assoc, List.getElem?_append_right (by simp; omega)]
        rw [List.getElem?_append_left (by simp; omega)]
        have : j - (List.take off cs.toList).length = j - off := by simp; omega
        rw [this, Array.getElem?_toList]
        exact hu
      · rw [if_neg h] at hc
        obtain ⟨u, hu, hdu⟩ := hl.2 _ c hc
        refine ⟨u, ?_, hdu⟩
        rw [List.append_assoc]
        by_cases h1 : j < off
        · rw [List.getElem?_append_left (by simp; omega), List.getElem?_take, if_pos h1, Array.getElem?_toList]
          exact hu
        · rw [List.getElem?_append_right (by simp; omega), List.getElem?_append_right (by simp; omega), List.getElem?_drop]
          have : off + (ev y).cells.size + (j - (List.take off cs.toList).length - (ev y).cells.toList.length) = j := by simp; omega
          rw [this, Array.getElem?_toList]
          exact hu⟩
    (fun _ b hb => by simp only [setRow_size]; exact hm.lt id hlive b hb)
    (fun b hb => .inr (.inl ⟨hown, hb⟩))
  refine ⟨undef, _, _, _, .inr ⟨?_, rfl⟩, hp.mono fun x hx => ?_, fun x hx => ?_, trivial, fun x hx => hx.elim⟩
  · have hne : ¬ (ev y).cells.size ≠ i.size := by omega
    simp only [execOp, hv, Instr.storeAt, Instr.sureAddr, storeVar]
    simp [run_sizeOf' hi, hs, hsz', hrun]
  · rcases hx with hx | rfl
    · exact .inl hx
    · exact .inl hU
  · by_cases e : x = id
    · subst e; rw [upd_same]
    · rw [upd_ne _ _ e]

/-! ### Records, numbers -/
theorem st_fd {t m : Nat} {fs : List FD} {z : List SC} {eq : Bool} (hT : TabOk P T) (ht : look T t = some (.st m fs z eq)) {f : Nat} (hf : f < fs.length) : ∃ F fl i d, P.underlying t = some (.struct F) ∧ F[f]? = some fl ∧ fl.offset = (nth ⟨0, 0, false, 0⟩ fs f).off ∧
    fl.type = (nth ⟨0, 0, false, 0⟩ fs f).ty ∧ P.info? fl.type = some i ∧ i.size = (nth ⟨0, 0, false, 0⟩ fs f).size ∧ 0 < i.size ∧ P.underlying fl.type = some d ∧ (!plainD d) = (nth ⟨0, 0, false, 0⟩ fs f).agg := by
  obtain ⟨i, F, v, hi, hu, hs, _, _, _, hfd, _⟩ := td_st hT ht
  have hg : fs[f]? = some (nth ⟨0, 0, false, 0⟩ fs f) := by rw [nth_eq, List.getD_eq_getElem?_getD, List.getElem?_eq_getElem hf]; rfl
  obtain ⟨fl, hfl, hc⟩ := all2_get hfd f _ hg
  unfold fdChk at hc
  split at hc
  · rename_i i' d' hi' hd'
    simp only [Bool.and_eq_true, decide_eq_true_eq] at hc
    obtain ⟨⟨⟨⟨⟨h1, h2⟩, h3⟩, h4⟩, h5⟩, _⟩ := hc
    exact ⟨F, fl, i', d', hu, by simpa using hfl, h1, h2, hi', h3, by omega, hd', eq_of_beq h5⟩
  · cases hc
theorem fine_fieldAddr_p {t m f id o : Nat} {fs : List FD} {z : List SC} {eq : Bool} {x : Operand} {ev : Operand → Value} (hT : TabOk P T) (ht : look T t = some (.st m fs z eq)) (hf : f < fs.length) (hm : Mem B w0 ρ φ U H w)
    (hd : DenV ρ (.w (.c (.p id o))) (ev x)) (hw : U id) (dst) (tt) (pos) (af) (gd) :
    Fine B w0 ρ U H ((execOp ev ⟨dst, .fieldAddr t x f, tt, pos, af, gd⟩).run P w) (.w (.c (.p id (o + (nth ⟨0, 0, false, 0⟩ fs f).off)))) [] n n := by
  obtain ⟨F, fl, i, d, hu, hfl, h1, h2, hi, h3, h4, _⟩ := st_fd hT ht hf
  obtain ⟨g, hg, hv⟩ := hd
  refine fine_same hm (u := .pointer (some ⟨g, o + (nth ⟨0, 0, false, 0⟩ fs f).off, none⟩)) ?_ ⟨g, hg, rfl⟩ (fun y hy => by simp only [SC.ids] at hy; subst hy; exact hw)
  have hne : i.size ≠ 0 := by omega
  simp [execOp, Instr.fieldAt, run_underlying hu, hfl, hv, Instr.sureAddr, fieldPlace, run_sizeOf' hi, hne, h1, plain_addr]
theorem fine_fieldAddr_el {t m f id ix sz o : Nat} {fs : List FD} {z : List SC} {eq : Bool} {x : Operand} {ev : Operand → Value} (hT : TabOk P T) (ht : look T t = some (.st m fs z eq)) (hf : f < fs.length) (hm : Mem B w0 ρ φ U H w)
    (hd : DenV ρ (.w (.c (.el id ix sz o))) (ev x)) (hw : U id) (dst) (tt) (pos) (af) (gd) :
    Fine B w0 ρ U H ((execOp ev ⟨dst, .fieldAddr t x f, tt, pos, af, gd⟩).run P w) (.w (.c (.el id ix sz (o + (nth ⟨0, 0, false, 0⟩ fs f).off)))) [] n n := by
  obtain ⟨F, fl, i, d, hu, hfl, h1, h2, hi, h3, h4, _⟩ := st_fd hT ht hf
  obtain ⟨a, n', c, hg, hv⟩ := hd
  refine fine_same hm (u := .pointer (some ((a.add (ix * sz)).add (o + (nth ⟨0, 0, false, 0⟩ fs f).off)))) ?_ ⟨a, n', c, hg, rfl⟩ (fun y hy => by simp only [SC.ids] at hy; subst hy; exact hw)
  have hne : i.size ≠ 0 := by omega
  simp [execOp, Instr.fieldAt, run_underlying hu, hfl, hv, Instr.sureAddr, fieldPlace, run_sizeOf' hi, hne, h1, add_add, Nat.add_assoc]
theorem fine_field {t m f : Nat} {fs : List FD} {z : List SC} {eq : Bool} {x : Operand} {l : List SC} {ev : Operand → Value} (hT : TabOk P T) (ht : look T t = some (.st m fs z eq)) (hf : f < fs.length) (hl : l.length = m) (ho : (nth ⟨0, 0, false, 0⟩ fs f).off + (nth ⟨0, 0, false, 0⟩ fs f).size ≤ m) (hm : Mem B w0 ρ φ U H w)
    (hd : DenV ρ (.w (.g l)) (ev x)) (hw : ∀ c ∈ l, c.wf U) (dst) (tt) (pos) (af) (gd) :
    Fine B w0 ρ U H ((execOp ev ⟨dst, .field t x f, tt, pos, af, gd⟩).run P w) (.w (match (nth ⟨0, 0, false, 0⟩ fs f).agg with | true => .g (tk (nth ⟨0, 0, false, 0⟩ fs f).size (dr (nth ⟨0, 0, false, 0⟩ fs f).off l)) | false => .c (nth .u l (nth ⟨0, 0, false, 0⟩ fs f).off))) [] n n := by
  obtain ⟨F, fl, i, d, hu, hfl, h1, h2, hi, h3, h4, hd', hag⟩ := st_fd hT ht hf
  generalize (nth ⟨0, 0, false, 0⟩ fs f) = fd at *
  obtain ⟨vs, hv, hdl⟩ := hd
  cases hg : fd.agg with
  | true =>
    have hst : (isAgg fl.type).run P w = .ok true w := by
      unfold isAgg
      simp only [Sem.run_bind, run_underlying hd', Result.andThen_ok]
      rw [hg] at hag
      cases d <;> simp_all [plainD]
    refine fine_same hm (u := .agg (vs.extract fd.off (fd.off + fd.size))) ?_ ⟨_, rfl, hdl.take_drop (by omega)⟩ ?_
    · simp [execOp, Instr.field, run_underlying hu, hfl, hv, Go.part, asAgg, hst, run_sizeOf' hi, h1, h3]
    · intro c hc
      rw [tk_eq, dr_eq] at hc
      exact hw c (List.mem_of_mem_drop (List.mem_of_mem_take hc))
  | false =>
    have hst : (isAgg fl.type).run P w = .ok false w := run_isAgg_sc hd' (by simpa [hg] using hag) w
    have hlt : fd.off < l.length := by omega
    have hc : l[fd.off]? = some (nth .u l fd.off) := by rw [nth_eq, List.getD_eq_getElem?_getD, List.getElem?_eq_getElem hlt]; rfl
    obtain ⟨u, hu', hdu⟩ := hdl.2 _ _ hc
    refine fine_same hm (u := u) ?_ hdu (hw _ (nth_mem hlt))
    simp [execOp, Instr.field, run_underlying hu, hfl, hv, Go.part, asAgg, hst, h1, hu']
theorem fine_extract {j : Nat} {x : Operand} {l : List SW} {ev : Operand → Value} (hj : j < l.length) (hm : Mem B w0 ρ φ U H w) (hd : DenV ρ (.t l) (ev x)) (hw : ∀ c ∈ l, c.wf U) (dst) (tt) (pos) (af) (gd) :
    Fine B w0 ρ U H ((execOp ev ⟨dst, .extract x j, tt, pos, af, gd⟩).run P w) (.w (nth (.c .u) l j)) [] n n := by
  obtain ⟨vs, hv, hs, hl⟩ := hd
  have hc : l[j]? = some (nth (.c .u) l j) := by rw [nth_eq, List.getD_eq_getElem?_getD, List.getElem?_eq_getElem hj]; rfl
  obtain ⟨u, hu, hdu⟩ := hl j _ hc
  refine fine_same hm (u := u) ?_ hdu (hw _ (List.mem_of_getElem? hc))
  simp [execOp, Instr.extract, hv, hu]
theorem fine_arith {op : BinOp} {t yt : Nat} {x y : Operand} {a b : Int} {c : SC} {p : Option Prop} {ev : Operand → Value} (h : arith op a b = some (c, p)) (hp : holdsO p) (hm : Mem B w0 ρ φ U H w)
    (hx : DenV ρ (.w (.c (.i a))) (ev x)) (hy : DenV ρ (.w (.c (.i b))) (ev y)) (dst) (tt) (pos) (af) (gd) :
    Fine B w0 ρ U H ((execOp ev ⟨dst, .binOp op t x y yt, tt, pos, af, gd⟩).run P w) (.w (.c c)) [] n n := by
  have hx := den_i hx
  have hy := den_i hy
  unfold arith at h
  split at h <;> first
    | (cases h; done)
    | (injection h with h
       injection h with h1 h2
       subst h1
       subst h2
       refine fine_same hm ?_ rfl (fun _ hx => hx.elim)
       first
         | (have hp' : b ≠ 0 := hp
            simp [execOp, eqGuard, hx, hy, binOp, Op.intArith, Op.intCmp, Op.intDiv, wrap, hp']; done)
         | (simp [execOp, eqGuard, hx, hy, binOp, Op.intArith, Op.intCmp, Op.intDiv, wrap]; done)
         | (simp [execOp, eqGuard, hx, hy, binOp, Op.intArith, Op.intCmp, Op.intDiv, wrap]; rfl))
theorem fine_not {t : Nat} {x : Operand} {a : Bool} {ev : Operand → Value} (hm : Mem B w0 ρ φ U H w) (hx : DenV ρ (.w (.c (.b a))) (ev x)) (dst) (tt) (pos) (af) (gd) :
    Fine B w0 ρ U H ((execOp ev ⟨dst, .unOp .not t x, tt, pos, af, gd⟩).run P w) (.w (.c (.b (!a)))) [] n n := by
  refine fine_same hm ?_ rfl (fun _ hx => hx.elim)
  simp [execOp, den_b hx, Op.unary]
theorem fine_not_l {t : Nat} {x : Operand} {a : Bool} {ev : Operand → Value} (hm : Mem B w0 ρ φ U H w) (hx : DenV ρ (.w (.c (.l a))) (ev x)) (dst) (tt) (pos) (af) (gd) :
    Fine B w0 ρ U H ((execOp ev ⟨dst, .unOp .not t x, tt, pos, af, gd⟩).run P w) (.w (.c (.l (!a)))) [] n n := by
  refine fine_same hm ?_ rfl (fun _ hx => hx.elim)
  simp [execOp, den_l hx, Op.unary]
theorem fine_neg {t : Nat} {x : Operand} {a : Int} {ev : Operand → Value} (hm : Mem B w0 ρ φ U H w) (hx : DenV ρ (.w (.c (.i a))) (ev x)) (dst) (tt) (pos) (af) (gd) :
    Fine B w0 ρ U H ((execOp ev ⟨dst, .unOp .neg t x, tt, pos, af, gd⟩).run P w) (.w (.c (.i (wrap (-a))))) [] n n := by
  refine fine_same hm ?_ rfl (fun _ hx => hx.elim)
  simp [execOp, den_i hx, Op.unary, Op.intArith, wrap]
end
end Go.Eng
