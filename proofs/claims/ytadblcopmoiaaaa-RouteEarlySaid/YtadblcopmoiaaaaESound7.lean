/- The evaluation of one operation is sound: all of it. -/
import Derived.Test.YtadblcopmoiaaaaESound6
import Derived.WalkArith
set_option linter.unusedVariables false
set_option linter.unusedSimpArgs false
namespace Go.Eng
open Go Go.RowKit

section
variable {P : Program} {T : Tab} {B : Nat} {w0 w : World} {ρ : Nat → Value} {φ : Nat → Nat → Prop} {U : Nat → Prop} {H : Nat → HB} {n : Nat}

theorem elems_fill {fk : FK} {e : Env} {ev' : Operand → Value} (hev : ∀ x, DenV ρ (ev e x) (ev' x)) : ∀ (ps : List (Nat × Operand)) (j : Nat) (ys : List fk.T) (cs : Array Value), elems fk e j ps = some ys → (j + ps.length) * fk.size ≤ cs.size →
    ys.length = ps.length ∧ ∃ cs', Instr.fill (fun i => some (i * fk.size, fk.size)) cs (ps.map fun p => (p.1, ev' p.2)) = some cs' ∧ cs'.size = cs.size ∧
      ∀ (p : Nat), cs'[p]? = if j * fk.size ≤ p ∧ p < (j + ps.length) * fk.size then (flatV fk ys)[p - j * fk.size]? else cs[p]?
  | [], j, ys, cs, h, hsz => by
    injection h with h
    subst h
    refine ⟨rfl, cs, rfl, rfl, fun p => ?_⟩
    rw [if_neg (by simp)]
  | (i, x) :: ps, j, ys, cs, h, hsz => by
    unfold elems at h
    have hx := hev x
    split at h
    · rename_i hij
      subst hij
      split at h
      · rename_i s hs
        rw [hs] at hx
        split at h
        · rename_i cvs hcv
          split at h
          · rename_i y ys' hdec hrest
            injection h with h
            subst h
            have hcs := cvsOf_W hcv hx
            have henc := fk.dec_enc hdec
            have hlen : cvs.length = fk.size := by rw [← henc, fk.enc_length]
            have hvl : (ev' x).cells.size = fk.size := by
              rw [← Array.length_toList, hcs.1, List.length_map, hlen]
            have e0 : (i + ((i, x) :: ps).length) * fk.size = i * fk.size + fk.size + ps.length * fk.size := by
              simp only [List.length_cons]
              rw [show i + (ps.length + 1) = i + 1 + ps.length by omega, Nat.add_mul, Nat.succ_mul]
            obtain ⟨f1, f2⟩ := foldl_set (i * fk.size) (ev' x).cells.toList 0 cs
            have e1 : (ev' x).cells.zipIdx.foldl (fun cs (c, j) => cs.setIfInBounds (i * fk.size + j) c) cs = (((ev' x).cells.toList.zipIdx 0).foldl (fun (cs : Array Value) (p : Value × Nat) => cs.setIfInBounds (i * fk.size + p.2) p.1) cs) := by
              rw [← Array.foldl_toList, Array.toList_zipIdx]
            have ih := elems_fill hev ps (i + 1) ys' ((ev' x).cells.zipIdx.foldl (fun cs (c, j) => cs.setIfInBounds (i * fk.size + j) c) cs) hrest (by
              rw [e1, f1]
              have : (i + 1 + ps.length) * fk.size = i * fk.size + fk.size + ps.length * fk.size := by rw [Nat.add_mul, Nat.succ_mul]
              omega)
            obtain ⟨h1, cs', h2, h3, h4⟩ := ih
            refine ⟨by simp [h1], cs', ?_, by rw [h3, e1, f1], fun p => ?_⟩
            · have hb : ¬ ((ev' x).cells.size ≠ fk.size ∨ i * fk.size + (ev' x).cells.size > cs.size) := by omega
              have e2 : ((ev' x).cells.size ≠ fk.size || i * fk.size + (ev' x).cells.size > cs.size) = false := by
                simp
                omega
              simp only [List.map_cons, Instr.fill]
              rw [if_neg (by rw [e2]; simp)]
              exact h2
            · rw [h4 p]
              have e3 : (i + 1) * fk.size = i * fk.size + fk.size := Nat.succ_mul _ _
              have e4 : (i + 1 + ps.length) * fk.size = i * fk.size + fk.size + ps.length * fk.size := by rw [Nat.add_mul, Nat.succ_mul]
              have hel : ((fk.enc y).map cvv).length = fk.size := by rw [List.length_map, fk.enc_length]
              rw [e0]
              by_cases c1 : (i + 1) * fk.size ≤ p ∧ p < (i + 1 + ps.length) * fk.size
              · rw [if_pos c1, if_pos (by omega), flatV_cons, List.getElem?_append_right (by rw [hel]; omega), hel]
                congr 1
                omega
              · rw [if_neg c1, e1, f2]
                simp only [Nat.add_zero, Array.length_toList]
                by_cases c2 : i * fk.size ≤ p ∧ p < i * fk.size + (ev' x).cells.size ∧ p < cs.size
                · rw [if_pos c2, if_pos (by omega), flatV_cons, List.getElem?_append_left (by rw [hel]; omega), henc, hcs.1]
                · rw [if_neg c2, if_neg (by omega)]
          · cases h
        · cases h
      · cases h
    · cases h
theorem fine_buildSlice {t m e : Nat} {fk : FK} {z : SC} {en : Env} {ps : Array (Nat × Operand)} {ys : List fk.T} {ev' : Operand → Value} (hT : TabOk P T) (ht : look T t = some (.sc (some (.f fk, e)) z)) (hm : Mem B w0 ρ φ U H w) (hn : ¬ U n) (hev : ∀ x, DenV ρ (ev en x) (ev' x))
    (hel : elems fk en 0 ps.toList = some ys) (hl : ps.toList.length = m) (hlim : m * fk.size ≤ 16777216) (dst) (tt) (pos) (af) (gd) :
    Fine B w0 ρ U H ((execOp ev' ⟨dst, .buildSlice t m ps, tt, pos, af, gd⟩).run P w) (.w (.c (.fs n))) [(n, .arr (.f fk) e true ys)] n (n + 1) := by
  obtain ⟨i, zv, hu, hi, hs, hby, hz, hzc⟩ := el_run hT ht
  have hs' : i.size = fk.size := hs
  have hk := fk.size_pos
  have hzs : zv.cells.size = fk.size := by rw [← Array.length_toList, ← all2_length hzc, K.enc_length]; rfl
  generalize hcs0 : (if m * fk.size = 0 then (#[] : Array Value) else zv.cells) = z0
  obtain ⟨h1, cs', h2, h3, h4⟩ := elems_fill hev ps.toList 0 ys ((Array.range (m * fk.size)).map (z0[· % z0.size]!)) hel (by simp [hl])
  have hlist : (ps.map fun (p : Nat × Operand) => (p.1, ev' p.2)).toList = ps.toList.map fun p => (p.1, ev' p.2) := by simp
  have hsz : cs'.size = m * fk.size := by rw [h3]; simp
  have hflat : cs'.toList = flatV fk ys := by
    apply List.ext_getElem?
    intro p
    rw [Array.getElem?_toList, h4 p]
    simp only [Nat.zero_mul, Nat.zero_add, Nat.zero_le, true_and, Nat.sub_zero, hl]
    by_cases hp : p < m * fk.size
    · rw [if_pos hp]
    · rw [if_neg hp, List.getElem?_eq_none (by rw [flatV_length, h1, hl]; omega)]
      simp; omega
  have hyl : ys.length = m := by rw [h1, hl]
  refine fine_newarr hm hn (v := .slice (some ⟨w.heap.size, 0, none⟩) m m) (w' := w.alloc (.cells cs' e)) ?_ ⟨rfl, rfl, rfl, by simp, fun q hq _ => Below.heap_alloc w _ q hq⟩ (.inr rfl) ?_
  · have hnl : ¬ 16777216 < m * fk.size := by omega
    by_cases hmz : m * fk.size = 0
    · rw [if_pos hmz] at hcs0
      subst hcs0
      simp only [execOp, Instr.buildSlice, Sem.run_bind, run_underlying hu, Result.andThen_ok, run_sizeOf' hi, hs']
      simp [hnl, hmz] at h2 ⊢
      simp [h2, newRow]
    · rw [if_neg hmz] at hcs0
      subst hcs0
      simp only [execOp, Instr.buildSlice, Sem.run_bind, run_underlying hu, Result.andThen_ok, run_sizeOf' hi, hs']
      simp [hnl, hmz, run_zero hi hz]
      simp [h2, newRow]
  · have hmm : m ≤ m * fk.size := Nat.le_mul_of_pos_right _ hk
    refine ⟨by rw [flatV_length], .inr ⟨w.heap.size, m, cs', by rw [hyl], Nat.zero_le _, heap_alloc_new w _, by omega, by simp only [maxLen]; omega, hsz, ?_⟩⟩
    rw [hyl, hflat, List.take_of_length_le (by rw [flatV_length, hyl]; exact Nat.le_refl _)]

theorem live_arr {Hl : Heap} {id e : Nat} {k : K} {o : Bool} {xs : List k.T} (hH : ∀ id, (hget Hl id).live = true → H id = hget Hl id) (h : hget Hl id = .arr k e o xs) : H id = .arr k e o xs := by
  rw [hH id (by rw [h]; rfl), h]
theorem live_cells {Hl : Heap} {id t : Nat} {l : List SC} {o : Bool} (hH : ∀ id, (hget Hl id).live = true → H id = hget Hl id) (h : hget Hl id = .cells o t l) : H id = .cells o t l := by
  rw [hH id (by rw [h]; rfl), h]
theorem wf_p {id off : Nat} (h : (SV.w (.c (.p id off))).wf U) : U id := h id rfl
theorem wf_el {id ix sz off : Nat} (h : (SV.w (.c (.el id ix sz off))).wf U) : U id := h id rfl

theorem load_sound {t : Nat} {x : Operand} {en : Env} {Hl : Heap} {a : Operand → Value} {out : Out} (hT : TabOk P T) (hev : DenV ρ (ev en x) (a x)) (hH : ∀ id, (hget Hl id).live = true → H id = hget Hl id) (hm : Mem B w0 ρ φ U H w)
    (hs : stepLoad T t (ev en x) Hl n = some out) (hc : holdsO out.c) (hU : ∀ q, n ≤ q → q < out.n → ¬ U q) (dst) (tt) (pos) (af) (gd) :
    Fine B w0 ρ U H ((execOp a ⟨dst, .load t x, tt, pos, af, gd⟩).run P w) out.v out.d n out.n := by
  generalize ev en x = s at *
  unfold stepLoad at hs
  split at hs
  · rename_i id off
    split at hs
    · rename_i _ ty l k z hh ht
      split at hs
      · rename_i ho
        injection hs with hs
        subst hs
        exact fine_load_sc hT ht hm (live_cells hH hh) (by rw [← len_eq]; exact ho) hev dst tt pos af gd
      · cases hs
    · rename_i _ ty l m fs z eq hh ht
      split at hs
      · rename_i ho
        injection hs with hs
        subst hs
        exact fine_load_st hT ht hm (live_cells hH hh) (by rw [← len_eq]; exact ho) hev dst tt pos af gd
      · cases hs
    · cases hs
  · rename_i id ix sz off
    split at hs
    · rename_i k e own xs kk z hh ht
      split at hs
      · rename_i m hcell
        split at hs
        · rename_i ho
          split at hs
          · rename_i hsz
            injection hs with hs
            subst hs
            exact fine_load_el_i hT ht hm (live_arr hH hh) hev ho hsz hc hcell dst tt pos af gd
          · cases hs
        · cases hs
      · rename_i m hcell
        split at hs
        · rename_i ho
          split at hs
          · rename_i hsz
            injection hs with hs
            subst hs
            exact fine_load_el_b hT ht hm (live_arr hH hh) hev ho hsz hc hcell dst tt pos af gd
          · cases hs
        · cases hs
      · rename_i fk ys hcell
        split at hs
        · rename_i ho
          split at hs
          · rename_i hsz
            cases own with
            | true => simp at hs
            | false =>
              simp only [Bool.false_eq_true, if_false] at hs
              injection hs with hs
              subst hs
              exact fine_load_el_sl hT ht hm (live_arr hH hh) (hU n (Nat.le_refl _) (Nat.lt_succ_self _)) hev ho hsz hc hcell dst tt pos af gd
          · cases hs
        · cases hs
    · rename_i k e own xs m fs z eq hh ht
      split at hs
      rename_i l d n' hcells
      split at hs
      · rename_i ho
        split at hs
        · rename_i hsz
          split at hs
          · cases hs
          · rename_i hno
            injection hs with hs
            subst hs
            refine fine_load_el_st hT ht hm (live_arr hH hh) hev ho hsz hc hcells ?_ hU dst tt pos af gd
            cases own with
            | false => exact .inl rfl
            | true =>
              cases d with
              | nil => exact .inr rfl
              | cons x y => exact (hno x y rfl rfl).elim
        · cases hs
      · cases hs
    · cases hs
  · cases hs

theorem store_sound {t : Nat} {x y : Operand} {en : Env} {Hl : Heap} {a : Operand → Value} {out : Out} (hT : TabOk P T) (hev : ∀ x, DenV ρ (ev en x) (a x)) (hwf : ∀ x, (ev en x).wf U) (hH : ∀ id, (hget Hl id).live = true → H id = hget Hl id) (hm : Mem B w0 ρ φ U H w)
    (hs : stepStore T t (ev en x) (ev en y) Hl n = some out) (hc : holdsO out.c) (dst) (tt) (pos) (af) (gd) :
    Fine B w0 ρ U H ((execOp a ⟨dst, .store t x y, tt, pos, af, gd⟩).run P w) out.v out.d n out.n := by
  have hx := hev x
  have hy := hev y
  have hyw := hwf y
  generalize ev en x = sx at *
  generalize ev en y = sy at *
  unfold stepStore at hs
  split at hs
  · rename_i id off s
    replace hy : DenW ρ s (a y) := hy
    replace hyw : s.wf U := hyw
    split at hs
    · rename_i ty l k z hh ht
      obtain ⟨i, d, v, hi, hsz, _⟩ := td_sc hT ht
      split at hs
      · rename_i c
        split at hs
        · rename_i hk
          split at hs
          · rename_i ho
            injection hs with hs
            subst hs
            rw [len_eq] at ho
            have hk' : known [c] = true := by unfold known; rw [hk]; rfl
            have e1 : splice l off [c] = Go.Eng.put c l off := by
              rw [splice_eq, put_eq]
              apply List.ext_getElem?
              intro j
              rw [List.getElem?_set]
              by_cases h1 : j < off
              · rw [List.getElem?_append_left (by simp; omega), List.getElem?_take, if_pos h1, if_neg (by omega)]
              · rw [List.getElem?_append_right (by simp; omega)]
                have : (List.take off l).length = off := by simp; omega
                rw [this]
                by_cases h2 : off = j
                · subst h2
                  rw [if_pos rfl, if_pos ho]
                  simp
                · rw [if_neg h2, List.getElem?_append_right (by simp; omega), List.getElem?_drop]
                  congr 1
                  simp
                  omega
            have := fine_store (n := n) (off := off) (l' := [c]) hi (by rw [hsz]; rfl) hm (live_cells hH hh) (by simp; omega) hx (SW.denL (s := .c c) hy hk') hk' (fun c' h => by simp at h; subst h; exact hyw) dst tt pos af gd
            rw [e1] at this
            exact this
          · cases hs
        · cases hs
      · cases hs
    · rename_i ty l m fs z eq hh ht
      obtain ⟨i, F, v, hi, hu, hsz, _⟩ := td_st hT ht
      split at hs
      · rename_i l'
        split at hs
        · rename_i hk
          split at hs
          · rename_i hlm
            split at hs
            · rename_i ho
              injection hs with hs
              subst hs
              rw [len_eq] at ho hlm
              exact fine_store (n := n) (l' := l') hi (by rw [hsz]; exact hlm.symm) hm (live_cells hH hh) (by omega) hx (SW.denL (s := .g l') hy hk) hk hyw dst tt pos af gd
            · cases hs
          · cases hs
        · cases hs
      · cases hs
    · cases hs
  · rename_i id ix sz off s
    replace hy : DenW ρ s (a y) := hy
    split at hs
    · rename_i fk e xs hh
      split at hs
      · rename_i cs hcs
        split at hs
        · rename_i v hdec
          split at hs
          · rename_i ho
            split at hs
            · rename_i hsz
              rw [len_eq] at ho
              split at hs
              · rename_i k z c ht
                obtain ⟨i, d, v', hi, hsz', _⟩ := td_sc hT ht
                injection hs with hs
                subst hs
                exact fine_store_el hi (by rw [hsz']; rfl) hm (live_arr hH hh) hx hy hcs hdec ho hsz hc dst tt pos af gd
              · rename_i m fs z eq l' ht
                obtain ⟨i, F, v', hi, hu, hsz', _⟩ := td_st hT ht
                split at hs
                · rename_i hlm
                  injection hs with hs
                  subst hs
                  rw [len_eq] at hlm
                  exact fine_store_el hi (by rw [hsz']; exact hlm.symm) hm (live_arr hH hh) hx hy hcs hdec ho hsz hc dst tt pos af gd
                · cases hs
              · cases hs
            · cases hs
          · cases hs
        · cases hs
      · cases hs
    · cases hs
  · cases hs

theorem src_sound {en : Env} {Hl : Heap} {y : Operand} {a : Operand → Value} {fk : FK} {id2 : Nat} {ys : List fk.T} (hev : DenV ρ (ev en y) (a y)) (hH : ∀ id, (hget Hl id).live = true → H id = hget Hl id) (hm : Mem B w0 ρ φ U H w)
    (h : srcOf fk (ev en y) Hl n = some (id2, ys)) (hc : srcC fk (ev en y) Hl) : Src w fk (a y) ys := by
  generalize ev en y = s at *
  unfold srcOf at h
  split at h
  · injection h with h
    injection h with h1 h2
    subst h2
    exact src_nil hev
  · split at h
    · rename_i k2 e o zs hh
      split at h
      · rename_i hk _
        injection h with h
        injection h with h1 h2
        subst hk
        subst h2
        exact src_fs hm (live_arr hH hh) hev
      · cases h
    · cases h
  · rename_i id lo m sz
    split at h
    · rename_i k2 e o zs hh
      split at h
      · rename_i hk _
        split at h
        · rename_i hsz
          injection h with h
          injection h with h1 h2
          subst hk
          subst h2
          have hc' : lo + m ≤ zs.length := by
            unfold srcC at hc
            simp only [hh] at hc
            exact hc
          exact src_s hm (live_arr hH hh) hsz hc' hev
        · cases h
      · cases h
    · cases h
  · cases h
end
end Go.Eng
