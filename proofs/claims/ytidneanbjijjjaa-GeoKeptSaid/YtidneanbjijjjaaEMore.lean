/- The engine: EMore, ERoom. -/
import Derived.Test.YtidneanbjijjjaaESound
/- More operations: rows taken out of a list, arrays with all their room, a literal of a row that is only looked at. -/
set_option linter.unusedVariables false
set_option linter.unusedSimpArgs false
namespace Go.Eng
open Go Go.RowKit

/-- A slice that is only looked at, as a row. -/
noncomputable def viewOf (fk : FK) (H : Heap) : SC → Option (List fk.T × Nat × Option Prop)
  | .fs id => match hget H id with
    | .arr (.f k2) _ false ys => match FK.same k2 fk with | some ⟨h⟩ => some (h ▸ ys, id, none) | none => none
    | _ => none
  | .s id lo m sz => match hget H id with
    | .arr (.f k2) _ false ys => match FK.same k2 fk with
      | some ⟨h⟩ => if sz = k2.size then some (part (h ▸ ys) lo m, id, some (lo + m ≤ (h ▸ ys : List fk.T).length)) else none
      | none => none
    | _ => none
  | _ => none
noncomputable def stepX (T : Tab) (e : Env) (H : Heap) (n : Nat) (op : Op) : Option Out := match op with
  | .load t a => match ev e a with
    | .w (.c (.el id ix 1 0)) => match hget H id, look T t with
      | .hole _ _ xs jx c, some (.sc _ _) => some ⟨.w (.c c), [], n, some (ix = jx)⟩
      | _, _ => none
    | _ => none
  | .store t a x => match ev e a, ev e x with
    | .w (.c (.el id ix sz 0)), .w s => match hget H id with
      | .pre fk ys c => match cvsOf s.cells with
        | some cs => match fk.dec cs with
          | some y => if sz = fk.size then (match look T t, s with
            | some (.sc _ _), .c _ => some ⟨.u, [(id, .pre fk (ys.take ix ++ y :: ys.drop (ix + 1)) c)], n, some (ix ≤ ys.length ∧ ix < c)⟩
            | some (.st m _ _ _), .g l' => if len l' = m then some ⟨.u, [(id, .pre fk (ys.take ix ++ y :: ys.drop (ix + 1)) c)], n, some (ix ≤ ys.length ∧ ix < c)⟩ else none
            | _, _ => none) else none
          | none => none
        | none => none
      | _ => none
    | _, _ => none
  | .indexAddr t x ix => match look T t, ev e x, ev e ix with
    | some (.sc (some (k, _)) _), .w (.c (.fs id)), .w (.c (.i j)) => match hget H id with
      | .hole fk _ xs _ _ => match K.same k (.rows fk) with
        | some _ => some ⟨.w (.c (.el id j.toNat 1 0)), [], n, some (0 ≤ j ∧ j < (xs.length : Int))⟩
        | none => none
      | .pre fk _ c => match K.same k (.f fk) with
        | some _ => some ⟨.w (.c (.el id j.toNat fk.size 0)), [], n, some (0 ≤ j ∧ j < (c : Int))⟩
        | none => none
      | _ => none
    | _, _, _ => none
  | .slice t x none (some hi) none => match look T t, ev e x, ev e hi with
    | some (.sc (some _) _), .w (.c (.st id m)), .w (.c (.i j)) => match hget H id with
      | .pre fk _ c => some ⟨.w (.c (.fs id)), [], n, some (j = (c : Int))⟩
      | _ => none
    | _, _, _ => none
  | .call c => match c.callee, c.args.toList, c.argTypes.toList with
    | .builtin .len, [x], [t] => match look T t, ev e x with
      | some (.sc (some _) _), .w (.c (.fs id)) => match hget H id with
        | .hole _ _ xs _ _ => some ⟨.w (.c (.i (xs.length : Int))), [], n, none⟩
        | .pre _ _ c => some ⟨.w (.c (.i (c : Int))), [], n, none⟩
        | _ => none
      | some (.sc (some _) _), .w (.c (.st id m)) => some ⟨.w (.c (.i (m : Int))), [], n, none⟩
      | _, _ => none
    | .builtin .cap, [x], [t] => match look T t, ev e x with
      | some (.sc (some _) _), .w (.c (.st id m)) => match hget H id with
        | .pre _ _ c => some ⟨.w (.c (.i (c : Int))), [], n, none⟩
        | _ => none
      | _, _ => none
    | _, _, _ => none
  | .buildSlice t m ps => match look T t, ps.toList with
    | some (.sc (some (.rows fk, ety)) _), [(0, x)] => match ev e x with
      | .w (.c c) => match viewOf fk H c with
        | some (ys, id, p) => if m = 1 then some ⟨.w (.c (.fs n)), [(n, .arr (.rows fk) ety false [ys])], n + 1, p⟩ else none
        | none => none
      | _ => none
    | _, _ => none
  | _ => none

section
variable {P : Program} {T : Tab} {B : Nat} {w0 : Base} {w : World} {ρ : Nat → Value} {φ : Nat → Nat → Prop} {U : Nat → Prop} {H : Nat → HB} {n : Nat}

theorem live_hole {Hl : Heap} {id e ix : Nat} {fk : FK} {xs : List (List fk.T)} {c : SC} (hH : ∀ id, (hget Hl id).live = true → H id = hget Hl id) (h : hget Hl id = .hole fk e xs ix c) : H id = .hole fk e xs ix c := by
  rw [hH id (by rw [h]; rfl), h]
theorem live_pre {Hl : Heap} {id c : Nat} {fk : FK} {ys : List fk.T} (hH : ∀ id, (hget Hl id).live = true → H id = hget Hl id) (h : hget Hl id = .pre fk ys c) : H id = .pre fk ys c := by
  rw [hH id (by rw [h]; rfl), h]
theorem mem_hole {id e ix : Nat} {fk : FK} {xs : List (List fk.T)} {c : SC} (hm : Mem B w0 ρ φ U H w) (h : H id = .hole fk e xs ix c) : Holds ρ w (φ id) (.hole fk e xs ix c) (ρ id) := by
  have := hm.holds id; rwa [h] at this
theorem mem_pre {id c : Nat} {fk : FK} {ys : List fk.T} (hm : Mem B w0 ρ φ U H w) (h : H id = .pre fk ys c) : Holds ρ w (φ id) (.pre fk ys c) (ρ id) := by
  have := hm.holds id; rwa [h] at this
theorem own_slice0 {w : World} {e sz m : Nat} {v : Value} {L : List Value} (h : w.ownsRow 0 e sz v m L) : ∃ A c, v = .slice A m c ∧ m ≤ c ∧ c ≤ maxLen ∧ (0 < m → ∃ g cur, A = some ⟨g, 0, none⟩ ∧ w.heap[g]? = some (.cells cur e (0, 0)) ∧ cur.size = c * sz ∧ cur.toList.take (m * sz) = L) := by
  rcases h.2 with ⟨rfl, rfl⟩ | ⟨g, cap, cur, rfl, _, hh, h1, h2, h3, h4⟩
  · exact ⟨none, 0, rfl, Nat.le_refl _, Nat.zero_le _, fun h => by omega⟩
  · exact ⟨_, cap, rfl, h1, h2, fun _ => ⟨g, cur, rfl, hh, h3, h4⟩⟩

theorem fine_load_hole {t id ix jx e : Nat} {fk : FK} {xs : List (List fk.T)} {c : SC} {kk : Option (K × Nat)} {z : SC} {x : Operand} {ev : Operand → Value} (hT : TabOk P T) (ht : look T t = some (.sc kk z)) (hm : Mem B w0 ρ φ U H w) (hH : H id = .hole fk e xs jx c)
    (hd : DenV ρ (.w (.c (.el id ix 1 0))) (ev x)) (hi : ix = jx) (dst) (tt) (pos) (af) (gd) :
    Fine B w0 ρ U H ((execOp ev ⟨dst, .load t x, tt, pos, af, gd⟩).run P w) (.w (.c c)) [] n n := by
  subst hi
  obtain ⟨i, d, v, hi', hs', hu, hp, _⟩ := td_sc hT ht
  obtain ⟨h0, cs, u, ho, hcu, hdu, _⟩ := mem_hole hm hH
  obtain ⟨a, n', c', hρ, hv⟩ := hd
  have hlt : ix < xs.length := by
    have := (List.getElem?_eq_some_iff.1 hcu).1
    rw [ho.1] at this; omega
  obtain ⟨A, cap, hρ2, _, _, hpos⟩ := own_slice0 ho
  obtain ⟨g, cur, hA, hh, hsz, htk⟩ := hpos (by omega)
  rw [hρ] at hρ2
  injection hρ2 with e1
  rw [hA] at e1
  injection e1 with e1
  subst e1
  have hcell : w.cell? (((⟨g, 0, none⟩ : Addr).add (ix * 1)).add 0) = some u := by
    rw [plain_addr, plain_addr, cell_of_row w g _ cur e (0, 0) hh]
    rw [← htk, List.getElem?_take] at hcu
    split at hcu
    · simpa using hcu
    · cases hcu
  generalize (((⟨g, 0, none⟩ : Addr).add (ix * 1)).add 0) = ad at hv hcell
  refine fine_same hm (u := u) ?_ hdu ?_
  · simp [execOp, hv, Instr.loadAt, Instr.sureAddr, loadVar, run_isAgg_sc hu hp, hcell]
  · have := hm.wf id
    rw [hH] at this
    exact this

theorem fine_index_hole {id e t jx : Nat} {k' : K} {fk : FK} {e' : Nat} {xs : List (List fk.T)} {c z : SC} {x y : Operand} {j : Int} {ev : Operand → Value} (hT : TabOk P T) (ht : look T t = some (.sc (some (k', e')) z)) (hk : k' = .rows fk) (hm : Mem B w0 ρ φ U H w) (hH : H id = .hole fk e xs jx c)
    (hd : DenV ρ (.w (.c (.fs id))) (ev x)) (hy : DenV ρ (.w (.c (.i j))) (ev y)) (hj : 0 ≤ j ∧ j < (xs.length : Int)) (dst) (tt) (pos) (af) (gd) :
    Fine B w0 ρ U H ((execOp ev ⟨dst, .indexAddr t x y, tt, pos, af, gd⟩).run P w) (.w (.c (.el id j.toNat 1 0))) [] n n := by
  subst hk
  obtain ⟨i, zv, hu, hi, hs, _⟩ := el_run hT ht
  obtain ⟨h0, cs, u, ho, _⟩ := mem_hole hm hH
  obtain ⟨A, cap, hρ, h1, h2, hpos⟩ := own_slice0 ho
  obtain ⟨g, cur, rfl, hh, hsz, htk⟩ := hpos (by omega)
  have hv' : ev x = .slice (some ⟨g, 0, none⟩) xs.length cap := hd.1.trans hρ
  have hs1 : i.size = 1 := hs
  refine fine_same hm (u := .pointer (some ((⟨g, 0, none⟩ : Addr).add (j.toNat * 1)))) ?_ ⟨⟨g, 0, none⟩, xs.length, cap, hρ, by rw [add_zero]⟩ (fun q hq => by simp only [SC.ids] at hq; subst hq; exact hm.used _ (by rw [hH]; rfl))
  simp [execOp, Instr.indexAt, hv', den_i hy, asIntOf, run_underlying hu, run_sizeOf' hi, hs1, hj]
theorem fine_index_pre {id t c : Nat} {k' : K} {fk : FK} {e' : Nat} {ys : List fk.T} {z : SC} {x y : Operand} {j : Int} {ev : Operand → Value} (hT : TabOk P T) (ht : look T t = some (.sc (some (k', e')) z)) (hk : k' = .f fk) (hm : Mem B w0 ρ φ U H w) (hH : H id = .pre fk ys c)
    (hd : DenV ρ (.w (.c (.fs id))) (ev x)) (hy : DenV ρ (.w (.c (.i j))) (ev y)) (hj : 0 ≤ j ∧ j < (c : Int)) (dst) (tt) (pos) (af) (gd) :
    Fine B w0 ρ U H ((execOp ev ⟨dst, .indexAddr t x y, tt, pos, af, gd⟩).run P w) (.w (.c (.el id j.toNat fk.size 0))) [] n n := by
  subst hk
  obtain ⟨i, zv, hu, hi, hs, _⟩ := el_run hT ht
  obtain ⟨h0, _, e, cs, ho, _⟩ := mem_pre hm hH
  obtain ⟨A, cap, hρ, h1, h2, hpos⟩ := own_slice0 ho
  obtain ⟨g, cur, rfl, hh, hsz, htk⟩ := hpos (by omega)
  have hv' : ev x = .slice (some ⟨g, 0, none⟩) c cap := hd.1.trans hρ
  have hs1 : i.size = fk.size := hs
  refine fine_same hm (u := .pointer (some ((⟨g, 0, none⟩ : Addr).add (j.toNat * fk.size)))) ?_ ⟨⟨g, 0, none⟩, c, cap, hρ, by rw [add_zero]⟩ (fun q hq => by simp only [SC.ids] at hq; subst hq; exact hm.used _ (by rw [hH]; rfl))
  simp [execOp, Instr.indexAt, hv', den_i hy, asIntOf, run_underlying hu, run_sizeOf' hi, hs1, hj]

theorem fine_slice_st {id t c m : Nat} {kk : K × Nat} {fk : FK} {ys : List fk.T} {z : SC} {x y : Operand} {j : Int} {ev : Operand → Value} (hT : TabOk P T) (ht : look T t = some (.sc (some kk) z)) (hm : Mem B w0 ρ φ U H w) (hH : H id = .pre fk ys c)
    (hd : DenV ρ (.w (.c (.st id m))) (ev x)) (hy : DenV ρ (.w (.c (.i j))) (ev y)) (hj : j = (c : Int)) (dst) (tt) (pos) (af) (gd) :
    Fine B w0 ρ U H ((execOp ev ⟨dst, .slice t x none (some y) none, tt, pos, af, gd⟩).run P w) (.w (.c (.fs id))) [] n n := by
  obtain ⟨k', e'⟩ := kk
  obtain ⟨i, zv, hu, hi, hs, _⟩ := el_run hT ht
  obtain ⟨h0, _, e, cs, ho, _⟩ := mem_pre hm hH
  obtain ⟨A, cc, hρ, hv, hle, hmx⟩ := hd
  have hc : cc = c := by
    obtain ⟨A', cap, hρ2, _⟩ := own_slice0 ho
    rw [hρ] at hρ2
    injection hρ2
  subst hc
  subst hj
  refine fine_same hm (u := ρ id) ?_ ⟨rfl, _, _, _, hρ⟩ (fun q hq => by simp only [SC.ids] at hq; subst hq; exact hm.used _ (by rw [hH]; rfl))
  have hy' : ev y = .int .i64 (cc : Int) := den_i hy
  have e1 : (if cc = 0 then A else A.map (·.add (0 * k'.size))) = A := by
    split
    · rfl
    · cases A with
      | none => rfl
      | some a => simp [Addr.add]
  simp [execOp, Instr.sliceAt, Instr.slice, hv, hy', run_underlying hu, Instr.sliceBounds, Instr.sliceBound, asIntOf, run_sizeOf' hi, hs, hρ]
  cases A with
  | none => simp
  | some a => simp [Addr.add]

theorem fine_len_hole {id e t jx : Nat} {kk : K × Nat} {fk : FK} {xs : List (List fk.T)} {c z : SC} {x : Operand} {ev : Operand → Value} (hT : TabOk P T) (ht : look T t = some (.sc (some kk) z)) (hm : Mem B w0 ρ φ U H w) (hH : H id = .hole fk e xs jx c)
    (hd : DenV ρ (.w (.c (.fs id))) (ev x)) (dst) (tt) (pos) (af) (gd) :
    Fine B w0 ρ U H ((execOp ev ⟨dst, .call ⟨.builtin .len, #[x], #[t]⟩, tt, pos, af, gd⟩).run P w) (.w (.c (.i (xs.length : Int)))) [] n n := by
  obtain ⟨k', e'⟩ := kk
  obtain ⟨i, zv, hu, _⟩ := el_run hT ht
  obtain ⟨h0, cs, u, ho, _⟩ := mem_hole hm hH
  obtain ⟨A, cap, hρ, _⟩ := own_slice0 ho
  have hv' : ev x = .slice A xs.length cap := hd.1.trans hρ
  refine fine_same hm (u := .int .i64 (xs.length : Int)) ?_ rfl (fun _ h => h.elim)
  simp [execOp, resolve, invoke, builtin, Builtin.len_, hv', run_underlying hu]
  rfl
theorem fine_len_pre {id t c : Nat} {kk : K × Nat} {fk : FK} {ys : List fk.T} {z : SC} {x : Operand} {ev : Operand → Value} (hT : TabOk P T) (ht : look T t = some (.sc (some kk) z)) (hm : Mem B w0 ρ φ U H w) (hH : H id = .pre fk ys c)
    (hd : DenV ρ (.w (.c (.fs id))) (ev x)) (dst) (tt) (pos) (af) (gd) :
    Fine B w0 ρ U H ((execOp ev ⟨dst, .call ⟨.builtin .len, #[x], #[t]⟩, tt, pos, af, gd⟩).run P w) (.w (.c (.i (c : Int)))) [] n n := by
  obtain ⟨k', e'⟩ := kk
  obtain ⟨i, zv, hu, _⟩ := el_run hT ht
  obtain ⟨h0, _, e, cs, ho, _⟩ := mem_pre hm hH
  obtain ⟨A, cap, hρ, _⟩ := own_slice0 ho
  have hv' : ev x = .slice A c cap := hd.1.trans hρ
  refine fine_same hm (u := .int .i64 (c : Int)) ?_ rfl (fun _ h => h.elim)
  simp [execOp, resolve, invoke, builtin, Builtin.len_, hv', run_underlying hu]
  rfl
theorem fine_len_st {id t m : Nat} {kk : K × Nat} {z : SC} {x : Operand} {ev : Operand → Value} (hT : TabOk P T) (ht : look T t = some (.sc (some kk) z)) (hm : Mem B w0 ρ φ U H w)
    (hd : DenV ρ (.w (.c (.st id m))) (ev x)) (dst) (tt) (pos) (af) (gd) :
    Fine B w0 ρ U H ((execOp ev ⟨dst, .call ⟨.builtin .len, #[x], #[t]⟩, tt, pos, af, gd⟩).run P w) (.w (.c (.i (m : Int)))) [] n n := by
  obtain ⟨k', e'⟩ := kk
  obtain ⟨i, zv, hu, _⟩ := el_run hT ht
  obtain ⟨A, c, _, hv', _⟩ := hd
  refine fine_same hm (u := .int .i64 (m : Int)) ?_ rfl (fun _ h => h.elim)
  simp [execOp, resolve, invoke, builtin, Builtin.len_, hv', run_underlying hu]
  rfl
theorem fine_cap_st {id t m c : Nat} {kk : K × Nat} {fk : FK} {ys : List fk.T} {z : SC} {x : Operand} {ev : Operand → Value} (hT : TabOk P T) (ht : look T t = some (.sc (some kk) z)) (hm : Mem B w0 ρ φ U H w) (hH : H id = .pre fk ys c)
    (hd : DenV ρ (.w (.c (.st id m))) (ev x)) (dst) (tt) (pos) (af) (gd) :
    Fine B w0 ρ U H ((execOp ev ⟨dst, .call ⟨.builtin .cap, #[x], #[t]⟩, tt, pos, af, gd⟩).run P w) (.w (.c (.i (c : Int)))) [] n n := by
  obtain ⟨k', e'⟩ := kk
  obtain ⟨i, zv, hu, _⟩ := el_run hT ht
  obtain ⟨h0, _, e, cs, ho, _⟩ := mem_pre hm hH
  obtain ⟨A, cc, hρ, hv, hle, hmx⟩ := hd
  have hc : cc = c := by
    obtain ⟨A', cap, hρ2, _⟩ := own_slice0 ho
    rw [hρ] at hρ2
    injection hρ2
  subst hc
  refine fine_same hm (u := .int .i64 (cc : Int)) ?_ rfl (fun _ h => h.elim)
  simp [execOp, resolve, invoke, builtin, Builtin.cap_, hv, run_underlying hu]
  rfl

theorem fine_store_pre {t id ix sz c : Nat} {k : FK} {ys : List k.T} {s : SW} {cs : List CV} {y : k.T} {i : TypeInfo} {x z : Operand} {ev : Operand → Value} (hi : P.info? t = some i) (hs : i.size = s.cells.length) (hm : Mem B w0 ρ φ U H w) (hH : H id = .pre k ys c)
    (hd : DenV ρ (.w (.c (.el id ix sz 0))) (ev x)) (hz : DenW ρ s (ev z)) (hc : cvsOf s.cells = some cs) (hdec : k.dec cs = some y) (hsz : sz = k.size) (hix : ix ≤ ys.length ∧ ix < c) (dst) (tt) (pos) (af) (gd) :
    Fine B w0 ρ U H ((execOp ev ⟨dst, .store t x z, tt, pos, af, gd⟩).run P w) .u [(id, .pre k (ys.take ix ++ y :: ys.drop (ix + 1)) c)] n n := by
  subst hsz
  obtain ⟨hle, hlt⟩ := hix
  obtain ⟨h0, hyc, e, L, ho, hL⟩ := mem_pre hm hH
  obtain ⟨a, n', c', hρ', hv⟩ := hd
  rcases ho.2 with ⟨_, hn⟩ | ⟨g, cap, cur, hρ, _, hh, h1, h2, h3, h4⟩
  · omega
  have hφ : φ id g := h0 g (by rw [hρ]; rfl)
  have hρ0 := hρ
  rw [hρ'] at hρ
  injection hρ with e1 e2 e3
  injection e1 with e1
  subst e1
  rw [plain_addr, plain_addr] at hv
  have hcs := cvsOf_W hc hz
  have hy := k.dec_enc hdec
  have hcl : cs.length = k.size := by rw [← hy, k.enc_length]
  have hvs : (ev z).cells.toList.length = k.size := by rw [hcs.1]; simpa using hcl
  have hvz : (ev z).cells.size = k.size := by rw [← Array.length_toList]; exact hvs
  have hin : (ix + 1) * k.size ≤ c * k.size := Nat.mul_le_mul_right _ hlt
  rw [Nat.succ_mul] at hin
  have hcsz : c * k.size ≤ cur.size := by rw [h3]; exact Nat.mul_le_mul_right _ h1
  have hrun := run_storeCells_at P g (0 + ix * k.size + 0) e (ev z).cells.toList 0 cur w hh (by omega) (fun v hv => by
    rw [hcs.1] at hv
    obtain ⟨cv, _, rfl⟩ := List.mem_map.1 hv
    exact cvv_one cv)
  have hLl : L.length = c * k.size := ho.1
  have hw := own_write (sz := k.size) (m := c) (o := 0 + ix * k.size + 0) (vs := (ev z).cells.toList) (L' := L.take (ix * k.size) ++ (ev z).cells.toList ++ L.drop (ix * k.size + k.size)) hh h1 h2 h3 h4 (by omega) (by simp; omega) (fun p hp => by
    simp only [Nat.zero_add, Nat.add_zero, hvs]
    by_cases hc1 : ix * k.size ≤ p ∧ p < ix * k.size + k.size
    · rw [if_pos hc1, List.append_assoc, List.getElem?_append_right (by simp; omega), List.getElem?_append_left (by simp; omega)]
      congr 1
      simp; omega
    · rw [if_neg hc1]
      by_cases hc2 : p < ix * k.size
      · rw [List.append_assoc, List.getElem?_append_left (by simp; omega), List.getElem?_take, if_pos hc2]
      · rw [List.getElem?_append_right (by simp; omega), List.getElem?_drop]
        congr 1
        simp; omega)
  have hl : (H id).live = true := by rw [hH]; rfl
  have hoo : (H id).own = true := by rw [hH]; rfl
  have hlen : (ys.take ix ++ y :: ys.drop (ix + 1)).length ≤ c := by simp; omega
  simp only [Nat.zero_add, Nat.add_zero] at hrun hw hv
  have hmt := hm.put (w' := w.setRow g (cur.toList.take (ix * k.size) ++ (ev z).cells.toList ++ cur.toList.drop (ix * k.size + (ev z).cells.toList.length)).toArray) id (.pre k (ys.take ix ++ y :: ys.drop (ix + 1)) c) (ρ id) (φ id) (fun _ => rfl)
    (fun b hb h => by
      rcases h with h | h
      · exact absurd hoo h
      · exact setRow_other _ _ _ _ (by rintro rfl; exact h hφ)) rfl rfl rfl (by simp) trivial
    ⟨h0, hlen, e, _, by rw [hρ0]; exact hw, fun i x hx j cv hj => ?_⟩ (fun _ b hb => by simpa using hm.lt id hl b hb) (fun b hb => .inr (.inl ⟨hoo, hb⟩))
  · refine ⟨undef, _, _, _, .inr ⟨?_, rfl⟩, hmt.mono fun q hq => ?_, fun q hq => by rw [upd_self], trivial, fun q hq => hq.elim⟩
    · have hne' : (ev z).cells.size = i.size := by
        rw [← Array.length_toList, hvs, hs, ← hcs.2, hcl]
      simp only [execOp, hv, Instr.storeAt, Instr.sureAddr, storeVar]
      simp [run_sizeOf' hi, hne', hrun]
    · rcases hq with hq | rfl
      · exact .inl hq
      · exact .inl (hm.used _ hl)
  · have hjs : j < k.size := by rw [← k.enc_length x]; exact (List.getElem?_eq_some_iff.1 hj).1
    by_cases hi1 : i = ix
    · subst hi1
      rw [List.getElem?_append_right (by simp; omega)] at hx
      have : i - (ys.take i).length = 0 := by simp; omega
      rw [this] at hx
      simp at hx
      subst hx
      rw [List.append_assoc, List.getElem?_append_right (by simp; omega), List.getElem?_append_left (by simp; omega), hcs.1]
      have : i * k.size + j - (List.take (i * k.size) L).length = j := by simp; omega
      rw [this, ← hy, List.getElem?_map, hj]
      rfl
    · have hold : ys[i]? = some x := by
        by_cases hi2 : i < ix
        · rw [List.getElem?_append_left (by simp; omega), List.getElem?_take, if_pos hi2] at hx
          exact hx
        · rw [List.getElem?_append_right (by simp; omega)] at hx
          have : i - (ys.take ix).length = (i - (ix + 1)) + 1 := by simp; omega
          rw [this] at hx
          simp only [List.getElem?_cons_succ, List.getElem?_drop] at hx
          rw [← hx]
          congr 1
          omega
      have := hL i x hold j cv hj
      by_cases hi2 : i < ix
      · have hb : (i + 1) * k.size ≤ ix * k.size := Nat.mul_le_mul_right _ hi2
        rw [Nat.succ_mul] at hb
        rw [List.append_assoc, List.getElem?_append_left (by simp; omega), List.getElem?_take, if_pos (by omega)]
        exact this
      · have hb : (ix + 1) * k.size ≤ i * k.size := Nat.mul_le_mul_right _ (by omega)
        rw [Nat.succ_mul] at hb
        have hic : i * k.size + j < c * k.size := by
          rw [← hLl]; exact (List.getElem?_eq_some_iff.1 this).1
        rw [List.getElem?_append_right (by simp; omega), List.getElem?_drop]
        rw [← this]
        congr 1
        simp
        omega

theorem view_part {ψ : Nat → Prop} {k : K} {xs : List k.T} {v v' : Value} {lo n : Nat} (h : View w ψ k v xs) (hle : lo + n ≤ xs.length)
    (hd : ∃ A n0 c0 A' c', v = .slice A n0 c0 ∧ v' = .slice A' n c' ∧ n ≤ c' ∧ c' ≤ maxLen ∧ (0 < n → ∃ a, A = some a ∧ A' = some (a.add (lo * k.size)))) : View w ψ k v' (part xs lo n) := by
  obtain ⟨A, n0, c0, A', c', h1, h2, h3, h4, h5⟩ := hd
  obtain ⟨A2, c2, g1, g2, g3, g4, g5⟩ := h
  rw [h1] at g1
  injection g1 with e1 e2 e3
  subst e1
  have hlen : (part xs lo n).length = n := part_length xs lo n hle
  refine ⟨A', c', by rw [hlen]; exact h2, by rw [hlen]; exact h3, h4, fun hne => ?_, fun a ha i x hx j cv hj => ?_⟩
  · have hpos : 0 < n := by
      rw [← hlen]
      exact List.length_pos_iff.2 hne
    obtain ⟨a, ha, ha'⟩ := h5 hpos
    refine ⟨_, ha', ?_⟩
    rw [add_block]
    obtain ⟨a2, ha2, hb⟩ := g4 (by intro e; rw [e] at hle; simp at hle; omega)
    rw [ha] at ha2
    injection ha2 with ha2
    rw [ha2]; exact hb
  · have hi : i < n := by
      have := (List.getElem?_eq_some_iff.1 hx).1
      omega
    obtain ⟨a0, ha0, ha0'⟩ := h5 (by omega)
    rw [ha] at ha0'
    injection ha0' with ha0'
    subst ha0'
    have hx' : xs[lo + i]? = some x := by
      rw [part, List.getElem?_take_of_lt hi, List.getElem?_drop] at hx
      exact hx
    obtain ⟨u, hu, hr⟩ := g5 a0 ha0 (lo + i) x hx' j cv hj
    refine ⟨u, ?_, hr⟩
    rw [add_add a0 (lo * k.size), ← Nat.add_mul]
    exact hu

/-- A list of one row that is only looked at. -/
theorem viewOf_sound {Hl : Heap} (hH : ∀ id, (hget Hl id).live = true → H id = hget Hl id) (hm : Mem B w0 ρ φ U H w) {fk : FK} {c : SC} {ys : List fk.T} {id : Nat} {p : Option Prop} {v : Value} (h : viewOf fk Hl c = some (ys, id, p)) (hp : holdsO p) (hd : DenC ρ c v) :
    (H id).live = true ∧ (H id).own = false ∧ View w (φ id) (.f fk) v ys := by
  unfold viewOf at h
  split at h
  · rename_i id'
    split at h
    · rename_i k2 e ys' hh
      split at h
      · rename_i hk _
        subst hk
        injection h with h
        simp only [Prod.mk.injEq] at h
        obtain ⟨rfl, rfl, rfl⟩ := h
        have hid := live_arr hH hh
        refine ⟨by rw [hid]; rfl, by rw [hid]; rfl, ?_⟩
        rw [hd.1]
        exact mem_view hm hid
      · cases h
    · cases h
  · rename_i id' lo m sz
    split at h
    · rename_i k2 e ys' hh
      split at h
      · rename_i hk _
        subst hk
        split at h
        · rename_i hsz
          subst hsz
          injection h with h
          simp only [Prod.mk.injEq] at h
          obtain ⟨rfl, rfl, rfl⟩ := h
          have hid := live_arr hH hh
          refine ⟨by rw [hid]; rfl, by rw [hid]; rfl, ?_⟩
          exact view_part (mem_view hm hid) hp hd
        · cases h
      · cases h
    · cases h
  · cases h
theorem fine_build_view {t e id : Nat} {fk : FK} {z c : SC} {x : Operand} {ps : Array (Nat × Operand)} {ys : List fk.T} {ev' : Operand → Value} (hT : TabOk P T) (ht : look T t = some (.sc (some (.rows fk, e)) z)) (hm : Mem B w0 ρ φ U H w) (hn : ¬ U n) (hps : ps.toList = [(0, x)]) (hd : DenC ρ c (ev' x))
    (hl : (H id).live = true) (hno : (H id).own = false) (hv : View w (φ id) (.f fk) (ev' x) ys) (dst) (tt) (pos) (af) (gd) :
    Fine B w0 ρ U H ((execOp ev' ⟨dst, .buildSlice t 1 ps, tt, pos, af, gd⟩).run P w) (.w (.c (.fs n))) [(n, .arr (.rows fk) e false [ys])] n (n + 1) := by
  obtain ⟨i, zv, hu, hi, hs', hby, hz, hzc⟩ := el_run hT ht
  have hs1 : i.size = 1 := hs'
  have hzs : zv.cells.size = 1 := by rw [← Array.length_toList, ← all2_length hzc, K.enc_length]; rfl
  obtain ⟨A, cc, hvx, g1, g2, g3, g4⟩ := hv
  have hvc : (ev' x).cells = #[ev' x] := by rw [hvx]; rfl
  have hps' : ps = #[(0, x)] := by apply Array.ext'; simpa using hps
  have hrun : (execOp ev' ⟨dst, .buildSlice t 1 ps, tt, pos, af, gd⟩).run P w = .ok (.value (.slice (some ⟨w.heap.size, 0, none⟩) 1 1)) (w.alloc (.cells #[ev' x] e)) := by
    simp only [execOp, Instr.buildSlice, Sem.run_bind, run_underlying hu, Result.andThen_ok, run_sizeOf' hi, hs1]
    have e9 : ∀ (f : Nat → Value) (v : Value), ((Array.range 1).map f).setIfInBounds 0 v = #[v] := by
      intro f v
      apply Array.ext_getElem?
      intro i
      cases i <;> simp
    simp [run_zero hi hz, hps', Instr.fill, hvc, newRow, e9]
  have hp := hm.put (w' := w.alloc (.cells #[ev' x] e)) n (.arr (.rows fk) e false [ys]) (.slice (some ⟨w.heap.size, 0, none⟩) 1 1) (fun b => b = w.heap.size ∨ φ id b) (fun h => absurd h hn)
    (fun b hb _ => Below.heap_alloc w _ b hb) rfl rfl rfl (by simp) trivial ?_ (fun _ b hb => ?_) (fun b hb => ?_)
  · refine ⟨_, _, _, _, .inl hrun, hp.mono fun q hq => ?_, fun q hq => upd_ne _ _ (by rintro rfl; exact hn hq), ⟨(upd_same _ _ _).symm, _, _, _, rfl⟩, fun q hq => ?_⟩
    · rcases hq with hq | rfl
      · exact .inl hq
      · exact .inr ⟨Nat.le_refl _, Nat.lt_succ_self _⟩
    · simp only [SC.ids] at hq
      subst hq
      exact .inr ⟨Nat.le_refl _, Nat.lt_succ_self _⟩
  · refine ⟨some ⟨w.heap.size, 0, none⟩, 1, rfl, Nat.le_refl _, by decide, fun _ => ⟨_, rfl, .inl rfl⟩, fun a ha i r hr j cv hj => ?_⟩
    injection ha with ha
    subst ha
    match i, hr with
    | 0, hr =>
      simp at hr
      subst hr
      match j, hj with
      | 0, hj =>
        simp [K.enc] at hj
        subst hj
        refine ⟨ev' x, ?_, ?_⟩
        · rw [plain_addr, plain_addr, cell_of_row _ w.heap.size _ #[ev' x] e (0, 0) (heap_alloc_new w _)]
          rfl
        · have hag : Agree (φ id) w (w.alloc (.cells #[ev' x] e)) := fun b hb => Below.heap_alloc w _ b (hm.lt id hl b hb)
          refine ⟨A, cc, hvx, g1, g2, fun hne => ?_, fun a ha i x hx j cv hj => ?_⟩
          · obtain ⟨a, ha, hb⟩ := g3 hne
            exact ⟨a, ha, .inr hb⟩
          · obtain ⟨u, hu, hr⟩ := g4 a ha i x hx j cv hj
            have hne : ys ≠ [] := by rintro rfl; simp at hx
            obtain ⟨a', ha', hb⟩ := g3 hne
            rw [ha] at ha'
            injection ha' with ha'
            subst ha'
            exact ⟨u, (hag.cell (by rw [add_block, add_block]; exact hb)).trans hu, (R0_flat (enc_at_flat hj)).2 ((CVat_flat (enc_at_flat hj)).1 hr)⟩
      | j + 1, hj => simp [K.enc] at hj
    | i + 1, hr => simp at hr
  · rcases hb with rfl | hb
    · simp
    · have := hm.lt id hl b hb; simp; omega
  · rcases hb with rfl | hb
    · exact .inl (Nat.le_refl _)
    · exact .inr (.inr ⟨rfl, id, by rintro rfl; exact hn (hm.used _ hl), hl, hno, hb⟩)

theorem stepX_sound {op : Op} {en : Env} {Hl : Heap} {a : Operand → Value} {out : Out} (hT : TabOk P T) (hev : ∀ x, DenV ρ (ev en x) (a x)) (hwf : ∀ x, (ev en x).wf U) (hH : ∀ id, (hget Hl id).live = true → H id = hget Hl id) (hm : Mem B w0 ρ φ U H w)
    (hs : stepX T en Hl n op = some out) (hc : holdsO out.c) (hU : ∀ q, n ≤ q → q < out.n → ¬ U q) (dst) (tt) (pos) (af) (gd) :
    Fine B w0 ρ U H ((execOp a ⟨dst, op, tt, pos, af, gd⟩).run P w) out.v out.d n out.n := by
  unfold stepX at hs
  split at hs
  · rename_i t x
    have hx := hev x
    split at hs
    · rename_i id ix h
      rw [h] at hx
      split at hs
      · rename_i fk e xs jx c kk z hh ht
        injection hs with hs
        subst hs
        exact fine_load_hole hT ht hm (live_hole hH hh) hx hc dst tt pos af gd
      · cases hs
    · cases hs
  · rename_i t x y
    have hx := hev x
    have hy := hev y
    split at hs
    · rename_i id ix sz s h1 h2
      rw [h1] at hx
      rw [h2] at hy
      split at hs
      · rename_i fk ys c hh
        split at hs
        · rename_i cs hcs
          split at hs
          · rename_i v hdec
            split at hs
            · rename_i hsz
              split at hs
              · rename_i k z c' ht
                obtain ⟨i, d, v', hi, hsz', _⟩ := td_sc hT ht
                injection hs with hs
                subst hs
                exact fine_store_pre (s := .c c') hi (by rw [hsz']; rfl) hm (live_pre hH hh) hx hy hcs hdec hsz hc dst tt pos af gd
              · rename_i m fs z eq l' ht
                obtain ⟨i, F, v', hi, hu, hsz', _⟩ := td_st hT ht
                split at hs
                · rename_i hlm
                  rw [len_eq] at hlm
                  injection hs with hs
                  subst hs
                  exact fine_store_pre (s := .g l') hi (by rw [hsz']; exact hlm.symm) hm (live_pre hH hh) hx hy hcs hdec hsz hc dst tt pos af gd
                · cases hs
              · cases hs
            · cases hs
          · cases hs
        · cases hs
      · cases hs
    · cases hs
  · rename_i t x y
    have hx := hev x
    have hy := hev y
    split at hs
    · rename_i k e z id j ht h1 h2
      rw [h1] at hx
      rw [h2] at hy
      split at hs
      · rename_i fk e2 xs jx c hh
        split at hs
        · rename_i hk _
          injection hs with hs
          subst hs
          exact fine_index_hole hT ht hk.down hm (live_hole hH hh) hx hy hc dst tt pos af gd
        · cases hs
      · rename_i fk ys c hh
        split at hs
        · rename_i hk _
          injection hs with hs
          subst hs
          exact fine_index_pre hT ht hk.down hm (live_pre hH hh) hx hy hc dst tt pos af gd
        · cases hs
      · cases hs
    · cases hs
  · rename_i t x y
    have hx := hev x
    have hy := hev y
    split at hs
    · rename_i kk z id m j ht h1 h2
      rw [h1] at hx
      rw [h2] at hy
      split at hs
      · rename_i fk ys c hh
        injection hs with hs
        subst hs
        exact fine_slice_st hT ht hm (live_pre hH hh) hx hy hc dst tt pos af gd
      · cases hs
    · cases hs
  · rename_i c
    obtain ⟨callee, ⟨args⟩, ⟨ts⟩⟩ := c
    split at hs
    · rename_i x t hq1 hq2 hq3
      dsimp only at hq1 hq2 hq3
      subst hq1 hq2 hq3
      have hx := hev x
      split at hs
      · rename_i kk z id ht h
        rw [h] at hx
        split at hs
        · rename_i fk e xs jx c hh
          injection hs with hs
          subst hs
          exact fine_len_hole hT ht hm (live_hole hH hh) hx dst tt pos af gd
        · rename_i fk ys c hh
          injection hs with hs
          subst hs
          exact fine_len_pre hT ht hm (live_pre hH hh) hx dst tt pos af gd
        · cases hs
      · rename_i kk z id m ht h
        rw [h] at hx
        injection hs with hs
        subst hs
        exact fine_len_st hT ht hm hx dst tt pos af gd
      · cases hs
    · rename_i x t hq1 hq2 hq3
      dsimp only at hq1 hq2 hq3
      subst hq1 hq2 hq3
      have hx := hev x
      split at hs
      · rename_i kk z id m ht h
        rw [h] at hx
        split at hs
        · rename_i fk ys c hh
          injection hs with hs
          subst hs
          exact fine_cap_st hT ht hm (live_pre hH hh) hx dst tt pos af gd
        · cases hs
      · cases hs
    · cases hs
  · rename_i t m ps
    split at hs
    · rename_i fk e z x ht hps
      have hx := hev x
      split at hs
      · rename_i c h
        rw [h] at hx
        split at hs
        · rename_i ys id p hvw
          split at hs
          · rename_i hm1
            subst hm1
            injection hs with hs
            subst hs
            obtain ⟨g1, g2, g3⟩ := viewOf_sound hH hm hvw hc hx
            exact fine_build_view hT ht hm (hU n (Nat.le_refl _) (Nat.lt_succ_self _)) hps hx g1 g2 g3 dst tt pos af gd
          · cases hs
        · cases hs
      · cases hs
    · cases hs
  · cases hs
end
end Go.Eng

/- Lists of rows with their room: operations. -/
set_option linter.unusedVariables false
set_option linter.unusedSimpArgs false
namespace Go.Eng
open Go Go.RowKit
/-- A list of one row, that is put behind others. -/
noncomputable def tailOf (H : Heap) : SV → Option (Nat × RoomR × SC)
  | .w (.c (.fs id2)) => match hget H id2 with
    | .room _ [r] 0 (.st q m) => match hget H q with
      | .pre _ _ _ => some (id2, r, .st q m)
      | _ => none
    | .arr k2 _ true ys => match K.same k2 (.rows .int) with
      | some ⟨h⟩ => match (h ▸ ys : List (K.rows .int).T) with
        | [y] => some (id2, ⟨y, y.length, false⟩, .u)
        | _ => none
      | none => none
    | _ => none
  | _ => none
noncomputable def stepR (T : Tab) (e : Env) (H : Heap) (n : Nat) (op : Op) : Option Out := match op with
  | .load t a => match ev e a with
    | .w (.c (.el id ix 1 0)) => match hget H id, look T t with
      | .room _ _ jx (.st q m), some (.sc _ _) => some ⟨.w (.c (.st q m)), [], n, some (ix = jx)⟩
      | .pre .int ys _, some (.sc _ _) => some ⟨.w (.c (.i (ys.getD ix 0))), [], n, some (ix < ys.length)⟩
      | _, _ => none
    | _ => none
  | .indexAddr t x ix => match look T t, ev e x, ev e ix with
    | some (.sc (some (k, _)) _), .w (.c (.fs id)), .w (.c (.i j)) => match hget H id with
      | .room _ rows _ _ => match K.same k (.rows .int) with
        | some _ => some ⟨.w (.c (.el id j.toNat 1 0)), [], n, some (0 ≤ j ∧ j < (rows.length : Int))⟩
        | none => none
      | _ => none
    | _, _, _ => none
  | .slice t x (some lo) none none => match look T t, ev e x, ev e lo with
    | some (.sc (some (k, _)) _), .w (.c (.fs id)), .w (.c (.i j)) => match hget H id with
      | .room e2 rows _ .u => match K.same k (.rows .int) with
        | some _ => some ⟨.w (.c (.fs n)), [(id, .dead), (n, .room e2 (rows.drop j.toNat) 0 .u)], n + 1, some (0 ≤ j ∧ j < (rows.length : Int))⟩
        | none => none
      | _ => none
    | _, _, _ => none
  | .call c => match c.callee, c.args.toList, c.argTypes.toList with
    | .builtin .len, [x], [t] => match look T t, ev e x with
      | some (.sc (some _) _), .w (.c (.fs id)) => match hget H id with
        | .room _ rows _ _ => some ⟨.w (.c (.i (rows.length : Int))), [], n, none⟩
        | _ => none
      | _, _ => none
    | .builtin .append, [x, y], [t, t'] => if t = t' then (match look T t, ev e x, ev e y with
      | some (.sc (some (.f fk, _)) _), .w (.c .nls), .w (.c (.st q m)) => match hget H q with
        | .pre fk2 ys _ => match FK.same fk2 fk, look T t with
          | some ⟨h⟩, some (.sc (some (_, ety)) _) => some ⟨.w (.c (.fs n)), [(n, .arr (.f fk) ety true ((h ▸ ys : List fk.T).take m))], n + 1, some (m ≤ ys.length ∧ m * (8 * fk.size) ≤ 140737488355328)⟩
          | _, _ => none
        | _ => none
      | some (.sc (some (.rows .int, ety)) _), .w (.c .nls), s => match tailOf H s with
        | some (id2, r, c) => some ⟨.w (.c (.fs n)), [(id2, .dead), (n, .room ety [r] 0 c)], n + 1, none⟩
        | none => none
      | some (.sc (some (.rows .int, ety)) _), .w (.c (.fs id)), s => match hget H id, tailOf H s with
        | .room e2 rows _ .u, some (id2, r, c) => if ety = e2 ∧ id ≠ id2 then some ⟨.w (.c (.fs n)), [(id, .dead), (id2, .dead), (n, .room ety (rows ++ [r]) rows.length c)], n + 1, some ((rows.length + 1) * 24 ≤ 140737488355328)⟩ else none
        | _, _ => none
      | _, _, _ => none) else none
    | _, _, _ => none
  | .buildSlice t m ps => match look T t, ps.toList with
    | some (.sc (some (.rows .int, ety)) _), [(0, x)] => match ev e x with
      | .w (.c (.st q k)) => if m = 1 then some ⟨.w (.c (.fs n)), [(n, .room ety [⟨[], k, false⟩] 0 (.st q k))], n + 1, none⟩ else none
      | _ => none
    | _, _ => none
  | _ => none

section
variable {P : Program} {T : Tab} {B : Nat} {w0 : Base} {w : World} {ρ : Nat → Value} {φ : Nat → Nat → Prop} {U : Nat → Prop} {H : Nat → HB} {n : Nat}
theorem live_room {Hl : Heap} {id e ix : Nat} {rows : List RoomR} {c : SC} (hH : ∀ id, (hget Hl id).live = true → H id = hget Hl id) (h : hget Hl id = .room e rows ix c) : H id = .room e rows ix c := by
  rw [hH id (by rw [h]; rfl), h]
theorem mem_room {id e ix : Nat} {rows : List RoomR} {c : SC} (hm : Mem B w0 ρ φ U H w) (h : H id = .room e rows ix c) : Holds ρ w (φ id) (.room e rows ix c) (ρ id) := by
  have := hm.holds id; rwa [h] at this
theorem slat_slice {e : Nat} {v : Value} {us : List Value} (h : SlAt w e v us) : ∃ A c, v = .slice A us.length c ∧ us.length ≤ c ∧ c ≤ maxLen ∧ (0 < us.length → ∃ g off cur, A = some ⟨g, off, none⟩ ∧ w.heap[g]? = some (.cells cur e (0, 0)) ∧ cur.size = off + c ∧ ∀ (i : Nat) u, us[i]? = some u → w.cell? ⟨g, off + i, none⟩ = some u) := by
  rcases h with ⟨rfl, rfl⟩ | ⟨g, off, cap, cur, rfl, hh, h1, h2, h3, h4⟩
  · exact ⟨none, 0, rfl, Nat.le_refl _, Nat.zero_le _, fun h => by simp at h⟩
  · refine ⟨_, cap, rfl, h1, h2, fun _ => ⟨g, off, cur, rfl, hh, h3, fun i u hu => ?_⟩⟩
    rw [cell_of_row w g _ cur e (0, 0) hh]
    rw [← h4, List.getElem?_take] at hu
    split at hu
    · rw [List.getElem?_drop] at hu
      simpa using hu
    · cases hu
theorem fine_load_room {t id ix jx e q m : Nat} {rows : List RoomR} {kk : Option (K × Nat)} {z : SC} {x : Operand} {ev : Operand → Value} (hT : TabOk P T) (ht : look T t = some (.sc kk z)) (hm : Mem B w0 ρ φ U H w) (hH : H id = .room e rows jx (.st q m))
    (hd : DenV ρ (.w (.c (.el id ix 1 0))) (ev x)) (hi : ix = jx) (dst) (tt) (pos) (af) (gd) :
    Fine B w0 ρ U H ((execOp ev ⟨dst, .load t x, tt, pos, af, gd⟩).run P w) (.w (.c (.st q m))) [] n n := by
  subst hi
  obtain ⟨i, d, v, hi', hs', hu, hp, _⟩ := td_sc hT ht
  obtain ⟨h0, us, hl, hs, _, _, ho⟩ := mem_room hm hH
  obtain ⟨u, hcu, hdu⟩ := ho (by intro h; cases h)
  obtain ⟨a, n', c', hρ, hv⟩ := hd
  have hlt := (List.getElem?_eq_some_iff.1 hcu).1
  obtain ⟨A, cap, hρ2, _, _, hpos⟩ := slat_slice hs
  obtain ⟨g, off, cur, hA, hh, hsz, hc⟩ := hpos (by omega)
  rw [hρ] at hρ2
  injection hρ2 with e1
  rw [hA] at e1
  injection e1 with e1
  subst e1
  have hcell : w.cell? (((⟨g, off, none⟩ : Addr).add (ix * 1)).add 0) = some u := by
    rw [plain_addr, plain_addr, Nat.mul_one, Nat.add_zero]
    exact hc ix u hcu
  generalize (((⟨g, off, none⟩ : Addr).add (ix * 1)).add 0) = ad at hv hcell
  refine fine_same hm (u := u) ?_ hdu ?_
  · simp [execOp, hv, Instr.loadAt, Instr.sureAddr, loadVar, run_isAgg_sc hu hp, hcell]
  · have := hm.wf id
    rw [hH] at this
    exact this
theorem fine_load_pre {t id ix cc : Nat} {ys : List Int} {kk : Option (K × Nat)} {z : SC} {x : Operand} {ev : Operand → Value} (hT : TabOk P T) (ht : look T t = some (.sc kk z)) (hm : Mem B w0 ρ φ U H w) (hH : H id = .pre .int ys cc)
    (hd : DenV ρ (.w (.c (.el id ix 1 0))) (ev x)) (hi : ix < ys.length) (dst) (tt) (pos) (af) (gd) :
    Fine B w0 ρ U H ((execOp ev ⟨dst, .load t x, tt, pos, af, gd⟩).run P w) (.w (.c (.i (ys.getD ix 0)))) [] n n := by
  obtain ⟨i, d, v, hi', hs', hu, hp, _⟩ := td_sc hT ht
  obtain ⟨h0, h1, e, cs, ho, hc⟩ := mem_pre hm hH
  obtain ⟨a, n', c', hρ, hv⟩ := hd
  obtain ⟨A, cap, hρ2, _, _, hpos⟩ := own_slice0 ho
  obtain ⟨g, cur, hA, hh, hsz, htk⟩ := hpos (by omega)
  rw [hρ] at hρ2
  injection hρ2 with e1
  rw [hA] at e1
  injection e1 with e1
  subst e1
  have hcu : cs[ix]? = some (.int .i64 (ys.getD ix 0)) := by
    have hg : ys[ix]? = some (ys.getD ix 0) := by rw [List.getD_eq_getElem?_getD, List.getElem?_eq_getElem hi]; rfl
    have := hc ix _ hg 0 (.i (ys.getD ix 0)) rfl
    simpa [FK.size, cvv] using this
  have hcell : w.cell? (((⟨g, 0, none⟩ : Addr).add (ix * 1)).add 0) = some (.int .i64 (ys.getD ix 0)) := by
    rw [plain_addr, plain_addr, cell_of_row w g _ cur e (0, 0) hh]
    rw [← htk, List.getElem?_take] at hcu
    split at hcu
    · simpa using hcu
    · cases hcu
  generalize (((⟨g, 0, none⟩ : Addr).add (ix * 1)).add 0) = ad at hv hcell
  refine fine_same hm (u := .int .i64 (ys.getD ix 0)) ?_ rfl (fun _ h => h.elim)
  simp [execOp, hv, Instr.loadAt, Instr.sureAddr, loadVar, run_isAgg_sc hu hp, hcell]
theorem fine_index_room {id e t jx : Nat} {k' : K} {e' : Nat} {rows : List RoomR} {c z : SC} {x y : Operand} {j : Int} {ev : Operand → Value} (hT : TabOk P T) (ht : look T t = some (.sc (some (k', e')) z)) (hk : k' = .rows .int) (hm : Mem B w0 ρ φ U H w) (hH : H id = .room e rows jx c)
    (hd : DenV ρ (.w (.c (.fs id))) (ev x)) (hy : DenV ρ (.w (.c (.i j))) (ev y)) (hj : 0 ≤ j ∧ j < (rows.length : Int)) (dst) (tt) (pos) (af) (gd) :
    Fine B w0 ρ U H ((execOp ev ⟨dst, .indexAddr t x y, tt, pos, af, gd⟩).run P w) (.w (.c (.el id j.toNat 1 0))) [] n n := by
  subst hk
  obtain ⟨i, zv, hu, hi, hs, _⟩ := el_run hT ht
  obtain ⟨h0, us, hl, hsl, _⟩ := mem_room hm hH
  obtain ⟨A, cap, hρ, h1, h2, hpos⟩ := slat_slice hsl
  obtain ⟨g, off, cur, rfl, hh, hsz, hc⟩ := hpos (by omega)
  have hv' : ev x = .slice (some ⟨g, off, none⟩) us.length cap := hd.1.trans hρ
  have hs1 : i.size = 1 := hs
  rw [← hl] at hj
  refine fine_same hm (u := .pointer (some ((⟨g, off, none⟩ : Addr).add (j.toNat * 1)))) ?_ ⟨⟨g, off, none⟩, us.length, cap, hρ, by rw [add_zero]⟩ (fun q hq => by simp only [SC.ids] at hq; subst hq; exact hm.used _ (by rw [hH]; rfl))
  simp [execOp, Instr.indexAt, hv', den_i hy, asIntOf, run_underlying hu, run_sizeOf' hi, hs1, hj]
theorem fine_len_room {id e t jx : Nat} {kk : K × Nat} {rows : List RoomR} {c z : SC} {x : Operand} {ev : Operand → Value} (hT : TabOk P T) (ht : look T t = some (.sc (some kk) z)) (hm : Mem B w0 ρ φ U H w) (hH : H id = .room e rows jx c)
    (hd : DenV ρ (.w (.c (.fs id))) (ev x)) (dst) (tt) (pos) (af) (gd) :
    Fine B w0 ρ U H ((execOp ev ⟨dst, .call ⟨.builtin .len, #[x], #[t]⟩, tt, pos, af, gd⟩).run P w) (.w (.c (.i (rows.length : Int)))) [] n n := by
  obtain ⟨k', e'⟩ := kk
  obtain ⟨i, zv, hu, _⟩ := el_run hT ht
  obtain ⟨h0, us, hl, hsl, _⟩ := mem_room hm hH
  obtain ⟨A, cap, hρ, _⟩ := slat_slice hsl
  have hv' : ev x = .slice A rows.length cap := by rw [← hl]; exact hd.1.trans hρ
  refine fine_same hm (u := .int .i64 (rows.length : Int)) ?_ rfl (fun _ h => h.elim)
  simp [execOp, resolve, invoke, builtin, Builtin.len_, hv', run_underlying hu]
  rfl
theorem fine_slice_room {id e t jx : Nat} {k' : K} {e' : Nat} {rows : List RoomR} {z : SC} {x lo : Operand} {j : Int} {ev : Operand → Value} (hT : TabOk P T) (ht : look T t = some (.sc (some (k', e')) z)) (hk : k' = .rows .int) (hm : Mem B w0 ρ φ U H w) (hn : ¬ U n) (hH : H id = .room e rows jx .u)
    (hd : DenV ρ (.w (.c (.fs id))) (ev x)) (hy : DenV ρ (.w (.c (.i j))) (ev lo)) (hj : 0 ≤ j ∧ j < (rows.length : Int)) (dst) (tt) (pos) (af) (gd) :
    Fine B w0 ρ U H ((execOp ev ⟨dst, .slice t x (some lo) none none, tt, pos, af, gd⟩).run P w) (.w (.c (.fs n))) [(id, .dead), (n, .room e (rows.drop j.toNat) 0 .u)] n (n + 1) := by
  subst hk
  obtain ⟨i, zv, hu, hi, hs, _⟩ := el_run hT ht
  have hs1 : i.size = 1 := hs
  obtain ⟨h0, us, hl, hsl, hsep, hr, _⟩ := mem_room hm hH
  have ho : (H id).own = true := by rw [hH]; rfl
  have hli : (H id).live = true := by rw [hH]; rfl
  rcases hsl with ⟨hv0, rfl⟩ | ⟨g, off, cap, cur, hρ, hh, h1, h2, h3, h4⟩
  · simp at hl; omega
  have hv' : ev x = .slice (some ⟨g, off, none⟩) us.length cap := hd.1.trans hρ
  have hy' : ev lo = .int .i64 j := den_i hy
  let v' : Value := .slice (some ⟨g, off + j.toNat, none⟩) (us.length - j.toNat) (cap - j.toNat)
  have hrun : (execOp ev ⟨dst, .slice t x (some lo) none none, tt, pos, af, gd⟩).run P w = .ok (.value v') w := by
    have hcap : ¬ cap = j.toNat := by omega
    have hj2 : j ≤ (us.length : Int) := by omega
    simp [execOp, Instr.sliceAt, Instr.slice, hv', hy', run_underlying hu, Instr.sliceBounds, Instr.sliceBound, asIntOf, run_sizeOf' hi, hs1, hj.1, hj2, hcap, plain_addr, v']
  have hblk : ∀ b, v'.ownBlock = some b ↔ (ρ id).ownBlock = some b := fun b => by rw [hρ]; exact Iff.rfl
  have hg := hm.gather (w' := w) [id] n (.room e (rows.drop j.toNat) 0 .u) v' (φ id) (by simp [ho]) (fun h => absurd h hn) (fun _ _ _ => rfl) rfl rfl rfl (Nat.le_refl _) (fun _ h => h.elim)
    ⟨fun b hb => h0 b ((hblk b).1 hb), us.drop j.toNat, by simp [hl], .inr ⟨g, off + j.toNat, cap - j.toNat, cur, by simp [v'], hh, by simp; omega, by omega, by omega, ?_⟩, fun i1 j1 u v hne hu hv => hsep (j.toNat + i1) (j.toNat + j1) u v (by omega) (by rw [← List.getElem?_drop]; exact hu) (by rw [← List.getElem?_drop]; exact hv), fun i1 x1 _ hx1 => ?_, fun hc => absurd rfl hc⟩
    (fun _ b hb => hm.lt id hli b hb) (fun b hb => .inr ⟨id, by simp, hb⟩)
  · have hfun : applyD H [(id, .dead), (n, .room e (rows.drop j.toNat) 0 .u)] = upd (fun z => if z ∈ [id] then HB.dead else H z) n (.room e (rows.drop j.toNat) 0 .u) := applyD_gather [id] n _ H
    rw [← hfun] at hg
    refine ⟨v', w, _, _, .inl hrun, hg.mono fun q hq => ?_, fun q hq => upd_ne _ _ (by rintro rfl; exact hn hq), ⟨(upd_same _ _ _).symm, _, _, _, rfl⟩, fun q hq => ?_⟩
    · rcases hq with hq | rfl
      · exact .inl hq
      · exact .inr ⟨Nat.le_refl _, Nat.lt_succ_self _⟩
    · simp only [SC.ids] at hq
      subst hq
      exact .inr ⟨Nat.le_refl _, Nat.lt_succ_self _⟩
  · rw [← h4, List.drop_take, List.drop_drop, List.length_take, List.length_drop]
    simp [h3]
  · rw [List.getElem?_drop] at hx1
    obtain ⟨u, hu, hrr⟩ := hr (j.toNat + i1) x1 (fun _ => rfl) hx1
    exact ⟨u, by rw [List.getElem?_drop]; exact hu, hrr.widen fun b hb => ⟨hb.1, fun e => hb.2 ((hblk b).1 e)⟩⟩
theorem fine_build_room {t e q k : Nat} {z : SC} {x : Operand} {ps : Array (Nat × Operand)} {ev' : Operand → Value} (hT : TabOk P T) (ht : look T t = some (.sc (some (.rows .int, e)) z)) (hm : Mem B w0 ρ φ U H w) (hn : ¬ U n) (hps : ps.toList = [(0, x)]) (hd : DenC ρ (.st q k) (ev' x)) (hq : U q) (dst) (tt) (pos) (af) (gd) :
    Fine B w0 ρ U H ((execOp ev' ⟨dst, .buildSlice t 1 ps, tt, pos, af, gd⟩).run P w) (.w (.c (.fs n))) [(n, .room e [⟨[], k, false⟩] 0 (.st q k))] n (n + 1) := by
  obtain ⟨i, zv, hu, hi, hs', hby, hz, hzc⟩ := el_run hT ht
  have hs1 : i.size = 1 := hs'
  obtain ⟨A, cc, hρ, hvx, g1, g2⟩ := hd
  have hvc : (ev' x).cells = #[ev' x] := by rw [hvx]; rfl
  have hps' : ps = #[(0, x)] := by apply Array.ext'; simpa using hps
  have hrun : (execOp ev' ⟨dst, .buildSlice t 1 ps, tt, pos, af, gd⟩).run P w = .ok (.value (.slice (some ⟨w.heap.size, 0, none⟩) 1 1)) (w.alloc (.cells #[ev' x] e)) := by
    simp only [execOp, Instr.buildSlice, Sem.run_bind, run_underlying hu, Result.andThen_ok, run_sizeOf' hi, hs1]
    have e9 : ∀ (f : Nat → Value) (v : Value), ((Array.range 1).map f).setIfInBounds 0 v = #[v] := by
      intro f v
      apply Array.ext_getElem?
      intro i
      cases i <;> simp
    simp [run_zero hi hz, hps', Instr.fill, hvc, newRow, e9]
  have hqn : q ≠ n := by rintro rfl; exact hn hq
  have hp := hm.put (w' := w.alloc (.cells #[ev' x] e)) n (.room e [⟨[], k, false⟩] 0 (.st q k)) (.slice (some ⟨w.heap.size, 0, none⟩) 1 1) (fun b => b = w.heap.size) (fun h => absurd h hn)
    (fun b hb _ => Below.heap_alloc w _ b hb) rfl rfl rfl (by simp) (fun y hy => by simp only [SC.ids] at hy; subst hy; exact .inl hq) ?_ (fun _ b hb => by subst hb; simp) (fun b hb => .inl (by subst hb; exact Nat.le_refl _))
  · refine ⟨_, _, _, _, .inl hrun, hp.mono fun q hq => ?_, fun q hq => upd_ne _ _ (by rintro rfl; exact hn hq), ⟨(upd_same _ _ _).symm, _, _, _, rfl⟩, fun q hq => ?_⟩
    · rcases hq with hq | rfl
      · exact .inl hq
      · exact .inr ⟨Nat.le_refl _, Nat.lt_succ_self _⟩
    · simp only [SC.ids] at hq
      subst hq
      exact .inr ⟨Nat.le_refl _, Nat.lt_succ_self _⟩
  · refine ⟨fun g hg => by simpa [Value.ownBlock] using hg.symm, [ev' x], rfl, .inr ⟨w.heap.size, 0, 1, #[ev' x], rfl, heap_alloc_new w _, Nat.le_refl _, by decide, rfl, rfl⟩, fun i j u v hne hu hv => ?_, fun i x1 hi1 hx1 => ?_, fun _ => ⟨ev' x, rfl, A, cc, by rw [upd_ne _ _ hqn]; exact hρ, hvx, g1, g2⟩⟩
    · have h1 := (List.getElem?_eq_some_iff.1 hu).1
      have h2 := (List.getElem?_eq_some_iff.1 hv).1
      simp at h1 h2
      omega
    · have h1 := (List.getElem?_eq_some_iff.1 hx1).1
      simp at h1
      exact absurd (hi1 h1) (by intro h; cases h)
/-- One value behind a list. -/
theorem slat_append {t ty e : Nat} {z : SC} {v : Value} {us : List Value} {a : Addr} {cap2 : Nat} {u : Value} (hT : TabOk P T) (ht : look T t = some (.sc (some (.rows .int, e)) z)) (hs : SlAt w e v us) (hcell : w.cell? a = some u) (hone : u.oneCell' = true) (hb : (us.length + 1) * 24 ≤ 140737488355328) :
    ∃ v' w', (Builtin.append_ #[t, t] ty #[v, .slice (some a) 1 cap2]).run P w = .ok v' w' ∧ SlAt w' e v' (us ++ [u]) ∧ w.grownBy w' v.ownBlock ∧ (v'.ownBlock = v.ownBlock ∨ v'.ownBlock = some w.heap.size) := by
  obtain ⟨i, zv, hu, hi, hsz, hby, hz, hzc⟩ := el_run hT ht
  have hs1 : i.size = 1 := hsz
  have hby24 : i.bytes ≤ 24 := hby
  have hzs : zv.cells.size = 1 := by rw [← Array.length_toList, ← all2_length hzc, K.enc_length]; rfl
  have hnews : ∀ j v, [u][j]? = some v → w.cell? (a.add j) = some v := fun j v hj => by
    cases j with
    | zero => simp at hj; subst hj; rw [add_zero]; exact hcell
    | succ j => simp at hj
  have hsmall : us.length + 1 ≤ 9223372036854775807 := by omega
  have hbytes : (us.length + 1) * i.bytes ≤ 140737488355328 := Nat.le_trans (Nat.mul_le_mul_left _ hby24) hb
  have hmax : us.length + 1 ≤ maxLen := by simp only [maxLen]; omega
  rcases hs with ⟨rfl, rfl⟩ | ⟨g, off, cap, cur, rfl, hh, h1, h2, h3, h4⟩
  · have hr := Go.run_append_nil (P := P) w t ty e i zv hu hi hz a 1 cap2 [u] (by simp [hs1]) hnews (by omega) (by omega) (by simp at hbytes; omega)
    have hge := grownCap_ge w 1 0 e
    have hcm : grownCap w 1 0 e ≤ maxLen := grownCap_le_maxLen w 1 0 e (by simp only [maxLen]; omega)
    refine ⟨_, _, hr, .inr ⟨w.heap.size, 0, grownCap w 1 0 e, _, rfl, heap_alloc_new w.drew _, hge, hcm, ?_, ?_⟩, ⟨rfl, rfl, rfl, by simp, fun k hk _ => Below.heap_alloc w.drew _ k hk⟩, .inr rfl⟩
    · simp [size_zeroCells, hzs]; omega
    · simp
  · by_cases hroom : us.length + 1 ≤ cap
    · have hf := run_firstCells_some (P := P) w i.size 1 a 1 cap2 [u] (by simp [hs1]) hnews
      have hst := run_storeCells_at P g (off + us.length * i.size) e [u] 0 cur w hh (by simp [hs1]; omega) (by simpa using hone)
      simp only [Nat.add_zero] at hst
      have hr : (Builtin.append_ #[t, t] ty #[.slice (some ⟨g, off, none⟩) us.length cap, .slice (some a) 1 cap2]).run P w = .ok (.slice (some ⟨g, off, none⟩) (us.length + 1) cap) (w.setRow g (cur.toList.take (off + us.length * i.size) ++ [u] ++ cur.toList.drop (off + us.length * i.size + [u].length)).toArray) := by
        simp [Builtin.append_, run_underlying hu, sizeOf, typeInfo, hi, Builtin.lenOf, hroom, hf, plain_addr, hst]
      rw [hs1, Nat.mul_one] at hr
      refine ⟨_, _, hr, .inr ⟨g, off, cap, _, by simp, setRow_heap w g cur _ e _ hh, by simpa using hroom, h2, ?_, ?_⟩, ⟨rfl, rfl, rfl, by simp, fun k _ hk => setRow_other w g k _ (fun e => hk (by simp [Value.ownBlock, e]))⟩, .inl rfl⟩
      · simp; omega
      · have e1 : cur.toList.take (off + us.length) = cur.toList.take off ++ us := by
          have := List.take_add (l := cur.toList) (i := off) (j := us.length)
          rw [h4] at this
          exact this
        have e2 : (cur.toList.take off).length = off := by simp; omega
        simp only [List.toList_toArray]
        rw [e1, List.append_assoc, List.append_assoc, List.drop_append_of_le_length (by omega), List.drop_of_length_le (by omega : (cur.toList.take off).length ≤ off), List.nil_append, ← List.append_assoc]
        rw [List.take_append_of_le_length (by simp)]
        exact List.take_of_length_le (by simp)
    · have holds : ∀ j v, us[j]? = some v → w.cell? ((⟨g, off, none⟩ : Addr).add j) = some v := fun j v hj => by
        obtain ⟨A, c, hv, _, _, hpos⟩ := slat_slice (w := w) (e := e) (.inr ⟨g, off, cap, cur, rfl, hh, h1, h2, h3, h4⟩)
        obtain ⟨g', off', cur', hA, _, _, hc⟩ := hpos (by have := (List.getElem?_eq_some_iff.1 hj).1; omega)
        injection hv with e1
        rw [hA] at e1
        injection e1 with e1
        injection e1 with e1 e2
        subst e1 e2
        rw [plain_addr]
        exact hc j v hj
      have hr := run_append_grow (P := P) w t ty e i zv hu hi hz ⟨g, off, none⟩ us.length cap us (by simp [hs1]) holds a 1 cap2 [u] (by simp [hs1]) hnews (by omega) (by omega) (growslice_fits (by omega) hbytes)
      have hge := grownCap_ge w (us.length + 1) cap e
      have hcm : grownCap w (us.length + 1) cap e ≤ maxLen := grownCap_le_maxLen w (us.length + 1) cap e hmax
      refine ⟨_, _, hr, .inr ⟨w.heap.size, 0, grownCap w (us.length + 1) cap e, _, by simp, heap_alloc_new w.drew _, by simpa using hge, hcm, ?_, ?_⟩, ⟨rfl, rfl, rfl, by simp, fun k hk _ => Below.heap_alloc w.drew _ k hk⟩, .inr rfl⟩
      · simp [size_zeroCells, hzs]; omega
      · simp only [List.drop_zero, Array.toList_append, List.append_assoc, List.length_append, List.length_singleton]
        rw [← List.append_assoc]
        exact List.take_left' (by simp)
theorem room_of_row {e' : Nat} {ψ : Nat → Prop} {u : Value} {y : List Int} {rs : List Value} (h0 : ∀ g, u.ownBlock = some g → ψ g) (ho : w.ownsRow 0 e' 1 u y.length rs) (hrc : ∀ (i : Nat) x, y[i]? = some x → ∀ (j : Nat) cv, (FK.int.enc x)[j]? = some cv → rs[i * 1 + j]? = some (cvv cv)) : RoomRow w ψ u ⟨y, y.length, false⟩ := by
  have hc : ∀ (i : Nat) x, y[i]? = some x → rs[i]? = some (.int .i64 x) := fun i x hx => by
    have := hrc i x hx 0 (.i x) rfl
    simpa [cvv] using this
  rcases ho.2 with ⟨rfl, hn⟩ | ⟨g, cap, cur, rfl, _, hh, h1, h2, h3, h4⟩
  · have hy : y = [] := List.eq_nil_of_length_eq_zero hn
    subst hy
    exact ⟨h0, none, 0, e', [], rfl, Nat.le_refl _, Nat.zero_le _, World.ownsRow_nil _ _ _ _, Nat.le_refl _, fun h => (by cases h), fun i x hx => (by simp at hx)⟩
  · refine ⟨h0, _, cap, e', cur.toList, rfl, h1, h2, ⟨by simpa using h3, .inr ⟨g, cap, cur, rfl, Nat.zero_le _, hh, Nat.le_refl _, h2, h3, by rw [List.take_of_length_le (by simp; omega)]⟩⟩, h1, fun h => (by cases h), fun i x hx => ?_⟩
    have := hc i x hx
    rw [← h4, List.getElem?_take] at this
    split at this
    · exact this
    · cases this
/-- What a list of one row comes to. -/
structure TailAt (w : World) (ρ : Nat → Value) (φ : Nat → Nat → Prop) (U : Nat → Prop) (H : Nat → HB) (id2 : Nat) (r : RoomR) (c : SC) (a : Addr) (cap : Nat) (u : Value) (q : Nat) : Prop where
  own : (H id2).own = true
  val : ρ id2 = .slice (some a) 1 cap
  cell : w.cell? a = some u
  one : u.oneCell' = true
  row : c = .u → RoomRow w (fun b => φ id2 b ∧ (ρ id2).ownBlock ≠ some b) u r
  out : c ≠ .u → DenC ρ c u
  wf : c.wf U
  qown : (H q).own = true
  qblk : ∀ g, u.ownBlock = some g → φ q g
  qis : q = id2 ∨ ∃ fk ys cc, H q = .pre fk ys cc
theorem tail_sound {Hl : Heap} (hH : ∀ id, (hget Hl id).live = true → H id = hget Hl id) (hm : Mem B w0 ρ φ U H w) {s : SV} {id2 : Nat} {r : RoomR} {c : SC} {v : Value} (h : tailOf Hl s = some (id2, r, c)) (hd : DenV ρ s v) : v = ρ id2 ∧ ∃ a cap u q, TailAt w ρ φ U H id2 r c a cap u q := by
  unfold tailOf at h
  split at h
  · rename_i id
    have hv : v = ρ id := hd.1
    split at h
    · rename_i e r' q m hh
      split at h
      · rename_i fk ys cc hq
        simp only [Option.some.injEq, Prod.mk.injEq] at h
        obtain ⟨rfl, rfl, rfl⟩ := h
        have hid := live_room hH hh
        have hqd := live_pre hH hq
        obtain ⟨h0, us, hl, hs, _, _, ho⟩ := mem_room hm hid
        obtain ⟨u, hu, hdu⟩ := ho (by intro h; cases h)
        obtain ⟨A, cap, hρ, h1, h2, hpos⟩ := slat_slice hs
        have hl1 : us.length = 1 := by simpa using hl
        obtain ⟨g, off, cur, rfl, hheap, hsz, hcell⟩ := hpos (by omega)
        rw [hl1] at hρ
        have hwf := hm.wf id
        rw [hid] at hwf
        obtain ⟨hp0, _⟩ := mem_pre hm hqd
        have hdu' := hdu
        obtain ⟨A2, c2, hq1, hq2, _⟩ := hdu
        refine ⟨hv, _, cap, u, q, by rw [hid]; rfl, hρ, by have := hcell 0 u hu; rwa [Nat.add_zero] at this, by rw [hq2]; rfl, fun h => (by cases h), fun _ => hdu', hwf, by rw [hqd]; rfl, fun g2 hg2 => hp0 g2 ?_, .inr ⟨fk, ys, cc, hqd⟩⟩
        rw [hq1]
        rw [hq2] at hg2
        cases A2 with
        | none => cases hg2
        | some a => exact hg2
      · cases h
    · rename_i k2 e2 ys hh
      split at h
      · rename_i hk _
        subst hk
        dsimp only at h
        split at h
        · rename_i y
          simp only [Option.some.injEq, Prod.mk.injEq] at h
          obtain ⟨rfl, rfl, rfl⟩ := h
          have hid := live_arr hH hh
          have hOwn := hm.holds id
          rw [hid] at hOwn
          obtain ⟨h0, cs, ho, hc, _⟩ := hOwn
          obtain ⟨u, hu, hr⟩ := hc 0 y rfl 0 (.sl .int y) rfl
          obtain ⟨A, cap, hρ, h1, h2, hpos⟩ := own_slice0 ho
          obtain ⟨g, cur, rfl, hheap, hsz, htk⟩ := hpos (Nat.succ_pos _)
          obtain ⟨hb, e', rs, hro, hrc⟩ := hr
          have hsl : ∃ A c, u = .slice A y.length c := by
            obtain ⟨A, c, h, _⟩ := own_slice0 hro
            exact ⟨A, c, h⟩
          obtain ⟨A3, c3, hu3⟩ := hsl
          refine ⟨hv, _, cap, u, id, by rw [hid]; rfl, hρ, ?_, by rw [hu3]; rfl, fun _ => room_of_row hb hro hrc, fun h => absurd rfl h, fun _ h => h.elim, by rw [hid]; rfl, fun g2 hg2 => (hb g2 hg2).1, .inl rfl⟩
          rw [cell_of_row w g _ cur e2 (0, 0) hheap]
          have hu' : cs[0]? = some u := by simpa using hu
          rw [← htk, List.getElem?_take] at hu'
          split at hu'
          · simpa using hu'
          · cases hu'
        · cases h
      · cases h
    · cases h
  · cases h
theorem append_room {t ty e id2 : Nat} {z : SC} {D : List Nat} {ψ : Nat → Prop} {rows : List RoomR} {us : List Value} {v : Value} {r : RoomR} {c : SC} {a : Addr} {cap : Nat} {u : Value} {q : Nat} (hT : TabOk P T) (ht : look T t = some (.sc (some (.rows .int, e)) z)) (hm : Mem B w0 ρ φ U H w) (hn : ¬ U n)
    (hD : ∀ d ∈ D, (H d).own = true) (hs : SlAt w e v us) (hl : us.length = rows.length) (hsep : RowsSep us) (hr : ∀ (i : Nat) x, rows[i]? = some x → ∃ u, us[i]? = some u ∧ RoomRow w (fun b => ψ b ∧ v.ownBlock ≠ some b) u x) (h0 : ∀ g, v.ownBlock = some g → ψ g)
    (hψ : ∀ b, ψ b → ∃ d ∈ D, φ d b) (h2 : id2 ∈ D) (tl : TailAt w ρ φ U H id2 r c a cap u q) (ha : ∀ b, ψ b → ¬ φ id2 b) (hq : ∀ b, ψ b → ¬ φ q b) (hb : (rows.length + 1) * 24 ≤ 140737488355328) :
    ∃ v' w', (Builtin.append_ #[t, t] ty #[v, ρ id2]).run P w = .ok v' w' ∧ (∃ A n c, v' = .slice A n c) ∧ ∃ φ', Mem B w0 (upd ρ n v') φ' (fun y => U y ∨ y = n) (upd (fun z => if z ∈ D then HB.dead else H z) n (.room e (rows ++ [r]) rows.length c)) w' := by
  obtain ⟨v', w', hrun, g1, g2, g3⟩ := slat_append (ty := ty) hT ht hs tl.cell tl.one (by rw [hl]; exact hb) (cap2 := cap)
  have hlive : ∀ d ∈ D, (H d).live = true := fun d hd => HB.live_of_own (hD d hd)
  have hψlt : ∀ b, ψ b → b < w.heap.size := fun b hb => by
    obtain ⟨d, hd, hb⟩ := hψ b hb
    exact hm.lt d (hlive d hd) b hb
  have hl2 := hlive id2 h2
  have hblk : ∀ b, v'.ownBlock = some b → ψ b ∨ w.heap.size ≤ b := fun b hb => by
    rcases g3 with h | h
    · rw [h] at hb; exact .inl (h0 b hb)
    · rw [h] at hb; injection hb with hb; exact .inr (by omega)
  have keep1 : ∀ b, ψ b ∧ v.ownBlock ≠ some b → w'.heap[b]? = w.heap[b]? ∧ (ψ b ∨ φ id2 b ∨ v'.ownBlock = some b) ∧ v'.ownBlock ≠ some b := by
    rintro b ⟨hb1, hb2⟩
    have hlt := hψlt b hb1
    refine ⟨g2.block b hlt (fun e => hb2 e.symm), .inl hb1, fun e => ?_⟩
    rcases g3 with h | h
    · rw [h] at e; exact hb2 e
    · rw [h] at e; injection e with e; omega
  have keep2 : ∀ b, φ id2 b ∧ (ρ id2).ownBlock ≠ some b → w'.heap[b]? = w.heap[b]? ∧ (ψ b ∨ φ id2 b ∨ v'.ownBlock = some b) ∧ v'.ownBlock ≠ some b := by
    rintro b ⟨hb1, _⟩
    have hlt := hm.lt id2 hl2 b hb1
    have hno : v.ownBlock ≠ some b := fun e => ha b (h0 b e) hb1
    refine ⟨g2.block b hlt (fun e => hno e.symm), .inr (.inl hb1), fun e => ?_⟩
    rcases g3 with h | h
    · rw [h] at e; exact hno e
    · rw [h] at e; injection e with e; omega
  have hg := hm.gather (w' := w') D n (.room e (rows ++ [r]) rows.length c) v' (fun b => ψ b ∨ φ id2 b ∨ v'.ownBlock = some b) hD (fun h => absurd h hn)
    (fun b hb h => g2.block b hb (fun e => by obtain ⟨d, hd, hφ⟩ := hψ b (h0 b e.symm); exact h d hd hφ)) g2.os g2.tape g2.output g2.size (SC.wf.mono tl.wf fun _ h => .inl h)
    ⟨fun g hg => .inr (.inr hg), us ++ [u], by simp [hl], g1, fun i j x y hne hx hy g hgx => ?_, fun i x hi hx => ?_, fun hc => ⟨u, ?_, (tl.out hc).anchors fun y hy => upd_ne _ _ (by rintro rfl; exact hn (tl.wf _ hy))⟩⟩ (fun _ b hb => ?_) (fun b hb => ?_)
  · refine ⟨v', w', by rw [tl.val]; exact hrun, ?_, _, hg⟩
    obtain ⟨A, cc, h, _⟩ := slat_slice g1
    exact ⟨_, _, _, h⟩
  · -- rows lie apart
    have old : ∀ (i : Nat) x, us[i]? = some x → ∀ g, x.ownBlock = some g → ψ g := fun i x hx g hg => by
      have hi := (List.getElem?_eq_some_iff.1 hx).1
      obtain ⟨x', hx', hrr⟩ := hr i (rows[i]'(by omega)) (List.getElem?_eq_getElem (by omega))
      rw [hx] at hx'
      injection hx' with hx'
      subst hx'
      exact (hrr.1 g hg).1
    rw [List.getElem?_append] at hx hy
    split at hx <;> split at hy
    · exact hsep i j x y hne hx hy g hgx
    · have hy' : y = u := by
        have h1 := (List.getElem?_eq_some_iff.1 hy).1
        simp at h1
        have : j - us.length = 0 := by omega
        rw [this] at hy
        simpa using hy.symm
      subst hy'
      exact fun e => hq g (old i x hx g hgx) (tl.qblk g e)
    · have hx' : x = u := by
        have h1 := (List.getElem?_eq_some_iff.1 hx).1
        simp at h1
        have : i - us.length = 0 := by omega
        rw [this] at hx
        simpa using hx.symm
      subst hx'
      exact fun e => hq g (old j y hy g e) (tl.qblk g hgx)
    · have h1 := (List.getElem?_eq_some_iff.1 hx).1
      have h2 := (List.getElem?_eq_some_iff.1 hy).1
      simp at h1 h2
      omega
  · rw [List.getElem?_append] at hx
    split at hx
    · rename_i hlt
      obtain ⟨x', hx', hrr⟩ := hr i x hx
      exact ⟨x', by rw [List.getElem?_append_left (by omega)]; exact hx', (hrr.agree fun b hb => (keep1 b hb).1).widen fun b hb => (keep1 b hb).2⟩
    · have h1 := (List.getElem?_eq_some_iff.1 hx).1
      simp at h1
      have hi0 : i = rows.length := by omega
      subst hi0
      simp at hx
      subst hx
      refine ⟨u, by rw [← hl]; simp, ((tl.row (hi rfl)).agree fun b hb => (keep2 b hb).1).widen fun b hb => (keep2 b hb).2⟩
  · rw [← hl]; simp
  · rcases hb with hb | hb | hb
    · exact Nat.lt_of_lt_of_le (hψlt b hb) g2.size
    · exact Nat.lt_of_lt_of_le (hm.lt id2 hl2 b hb) g2.size
    · rcases hblk b hb with h | h
      · exact Nat.lt_of_lt_of_le (hψlt b h) g2.size
      · rcases g1 with ⟨rfl, _⟩ | ⟨g, off, cp, cur, rfl, hh, _⟩
        · cases hb
        · have : g = b := by simpa [Value.ownBlock] using hb
          subst this
          exact (Array.getElem?_eq_some_iff.1 hh).1
  · rcases hb with hb | hb | hb
    · exact .inr (hψ b hb)
    · exact .inr ⟨id2, h2, hb⟩
    · rcases hblk b hb with h | h
      · exact .inr (hψ b h)
      · exact .inl h
theorem src_st {q m c : Nat} {fk : FK} {ys : List fk.T} {v : Value} (hm : Mem B w0 ρ φ U H w) (hH : H q = .pre fk ys c) (hd : DenC ρ (.st q m) v) (hle : m ≤ ys.length) : Src w fk v (ys.take m) := by
  obtain ⟨h0, h1, e, cs, ho, hc⟩ := mem_pre hm hH
  obtain ⟨A, cc, hρ, hv, g1, g2⟩ := hd
  obtain ⟨A', cap, hρ2, _, _, hpos⟩ := own_slice0 ho
  rw [hρ] at hρ2
  injection hρ2 with e1 e2 e3
  subst e1 e2
  refine ⟨A, m, cc, hv, by rw [List.length_take]; omega, fun hp => ?_⟩
  obtain ⟨g, cur, rfl, hh, hsz, htk⟩ := hpos (by omega)
  refine ⟨_, rfl, fun p u hu => ?_⟩
  rw [plain_addr, cell_of_row w g _ cur e (0, 0) hh]
  obtain ⟨i, j, x, cv, rfl, hx, hj, rfl⟩ := flatV_inv fk _ p u hu
  have hx' : ys[i]? = some x := by
    rw [List.getElem?_take] at hx
    split at hx
    · exact hx
    · cases hx
  have := hc i x hx' j cv hj
  rw [← htk, List.getElem?_take] at this
  split at this
  · rw [Nat.zero_add]; simpa using this
  · cases this
theorem fine_of_gather {D : List Nat} {hb : HB} {v' : Value} {w' : World} {φ' : Nat → Nat → Prop} {r : Result Next} (hn : ¬ U n) (hr : r = .ok (.value v') w') (hsl : ∃ A n c, v' = .slice A n c) (hg : Mem B w0 (upd ρ n v') φ' (fun y => U y ∨ y = n) (upd (fun z => if z ∈ D then HB.dead else H z) n hb) w') :
    Fine B w0 ρ U H r (.w (.c (.fs n))) (app (deadD D) [(n, hb)]) n (n + 1) := by
  rw [← applyD_gather] at hg
  refine ⟨v', w', _, _, .inl hr, hg.mono fun q hq => ?_, fun q hq => upd_ne _ _ (by rintro rfl; exact hn hq), ⟨(upd_same _ _ _).symm, hsl⟩, fun q hq => ?_⟩
  · rcases hq with hq | rfl
    · exact .inl hq
    · exact .inr ⟨Nat.le_refl _, Nat.lt_succ_self _⟩
  · simp only [SC.ids] at hq
    subst hq
    exact .inr ⟨Nat.le_refl _, Nat.lt_succ_self _⟩
theorem stepR_sound {op : Op} {en : Env} {Hl : Heap} {a : Operand → Value} {out : Out} (hT : TabOk P T) (hev : ∀ x, DenV ρ (ev en x) (a x)) (hwf : ∀ x, (ev en x).wf U) (hH : ∀ id, (hget Hl id).live = true → H id = hget Hl id) (hm : Mem B w0 ρ φ U H w)
    (hs : stepR T en Hl n op = some out) (hc : holdsO out.c) (hU : ∀ q, n ≤ q → q < out.n → ¬ U q) (dst) (tt) (pos) (af) (gd) :
    Fine B w0 ρ U H ((execOp a ⟨dst, op, tt, pos, af, gd⟩).run P w) out.v out.d n out.n := by
  unfold stepR at hs
  split at hs
  · rename_i t x
    have hx := hev x
    split at hs
    · rename_i id ix h
      rw [h] at hx
      split at hs
      · rename_i e rows jx q m kk z hh ht
        injection hs with hs
        subst hs
        exact fine_load_room hT ht hm (live_room hH hh) hx hc dst tt pos af gd
      · rename_i ys cc kk z hh ht
        injection hs with hs
        subst hs
        exact fine_load_pre hT ht hm (live_pre hH hh) hx hc dst tt pos af gd
      · cases hs
    · cases hs
  · rename_i t x y
    have hx := hev x
    have hy := hev y
    split at hs
    · rename_i k e z id j ht h1 h2
      rw [h1] at hx
      rw [h2] at hy
      split at hs
      · rename_i e2 rows jx c hh
        split at hs
        · rename_i hk _
          injection hs with hs
          subst hs
          exact fine_index_room hT ht hk.down hm (live_room hH hh) hx hy hc dst tt pos af gd
        · cases hs
      · cases hs
    · cases hs
  · rename_i t x lo
    have hx := hev x
    have hy := hev lo
    split at hs
    · rename_i k e z id j ht h1 h2
      rw [h1] at hx
      rw [h2] at hy
      split at hs
      · rename_i e2 rows jx hh
        split at hs
        · rename_i hk _
          injection hs with hs
          subst hs
          exact fine_slice_room hT ht hk.down hm (hU n (Nat.le_refl _) (Nat.lt_succ_self _)) (live_room hH hh) hx hy hc dst tt pos af gd
        · cases hs
      · cases hs
    · cases hs
  · rename_i c
    obtain ⟨callee, ⟨args⟩, ⟨ts⟩⟩ := c
    split at hs
    · rename_i x t hq1 hq2 hq3
      dsimp only at hq1 hq2 hq3
      subst hq1 hq2 hq3
      have hx := hev x
      split at hs
      · rename_i kk z id ht h
        rw [h] at hx
        split at hs
        · rename_i e rows jx c hh
          injection hs with hs
          subst hs
          exact fine_len_room hT ht hm (live_room hH hh) hx dst tt pos af gd
        · cases hs
      · cases hs
    · rename_i x y t t' hq1 hq2 hq3
      dsimp only at hq1 hq2 hq3
      subst hq1 hq2 hq3
      have hx := hev x
      have hy := hev y
      split at hs
      · rename_i htt
        subst htt
        split at hs
        · rename_i fk e0 z q m ht h1 h2
          rw [h1] at hx
          rw [h2] at hy
          split at hs
          · rename_i fk2 ys cc hh
            split at hs
            · rename_i hk kx ety zz _ ht2
              subst hk
              rw [ht] at ht2
              injection ht2 with e1
              injection e1 with e1 e2
              injection e1 with e1
              injection e1 with e3 e4
              subst e4
              injection hs with hs
              subst hs
              have hlen : (ys.take m).length = m := by rw [List.length_take]; have := hc.1; omega
              exact fine_append_nil (ty := 0) hT ht hm (hU n (Nat.le_refl _) (Nat.lt_succ_self _)) hx (src_st hm (live_pre hH hh) hy hc.1) (by rw [hlen]; exact hc.2) dst tt pos af gd
            · cases hs
          · cases hs
        · rename_i ety z ht h1
          rw [h1] at hx
          split at hs
          · rename_i id2 r c hh
            injection hs with hs
            subst hs
            obtain ⟨hv2, a0, cap, u, q, tl⟩ := tail_sound hH hm hh hy
            have hv : a x = .slice none 0 0 := hx
            obtain ⟨v', w', hrun, hsl, φ', hg⟩ := append_room (ty := tt) (D := [id2]) (ψ := fun _ => False) (rows := []) (us := []) hT ht hm (hU n (Nat.le_refl _) (Nat.lt_succ_self _)) (by simp [tl.own]) (.inl ⟨rfl, rfl⟩) rfl (fun i j u v _ hi => (by simp at hi)) (fun i x hx => (by simp at hx)) (fun g hg => (by cases hg)) (fun b hb => hb.elim) (by simp) tl (fun b hb => hb.elim) (fun b hb => hb.elim) (by simp)
            exact fine_of_gather (D := [id2]) (hU n (Nat.le_refl _) (Nat.lt_succ_self _)) (by simp [execOp, resolve, invoke, builtin, hv, hv2, hrun]) hsl hg
          · cases hs
        · rename_i ety z id ht h1
          rw [h1] at hx
          split at hs
          · rename_i e2 rows jx id2 r c hh hh2
            split at hs
            · rename_i hne
              obtain ⟨rfl, hne⟩ := hne
              injection hs with hs
              subst hs
              obtain ⟨hv2, a0, cap, u, q, tl⟩ := tail_sound hH hm hh2 hy
              have hid := live_room hH hh
              have hv : a x = ρ id := hx.1
              obtain ⟨h0, us, hl, hsl0, hsep, hr, _⟩ := mem_room hm hid
              have hoi : (H id).own = true := by rw [hid]; rfl
              have hqne : id ≠ q := by
                rcases tl.qis with rfl | ⟨fk, ys, cc, hq⟩
                · exact hne
                · rintro rfl; rw [hid] at hq; cases hq
              obtain ⟨v', w', hrun, hsl, φ', hg⟩ := append_room (ty := tt) (D := [id, id2]) (ψ := φ id) (rows := rows) (us := us) hT ht hm (hU n (Nat.le_refl _) (Nat.lt_succ_self _)) (by simp [hoi, tl.own]) hsl0 hl hsep (fun i x hx => hr i x (fun _ => rfl) hx) h0 (fun b hb => ⟨id, by simp, hb⟩) (by simp) tl
                (fun b hb => hm.apart id id2 hne hoi (HB.live_of_own tl.own) b hb) (fun b hb => hm.apart id q hqne hoi (HB.live_of_own tl.qown) b hb) hc
              exact fine_of_gather (D := [id, id2]) (hU n (Nat.le_refl _) (Nat.lt_succ_self _)) (by simp [execOp, resolve, invoke, builtin, hv, hv2, hrun]) hsl hg
            · cases hs
          · cases hs
        · cases hs
      · cases hs
    · cases hs
  · rename_i t m ps
    split at hs
    · rename_i e z x ht hps
      have hx := hev x
      have hw := hwf x
      split at hs
      · rename_i q k h
        rw [h] at hx hw
        split at hs
        · rename_i hm1
          subst hm1
          injection hs with hs
          subst hs
          exact fine_build_room hT ht hm (hU n (Nat.le_refl _) (Nat.lt_succ_self _)) hps hx (hw q rfl) dst tt pos af gd
        · cases hs
      · cases hs
    · cases hs
  · cases hs
end
end Go.Eng
