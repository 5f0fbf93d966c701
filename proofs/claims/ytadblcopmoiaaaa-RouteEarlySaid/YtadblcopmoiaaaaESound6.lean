/- The evaluation of one operation is sound: elements stored, append, copy, make, literals. -/
import Derived.Test.YtadblcopmoiaaaaESound5
set_option linter.unusedVariables false
set_option linter.unusedSimpArgs false
namespace Go.Eng
open Go Go.RowKit

theorem flatV_set {k : FK} {xs : List k.T} {ix : Nat} {x y : k.T} {off : Nat} {cs : List CV} (hx : xs[ix]? = some x) (hy : k.enc y = splice (k.enc x) off cs) (ho : off + cs.length ≤ k.size) (p : Nat) (hp : p < xs.length * k.size) :
    (flatV k (xs.set ix y))[p]? = if ix * k.size + off ≤ p ∧ p < ix * k.size + off + cs.length then (cs.map cvv)[p - (ix * k.size + off)]? else (flatV k xs)[p]? := by
  have hl : p < (flatV k (xs.set ix y)).length := by rw [flatV_length, List.length_set]; exact hp
  have hon : off + cs.length ≤ (k.enc x).length := by rw [k.enc_length]; exact ho
  have hsz := k.size_pos
  have hix : ix < xs.length := (List.getElem?_eq_some_iff.1 hx).1
  obtain ⟨i, j, z, cv, e1, h1, h2, h3⟩ := flatV_inv k (xs.set ix y) p _ (List.getElem?_eq_getElem hl)
  rw [List.getElem?_eq_getElem hl, h3]
  have hjs : j < k.size := by rw [← k.enc_length z]; exact (List.getElem?_eq_some_iff.1 h2).1
  rw [List.getElem?_set] at h1
  by_cases hi : ix = i
  · subst hi
    rw [if_pos rfl, if_pos hix] at h1
    injection h1 with h1
    subst h1
    rw [hy, splice_get hon] at h2
    by_cases hc : off ≤ j ∧ j < off + cs.length
    · rw [if_pos hc] at h2
      rw [if_pos (by omega)]
      have : p - (ix * k.size + off) = j - off := by omega
      rw [this, List.getElem?_map, h2]; rfl
    · rw [if_neg hc] at h2
      rw [if_neg (by omega), e1]
      exact (flatV_get k xs ix j x cv hx h2).symm
  · rw [if_neg hi] at h1
    have hne : ¬ (ix * k.size + off ≤ p ∧ p < ix * k.size + off + cs.length) := by
      rintro ⟨a, b⟩
      have a1 : ix * k.size ≤ i * k.size + j := by omega
      have b1 : i * k.size + j < ix * k.size + k.size := by omega
      rcases Nat.lt_or_ge i ix with h | h
      · have : (i + 1) * k.size ≤ ix * k.size := Nat.mul_le_mul_right _ h
        rw [Nat.succ_mul] at this
        omega
      · have : (ix + 1) * k.size ≤ i * k.size := Nat.mul_le_mul_right _ (by omega)
        rw [Nat.succ_mul] at this
        omega
    rw [if_neg hne, e1]
    exact (flatV_get k xs i j z cv h1 h2).symm

section
variable {P : Program} {T : Tab} {B : Nat} {w0 w : World} {ρ : Nat → Value} {φ : Nat → Nat → Prop} {U : Nat → Prop} {H : Nat → HB} {n : Nat}

/-- An own row, written in place. -/
theorem own_write {e sz m g cap o : Nat} {cur : Array Value} {L L' vs : List Value} (hh : w.heap[g]? = some (.cells cur e (0, 0))) (h1 : m ≤ cap) (h2 : cap ≤ maxLen) (h3 : cur.size = cap * sz) (h4 : cur.toList.take (m * sz) = L)
    (hvs : o + vs.length ≤ m * sz) (hL : L'.length = m * sz) (hp : ∀ p, p < m * sz → L'[p]? = if o ≤ p ∧ p < o + vs.length then vs[p - o]? else L[p]?) :
    (w.setRow g (cur.toList.take (o + 0) ++ vs ++ cur.toList.drop (o + 0 + vs.length)).toArray).ownsRow 0 e sz (.slice (some ⟨g, 0, none⟩) m cap) m L' := by
  have hmc : m * sz ≤ cur.size := by rw [h3]; exact Nat.mul_le_mul_right _ h1
  refine ⟨hL, .inr ⟨g, cap, _, rfl, Nat.zero_le _, setRow_heap w g cur _ e (0, 0) hh, h1, h2, by simp; omega, ?_⟩⟩
  apply List.ext_getElem?
  intro p
  simp only [Nat.add_zero]
  by_cases hlt : p < m * sz
  · rw [List.getElem?_take, if_pos hlt, hp p hlt, List.append_assoc]
    by_cases hc : o ≤ p ∧ p < o + vs.length
    · rw [if_pos hc, List.getElem?_append_right (by simp; omega), List.getElem?_append_left (by simp; omega)]
      congr 1
      simp
      omega
    · rw [if_neg hc]
      have hL' : L[p]? = cur.toList[p]? := by rw [← h4, List.getElem?_take, if_pos hlt]
      rw [hL']
      by_cases ha : p < o
      · rw [List.getElem?_append_left (by simp; omega), List.getElem?_take, if_pos ha]
      · rw [List.getElem?_append_right (by simp; omega), List.getElem?_append_right (by simp; omega), List.getElem?_drop]
        congr 1
        simp
        omega
  · rw [List.getElem?_eq_none (by rw [List.length_take]; omega), List.getElem?_eq_none (by omega)]

/-- The row of an own array that isn't empty. -/
theorem own_row {id e : Nat} {k : FK} {xs : List k.T} (hm : Mem B w0 ρ φ U H w) (hH : H id = .arr (.f k) e true xs) (hne : xs ≠ []) :
    ∃ g cap cur, ρ id = .slice (some ⟨g, 0, none⟩) xs.length cap ∧ φ id g ∧ w.heap[g]? = some (.cells cur e (0, 0)) ∧ xs.length ≤ cap ∧ cap ≤ maxLen ∧ cur.size = cap * k.size ∧ cur.toList.take (xs.length * k.size) = flatV k xs := by
  obtain ⟨h0, _, h⟩ := mem_own hm hH
  rcases h with ⟨_, hn⟩ | ⟨g, cap, cur, hv, _, hh, h1, h2, h3, h4⟩
  · exact absurd (List.eq_nil_of_length_eq_zero hn) hne
  · exact ⟨g, cap, cur, hv, h0 g (by rw [hv]; rfl), hh, h1, h2, h3, h4⟩
/-- An own array turned in place. -/
theorem mem_turn {id e g : Nat} {k : FK} {xs ys : List k.T} {cs : Array Value} (hm : Mem B w0 ρ φ U H w) (hH : H id = .arr (.f k) e true xs) (hφ : φ id g) (hb : ∀ b, (ρ id).ownBlock = some b → φ id b)
    (hown : (w.setRow g cs).ownsRow 0 e k.size (ρ id) ys.length (flatV k ys)) : Mem B w0 (upd ρ id (ρ id)) (upd φ id (φ id)) (fun y => U y ∨ y = id) (upd H id (.arr (.f k) e true ys)) (w.setRow g cs) := by
  have hl : (H id).live = true := by rw [hH]; rfl
  have ho : (H id).own = true := by rw [hH]; rfl
  refine hm.put id _ (ρ id) (φ id) (fun _ => rfl) (fun b hb h => ?_) rfl rfl rfl (by simp) trivial ?_ (fun _ b hb => by simpa using hm.lt id hl b hb) (fun b hb => .inr (.inl ⟨ho, hb⟩))
  · rcases h with h | h
    · exact absurd ho h
    · exact setRow_other _ _ _ _ (by rintro rfl; exact h hφ)
  · exact own_flat.2 ⟨hb, hown⟩
theorem upd_self {α : Type} (f : Nat → α) (i : Nat) : upd f i (f i) = f := by funext z; unfold upd; split <;> simp_all
theorem cvsOf_den {ρ : Nat → Value} : ∀ {l : List SC} {cs : List CV} {vs : List Value}, cvsOf l = some cs → vs.length = l.length → (∀ (j : Nat) c, l[j]? = some c → ∃ v, vs[j]? = some v ∧ DenC ρ c v) → vs = cs.map cvv ∧ cs.length = l.length
  | [], cs, vs, h, hl, _ => by
    injection h with h
    subst h
    exact ⟨List.eq_nil_of_length_eq_zero hl, rfl⟩
  | c :: l, cs, [], h, hl, _ => by simp at hl
  | c :: l, cs, v :: vs, h, hl, hd => by
    unfold cvsOf at h
    split at h
    · rename_i x r hx hr
      injection h with h
      subst h
      obtain ⟨h1, h2⟩ := cvsOf_den hr (by simpa using hl) (fun j c' hc => by
        have := hd (j + 1) c' (by simpa using hc)
        simpa using this)
      obtain ⟨u, hu, hdu⟩ := hd 0 c rfl
      have : v = u := by simpa using hu
      subst this
      refine ⟨?_, by simp [h2]⟩
      rw [List.map_cons, ← h1]
      congr 1
      cases c <;> simp only [SC.cv] at hx <;> first
        | (cases hx; done)
        | (injection hx with hx; subst hx; exact hdu)
    · cases h
theorem cvsOf_known : ∀ {l : List SC} {cs : List CV}, cvsOf l = some cs → known l = true
  | [], _, _ => rfl
  | c :: l, cs, h => by
    unfold cvsOf at h
    split at h
    · rename_i x r hx hr
      have ih := cvsOf_known hr
      unfold known
      cases c <;> simp only [SC.cv] at hx <;> first | (cases hx; done) | simpa [SC.known] using ih
    · cases h
theorem cvsOf_W {ρ : Nat → Value} {s : SW} {cs : List CV} {v : Value} (h : cvsOf s.cells = some cs) (hd : DenW ρ s v) : v.cells.toList = cs.map cvv ∧ cs.length = s.cells.length := by
  have hl := SW.denL hd (cvsOf_known h)
  exact cvsOf_den h (by simpa using hl.1) (fun j c hc => by
    obtain ⟨u, hu, hdu⟩ := hl.2 j c hc
    exact ⟨u, by simpa using hu, hdu⟩)

theorem fine_store_el {t id ix sz off e : Nat} {k : FK} {xs : List k.T} {s : SW} {cs : List CV} {y : k.T} {i : TypeInfo} {x z : Operand} {ev : Operand → Value} (hi : P.info? t = some i) (hs : i.size = s.cells.length) (hm : Mem B w0 ρ φ U H w) (hH : H id = .arr (.f k) e true xs)
    (hd : DenV ρ (.w (.c (.el id ix sz off))) (ev x)) (hz : DenW ρ s (ev z)) (hc : cvsOf s.cells = some cs) (hdec : k.dec (splice (k.enc (xs.getD ix k.zero)) off cs) = some y) (ho : off + cs.length ≤ k.size) (hsz : sz = k.size) (hix : ix < xs.length) (dst) (tt) (pos) (af) (gd) :
    Fine B w0 ρ U H ((execOp ev ⟨dst, .store t x z, tt, pos, af, gd⟩).run P w) .u [(id, .arr (.f k) e true (xs.set ix y))] n n := by
  subst hsz
  have hne : xs ≠ [] := by rintro rfl; simp at hix
  obtain ⟨g, cap, cur, hρ, hφ, hh, h1, h2, h3, h4⟩ := own_row hm hH hne
  obtain ⟨h0, hrow⟩ := mem_own hm hH
  obtain ⟨a, n', c', hρ', hv⟩ := hd
  rw [hρ] at hρ'
  injection hρ' with e1 e2 e3
  injection e1 with e1
  subst e1
  rw [plain_addr, plain_addr] at hv
  have hcs := cvsOf_W hc hz
  have hvs : (ev z).cells.toList.length = cs.length := by rw [hcs.1]; simp
  have hx : xs[ix]? = some (xs.getD ix k.zero) := getD_at (k := .f k) hix
  have hy := k.dec_enc hdec
  have hin : (ix + 1) * k.size ≤ xs.length * k.size := Nat.mul_le_mul_right _ hix
  rw [Nat.succ_mul] at hin
  have hcsz : xs.length * k.size ≤ cur.size := by rw [h3]; exact Nat.mul_le_mul_right _ h1
  have hrun := run_storeCells_at P g (0 + ix * k.size + off) e (ev z).cells.toList 0 cur w hh (by omega) (fun v hv => by
    rw [hcs.1] at hv
    obtain ⟨cv, _, rfl⟩ := List.mem_map.1 hv
    exact cvv_one cv)
  have hw := own_write (sz := k.size) (m := xs.length) (o := 0 + ix * k.size + off) (vs := (ev z).cells.toList) (L' := flatV k (xs.set ix y)) hh h1 h2 h3 h4 (by omega) (by rw [flatV_length, List.length_set]) (fun p hp => by
    rw [flatV_set hx hy ho p hp, hvs, hcs.1]
    simp only [Nat.zero_add])
  have hmt := mem_turn (ys := xs.set ix y) hm hH hφ h0 (by rw [hρ, List.length_set]; exact hw)
  simp only [Nat.zero_add, Nat.add_zero] at hrun hmt hv
  refine ⟨undef, _, _, _, .inr ⟨?_, rfl⟩, hmt.mono fun q hq => ?_, fun q hq => by rw [upd_self], trivial, fun q hq => hq.elim⟩
  · have hne' : (ev z).cells.size = i.size := by
      have := hcs.2
      rw [← Array.length_toList, hvs, hs]
      exact this
    simp only [execOp, hv, Instr.storeAt, Instr.sureAddr, storeVar]
    simp [run_sizeOf' hi, hne', hrun]
  · rcases hq with hq | rfl
    · exact .inl hq
    · exact .inl (used_arr hm hH)

/-! ### append -/
theorem run_append_nil (t ty e : Nat) (i : TypeInfo) (size : Nat) (ht : P.underlying t = some (.slice e)) (hi : P.info? e = some i) (v : Value) (m : Nat) (xs : List Value) (hown : w.ownsRow 0 e size v m xs) (q c : Nat) (hq : q = 0) :
    (Builtin.append_ #[t, t] ty #[v, .slice none q c]).run P w = .ok v w := by
  subst hq
  rcases hown.2 with ⟨rfl, rfl⟩ | ⟨g, cap, cur, rfl, _, _, hnc, _⟩
  · simp [Builtin.append_, run_underlying ht, sizeOf, typeInfo, hi, Builtin.lenOf, Builtin.firstCells]
  · simp [Builtin.append_, run_underlying ht, sizeOf, typeInfo, hi, Builtin.lenOf, Builtin.firstCells, hnc, storeCells]

/-- What is appended, as the machine reads it. -/
structure Src (w : World) (k : FK) (v : Value) (ys : List k.T) : Prop where
  mk :: (out : ∃ A m c, v = .slice A m c ∧ m = ys.length ∧ (0 < m → ∃ a : Addr, A = some a ∧ ∀ (p : Nat) u, (flatV k ys)[p]? = some u → w.cell? (a.add p) = some u))
theorem src_nil {k : FK} {v : Value} (hd : DenV ρ (.w (.c .nls)) v) : Src w k v [] := ⟨⟨none, 0, 0, hd, rfl, fun h => absurd h (by omega)⟩⟩
theorem view_cells {φ : Nat → Prop} {k : FK} {v : Value} {xs : List k.T} {A : Option Addr} {m c : Nat} {a : Addr} (hv : View w φ (.f k) v xs) (hs : v = .slice A m c) (ha : A = some a) : ∀ (p : Nat) u, (flatV k xs)[p]? = some u → w.cell? (a.add p) = some u := by
  obtain ⟨A', c', hv', h1, h2, h3, h4⟩ := hv
  rw [hs] at hv'
  injection hv' with e1 e2 e3
  subst e1
  intro p u hu
  obtain ⟨i, j, x, cv, e, g1, g2, g3⟩ := flatV_inv k xs p u hu
  obtain ⟨u', hu', hr⟩ := h4 a ha i x g1 j cv g2
  have hr := (CVat_flat (enc_at_flat g2)).1 hr
  subst hr
  rw [e, g3, ← add_add]
  exact hu'
theorem src_fs {id e : Nat} {k : FK} {own : Bool} {xs : List k.T} {v : Value} (hm : Mem B w0 ρ φ U H w) (hH : H id = .arr (.f k) e own xs) (hd : DenV ρ (.w (.c (.fs id))) v) : Src w k v xs := by
  have hv := mem_view hm hH
  have hv0 := hv
  obtain ⟨A, c, e1, h1, h2, h3, h4⟩ := hv
  have hs : v = .slice A xs.length c := hd.1.trans e1
  refine ⟨⟨A, xs.length, c, hs, rfl, fun hp => ?_⟩⟩
  obtain ⟨a, ha, _⟩ := h3 (by rintro rfl; simp at hp)
  exact ⟨a, ha, view_cells hv0 e1 ha⟩
theorem part_length {α : Type} (xs : List α) (lo m : Nat) (h : lo + m ≤ xs.length) : (part xs lo m).length = m := by simp [part]; omega
theorem flatV_part {k : FK} {xs : List k.T} {lo m p : Nat} {u : Value} (h : (flatV k (part xs lo m))[p]? = some u) : (flatV k xs)[lo * k.size + p]? = some u := by
  obtain ⟨i, j, x, cv, e, g1, g2, g3⟩ := flatV_inv k _ p u h
  unfold part at g1
  rw [List.getElem?_take] at g1
  split at g1
  · rw [List.getElem?_drop] at g1
    rw [e, g3]
    have := flatV_get k xs (lo + i) j x cv g1 g2
    rw [Nat.add_mul] at this
    rw [← Nat.add_assoc]
    exact this
  · cases g1
theorem src_s {id e lo m sz : Nat} {k : FK} {own : Bool} {xs : List k.T} {v : Value} (hm : Mem B w0 ρ φ U H w) (hH : H id = .arr (.f k) e own xs) (hsz : sz = k.size) (hle : lo + m ≤ xs.length) (hd : DenV ρ (.w (.c (.s id lo m sz))) v) : Src w k v (part xs lo m) := by
  subst hsz
  have hv := mem_view hm hH
  obtain ⟨A, n0, c0, A', c', hρ, hv', h1, h2, h5⟩ := hd
  refine ⟨⟨A', m, c', hv', (part_length xs lo m hle).symm, fun hp => ?_⟩⟩
  obtain ⟨a, rfl, rfl⟩ := h5 hp
  refine ⟨_, rfl, fun p u hu => ?_⟩
  rw [add_add]
  exact view_cells hv hρ rfl _ _ (flatV_part hu)

theorem append_run {t ty e : Nat} {k : FK} {z : SC} {v v2 : Value} {m : Nat} {xs ys : List k.T} (hT : TabOk P T) (ht : look T t = some (.sc (some (.f k, e)) z)) (hown : w.ownsRow 0 e k.size v xs.length (flatV k xs)) (hsrc : Src w k v2 ys) (hb : (xs.length + ys.length) * (8 * k.size) ≤ 140737488355328) :
    ∃ v' w', (Builtin.append_ #[t, t] ty #[v, v2]).run P w = .ok v' w' ∧ w'.ownsRow 0 e k.size v' (xs ++ ys).length (flatV k (xs ++ ys)) ∧ w.grownBy w' v.ownBlock ∧ (v'.ownBlock = v.ownBlock ∨ v'.ownBlock = some w.heap.size) := by
  obtain ⟨i, zv, hu, hi, hs, hby, hz, hzc⟩ := el_run hT ht
  obtain ⟨A, q, c, rfl, hq, hcell⟩ := hsrc.out
  have hk := k.size_pos
  have hs' : i.size = k.size := hs
  rcases Nat.eq_zero_or_pos q with h0 | h0
  · have : ys = [] := List.eq_nil_of_length_eq_zero (by omega)
    subst this
    cases A with
    | none =>
      refine ⟨v, w, run_append_nil t ty e i k.size hu hi v xs.length _ hown q c h0, ?_, ⟨rfl, rfl, rfl, Nat.le_refl _, fun _ _ _ => rfl⟩, .inl rfl⟩
      simpa using hown
    | some a =>
      have hl : (flatV k ([] : List k.T)).length = q * k.size := by rw [h0]; simp [flatV]
      have hmul : (xs.length + q) * i.bytes ≤ 140737488355328 := Nat.le_trans (Nat.mul_le_mul_left _ hby) (by rw [h0]; exact hb)
      have hcells : zv.cells.size = k.size := by rw [← Array.length_toList, ← all2_length hzc, K.enc_length]; rfl
      obtain ⟨v', w', g1, g2, g3, _, g5⟩ := run_append_own_at (P := P) w 0 t ty e i zv k.size i.bytes hu hi hz hs' rfl hcells hk v xs.length _ hown a q c (flatV k ([] : List k.T)) hl (fun j u h => by simp [flatV] at h) (fun u h => by simp [flatV] at h)
        (by simp only [maxLen]; have : xs.length + q ≤ (xs.length + q) * (8 * k.size) := Nat.le_mul_of_pos_right _ (by omega); simp at hb; rw [h0] at *; simp at *; omega) hmul (Nat.zero_le _)
      refine ⟨v', w', g1, ?_, g3, g5⟩
      rw [h0] at g2
      simpa [flatV] using g2
  · obtain ⟨a, rfl, hc⟩ := hcell h0
    have hl : (flatV k ys).length = q * k.size := by rw [flatV_length, hq]
    have hmul : (xs.length + q) * i.bytes ≤ 140737488355328 := Nat.le_trans (Nat.mul_le_mul_left _ hby) (by rw [hq]; exact hb)
    have hcells : zv.cells.size = k.size := by rw [← Array.length_toList, ← all2_length hzc, K.enc_length]; rfl
    have hmax : xs.length + q ≤ maxLen := by
      simp only [maxLen]
      have : xs.length + ys.length ≤ (xs.length + ys.length) * (8 * k.size) := Nat.le_mul_of_pos_right _ (by omega)
      omega
    obtain ⟨v', w', g1, g2, g3, _, g5⟩ := run_append_own_at (P := P) w 0 t ty e i zv k.size i.bytes hu hi hz hs' rfl hcells hk v xs.length _ hown a q c (flatV k ys) hl hc (fun u h => by
        unfold flatV at h
        obtain ⟨x, _, hx⟩ := List.mem_flatMap.1 h
        obtain ⟨cv, _, rfl⟩ := List.mem_map.1 hx
        exact cvv_one cv) hmax hmul (Nat.zero_le _)
    refine ⟨v', w', g1, ?_, g3, g5⟩
    rw [flatV_append, List.length_append, ← hq]
    exact g2
theorem own_slice' {e sz m : Nat} {v : Value} {L : List Value} (h : w.ownsRow 0 e sz v m L) : ∃ A n c, v = .slice A n c := by
  rcases h.2 with ⟨rfl, _⟩ | ⟨g, cap, cur, rfl, _⟩
  · exact ⟨_, _, _, rfl⟩
  · exact ⟨_, _, _, rfl⟩
theorem fine_append_fs {t id e ty : Nat} {k : FK} {z : SC} {xs ys : List k.T} {x y : Operand} {ev : Operand → Value} (hT : TabOk P T) (ht : look T t = some (.sc (some (.f k, e)) z)) (hm : Mem B w0 ρ φ U H w) (hn : ¬ U n) (hH : H id = .arr (.f k) e true xs)
    (hd : DenV ρ (.w (.c (.fs id))) (ev x)) (hsrc : Src w k (ev y) ys) (hb : (xs.length + ys.length) * (8 * k.size) ≤ 140737488355328) (dst) (tt) (pos) (af) (gd) :
    Fine B w0 ρ U H ((execOp ev ⟨dst, .call ⟨.builtin .append, #[x, y], #[t, t]⟩, tt, pos, af, gd⟩).run P w) (.w (.c (.fs n))) [(id, .dead), (n, .arr (.f k) e true (xs ++ ys))] n (n + 1) := by
  obtain ⟨h0, hown⟩ := mem_own hm hH
  have hv : ev x = ρ id := hd.1
  obtain ⟨v', w', hrun, g1, g2, g3⟩ := append_run (ty := tt) (m := 0) hT ht hown hsrc hb
  have ho : (H id).own = true := by rw [hH]; rfl
  have hl : (H id).live = true := by rw [hH]; rfl
  have hne : id ≠ n := by rintro rfl; exact hn (hm.used _ hl)
  obtain ⟨ρ', φ', m1, m2, m3⟩ := fine_put hm hn (fun g hg => by
      rcases g3 with h | h
      · rw [h] at hg; exact .inr ⟨ho, h0 g hg⟩
      · rw [h] at hg; injection hg with hg; exact .inl (by omega)) (.inl ho) hne
    (fun b hb h => by
      rcases h with h | h
      · exact absurd ho h
      · exact g2.block b hb (fun e => h (h0 b e.symm))) g2.os g2.tape g2.output g2.size g1
  refine ⟨v', w', ρ', φ', .inl ?_, m1.mono fun q hq => ?_, m2, ⟨m3.symm, own_slice' g1⟩, fun q hq => ?_⟩
  · simp [execOp, resolve, invoke, builtin, hv, hrun]
  · rcases hq with hq | rfl
    · exact .inl hq
    · exact .inr ⟨Nat.le_refl _, Nat.lt_succ_self _⟩
  · simp only [SC.ids] at hq
    subst hq
    exact .inr ⟨Nat.le_refl _, Nat.lt_succ_self _⟩
/-- A new own array. -/
theorem fine_newarr {e : Nat} {k : FK} {ys : List k.T} {v : Value} {w' : World} {r : Result Next} (hm : Mem B w0 ρ φ U H w) (hn : ¬ U n) (hr : r = .ok (.value v) w') (hg : w.grownBy w' none) (hv : v.ownBlock = none ∨ v.ownBlock = some w.heap.size)
    (hown : w'.ownsRow 0 e k.size v ys.length (flatV k ys)) : Fine B w0 ρ U H r (.w (.c (.fs n))) [(n, .arr (.f k) e true ys)] n (n + 1) := by
  have hnew : ∀ g, v.ownBlock = some g → w.heap.size ≤ g ∧ g < w'.heap.size := by
    intro g hg'
    refine ⟨?_, ?_⟩
    · rcases hv with h | h
      · rw [h] at hg'; cases hg'
      · rw [h] at hg'; injection hg' with hg'; omega
    · rcases hown.2 with ⟨rfl, _⟩ | ⟨g', cap, cur, rfl, _, hh, _⟩
      · cases hg'
      · have : g' = g := by simpa [Value.ownBlock] using hg'
        subst this
        exact (Array.getElem?_eq_some_iff.1 hh).1
  have hp := hm.put (w' := w') n (.arr (.f k) e true ys) v (fun g => v.ownBlock = some g) (fun h => absurd h hn) (fun b hb _ => hg.block b hb (by simp)) hg.os hg.tape hg.output hg.size trivial
    (own_flat.2 ⟨fun g h => h, hown⟩) (fun _ b hb => (hnew b hb).2) (fun b hb => .inl (hnew b hb).1)
  refine ⟨v, w', _, _, .inl hr, hp.mono fun q hq => ?_, fun q hq => upd_ne _ _ (by rintro rfl; exact hn hq), ⟨(upd_same _ _ _).symm, own_slice' hown⟩, fun q hq => ?_⟩
  · rcases hq with hq | rfl
    · exact .inl hq
    · exact .inr ⟨Nat.le_refl _, Nat.lt_succ_self _⟩
  · simp only [SC.ids] at hq
    subst hq
    exact .inr ⟨Nat.le_refl _, Nat.lt_succ_self _⟩
theorem fine_append_nil {t e ty : Nat} {k : FK} {z : SC} {ys : List k.T} {x y : Operand} {ev : Operand → Value} (hT : TabOk P T) (ht : look T t = some (.sc (some (.f k, e)) z)) (hm : Mem B w0 ρ φ U H w) (hn : ¬ U n)
    (hd : DenV ρ (.w (.c .nls)) (ev x)) (hsrc : Src w k (ev y) ys) (hb : ys.length * (8 * k.size) ≤ 140737488355328) (dst) (tt) (pos) (af) (gd) :
    Fine B w0 ρ U H ((execOp ev ⟨dst, .call ⟨.builtin .append, #[x, y], #[t, t]⟩, tt, pos, af, gd⟩).run P w) (.w (.c (.fs n))) [(n, .arr (.f k) e true ys)] n (n + 1) := by
  have hv : ev x = .slice none 0 0 := hd
  have hown : w.ownsRow 0 e k.size (.slice none 0 0) ([] : List k.T).length (flatV k []) := ⟨by simp [flatV], .inl ⟨rfl, rfl⟩⟩
  obtain ⟨v', w', hrun, g1, g2, g3⟩ := append_run (ty := tt) (m := 0) hT ht hown hsrc (by simpa using hb)
  exact fine_newarr hm hn (by simp [execOp, resolve, invoke, builtin, hv, hrun]) g2 g3 g1

/-! ### make, copy, literals -/
theorem flatV_replicate {k : FK} {m : Nat} {z : k.T} {p : Nat} (hp : p < m * k.size) : (flatV k (List.replicate m z))[p]? = ((k.enc z).map cvv)[p % k.size]? := by
  have hl : p < (flatV k (List.replicate m z)).length := by rw [flatV_length, List.length_replicate]; exact hp
  obtain ⟨i, j, x, cv, e, g1, g2, g3⟩ := flatV_inv k _ p _ (List.getElem?_eq_getElem hl)
  rw [List.getElem?_eq_getElem hl, g3]
  rw [List.getElem?_replicate] at g1
  split at g1
  · injection g1 with g1
    subst g1
    have hj : j < k.size := by rw [← k.enc_length z]; exact (List.getElem?_eq_some_iff.1 g2).1
    have : p % k.size = j := by rw [e, Nat.add_comm, Nat.add_mul_mod_self_right, Nat.mod_eq_of_lt hj]
    rw [this, List.getElem?_map, g2]
    rfl
  · cases g1
theorem cvz_eq {c : CV} {v : Value} (h : cvz c v = true) : v = cvv c := by
  unfold cvz at h
  split at h <;> simp_all [cvv]
theorem fine_make {t e : Nat} {k : FK} {z : SC} {x y : Operand} {a b : Int} {ev : Operand → Value} (hT : TabOk P T) (ht : look T t = some (.sc (some (.f k, e)) z)) (hm : Mem B w0 ρ φ U H w) (hn : ¬ U n)
    (hx : DenV ρ (.w (.c (.i a))) (ev x)) (hy : DenV ρ (.w (.c (.i b))) (ev y)) (hc : 0 ≤ a ∧ a ≤ b ∧ b * (8 * k.size) ≤ 281474976710656) (dst) (tt) (pos) (af) (gd) :
    Fine B w0 ρ U H ((execOp ev ⟨dst, .makeSlice t x y, tt, pos, af, gd⟩).run P w) (.w (.c (.fs n))) [(n, .arr (.f k) e true (List.replicate a.toNat k.zero))] n (n + 1) := by
  obtain ⟨i, zv, hu, hi, hs, hby, hz, hzc⟩ := el_run hT ht
  obtain ⟨h0, h1, h2⟩ := hc
  have hk := k.size_pos
  have hs' : i.size = k.size := hs
  have hby' : i.bytes ≤ 8 * k.size := hby
  have hb : (i.bytes : Int) * b ≤ 281474976710656 := by
    have h3 : (i.bytes : Int) * b ≤ ((8 * k.size : Nat) : Int) * b := Int.mul_le_mul_of_nonneg_right (by omega) (by omega)
    have h4 : ((8 * k.size : Nat) : Int) * b = b * (8 * k.size) := by rw [Int.mul_comm]; simp
    omega
  have hbb : b ≤ 140737488355328 := by
    have : b * 8 ≤ b * (8 * (k.size : Int)) := Int.mul_le_mul_of_nonneg_left (by omega) (by omega)
    omega
  have hrun := run_make (P := P) w t e i zv hu hi hz .i64 .i64 a b h0 h1 hb (by omega)
  have hzs : zv.cells.size = k.size := by rw [← Array.length_toList, ← all2_length hzc, K.enc_length]; rfl
  refine fine_newarr hm hn (v := .slice (some ⟨w.heap.size, 0, none⟩) a.toNat b.toNat) (w' := w.alloc (.cells (madeCells zv.cells (b.toNat * i.size)) e)) ?_ ⟨rfl, rfl, rfl, by simp, fun q hq _ => Below.heap_alloc w _ q hq⟩ (.inr rfl) ?_
  · have hx' := den_i hx
    have hy' := den_i hy
    simp [execOp, hx', hy', hrun]
  · refine ⟨by rw [flatV_length], .inr ⟨w.heap.size, b.toNat, _, by rw [List.length_replicate], Nat.zero_le _, heap_alloc_new w _, by rw [List.length_replicate]; omega, by simp only [maxLen]; omega, by rw [size_madeCells, hs'], ?_⟩⟩
    apply List.ext_getElem?
    intro p
    rw [List.length_replicate]
    have hab : a.toNat * k.size ≤ b.toNat * k.size := Nat.mul_le_mul_right _ (by omega)
    by_cases hp : p < a.toNat * k.size
    · rw [List.getElem?_take, if_pos hp, flatV_replicate hp]
      have hlt : p < b.toNat * i.size := by rw [hs']; omega
      have hmod : p % k.size < k.size := Nat.mod_lt _ hk
      have hq : (madeCells zv.cells (b.toNat * i.size)).toList[p]? = some (zv.cells[p % zv.cells.size]!) := by
        unfold madeCells
        rw [Array.toList_map, List.getElem?_map, Array.getElem?_toList]
        simp [hlt]
      rw [hq, hzs]
      obtain ⟨cv, hcv⟩ : ∃ cv, ((K.f k).enc (K.f k).zero)[p % k.size]? = some cv := ⟨_, List.getElem?_eq_getElem (by rw [K.enc_length]; exact hmod)⟩
      obtain ⟨u, hu', hcz⟩ := all2_get hzc (p % k.size) _ hcv
      have hu2 : zv.cells[p % k.size]? = some u := by simpa using hu'
      have e1 : zv.cells[p % k.size]! = u := by rw [getElem!_def, hu2]
      have hcz' := cvz_eq hcz
      rw [e1, hcz', List.getElem?_map]
      have e2 : (k.enc k.zero)[p % k.size]? = some cv := hcv
      rw [e2]
      rfl
    · rw [List.getElem?_eq_none (by rw [List.length_take]; omega), List.getElem?_eq_none (by rw [flatV_length, List.length_replicate]; omega)]
theorem fine_copy {t t2 id e e' : Nat} {k : FK} {k' : K} {z : SC} {xs ys : List k.T} {x y : Operand} {ev : Operand → Value} (hT : TabOk P T) (ht : look T t = some (.sc (some (k', e')) z)) (hk' : k' = .f k) (hm : Mem B w0 ρ φ U H w) (hH : H id = .arr (.f k) e true xs)
    (hd : DenV ρ (.w (.c (.fs id))) (ev x)) (hsrc : Src w k (ev y) ys) (dst) (tt) (pos) (af) (gd) :
    Fine B w0 ρ U H ((execOp ev ⟨dst, .call ⟨.builtin .copy, #[x, y], #[t, t2]⟩, tt, pos, af, gd⟩).run P w) (.w (.c (.i ((Nat.min ys.length xs.length : Nat) : Int)))) [(id, .arr (.f k) e true (ys.take xs.length ++ xs.drop ys.length))] n n := by
  subst hk'
  obtain ⟨i, zv, hu, hi, hs, hby, hz, hzc⟩ := el_run hT ht
  have hs' : i.size = k.size := hs
  obtain ⟨A, m, c, hv2, hmq, hcell⟩ := hsrc.out
  obtain ⟨h0, hrow⟩ := mem_own hm hH
  have hv : ev x = ρ id := hd.1
  have hk := k.size_pos
  by_cases hxe : xs = []
  · subst hxe
    obtain ⟨A0, n0, c0, hv0⟩ := hd.2
    have hn0 : n0 = 0 := by
      have := hrow.2
      rw [← hv, hv0] at this
      rcases this with ⟨h, _⟩ | ⟨g, cap, cur, h, _⟩
      · injection h
      · injection h
    have hxx : ys.take ([] : List k.T).length ++ ([] : List k.T).drop ys.length = [] := by simp
    rw [hxx]
    refine ⟨.int .i64 0, w, ρ, φ, .inl ?_, ?_, fun _ _ => rfl, by show Value.int .i64 0 = _; simp, fun _ h => h.elim⟩
    · have hfc : ∀ v, (Builtin.firstCells i.size 0 v).run P w = .ok #[] w ∨ True := fun _ => .inr trivial
      cases A with
      | none => cases A0 <;> simp [execOp, resolve, invoke, builtin, Builtin.copy_, hv0, hn0, hv2, run_underlying hu, Builtin.lenOf, Builtin.firstCells, run_sizeOf' hi, storeCells, goInt]
      | some a => cases A0 <;> simp [execOp, resolve, invoke, builtin, Builtin.copy_, hv0, hn0, hv2, run_underlying hu, Builtin.lenOf, Builtin.firstCells, run_sizeOf' hi, storeCells, goInt, loadCells, loadCellsFrom]
    · have : applyD H [(id, .arr (.f k) e true [])] = H := by
        show upd H id _ = H
        rw [← hH]
        exact upd_self H id
      rw [this]
      exact hm.mono fun _ h => .inl h
  · obtain ⟨g, cap, cur, hρ, hφ, hh, h1, h2, h3, h4⟩ := own_row hm hH hxe
    have hcsz : xs.length * k.size ≤ cur.size := by rw [h3]; exact Nat.mul_le_mul_right _ h1
    let q := Nat.min ys.length xs.length
    have hqx : q ≤ xs.length := Nat.min_le_right _ _
    have hqy : q ≤ ys.length := Nat.min_le_left _ _
    let news := flatV k (ys.take q)
    have hnl : news.length = q * k.size := by show (flatV k (ys.take q)).length = _; rw [flatV_length, List.length_take, Nat.min_eq_left hqy]
    have hqm : q * k.size ≤ xs.length * k.size := Nat.mul_le_mul_right _ hqx
    have hone : ∀ v ∈ news, v.oneCell' = true := fun v hv => by
      unfold news flatV at hv
      obtain ⟨x, _, hx⟩ := List.mem_flatMap.1 hv
      obtain ⟨cv, _, rfl⟩ := List.mem_map.1 hx
      exact cvv_one cv
    have hload : ∃ vs, (Builtin.firstCells i.size q (ev y)).run P w = .ok vs w ∧ vs.toList = news := by
      rcases Nat.eq_zero_or_pos m with hm0 | hm0
      · have hq0 : q = 0 := by omega
        refine ⟨#[], ?_, ?_⟩
        · rw [hv2]
          cases A <;> simp [Builtin.firstCells, hq0, loadCells, loadCellsFrom]
        · have : news.length = 0 := by rw [hnl, hq0]; simp
          simpa using (List.eq_nil_of_length_eq_zero this).symm
      · obtain ⟨a, rfl, hc⟩ := hcell hm0
        have := run_loadCells_list (P := P) w a news (fun j u hu => hc j u (by
          have e1 : ys = ys.take q ++ ys.drop q := (List.take_append_drop q ys).symm
          rw [e1, flatV_append, List.getElem?_append_left (by exact (List.getElem?_eq_some_iff.1 hu).1)]
          exact hu))
        rw [hnl] at this
        refine ⟨news.toArray, ?_, by simp⟩
        rw [hv2]
        simp only [Builtin.firstCells, hs', this]
    obtain ⟨vs, hl1, hl2⟩ := hload
    have hst := run_storeCells_at P g 0 e news 0 cur w hh (by omega) hone
    have hL : (ys.take xs.length ++ xs.drop ys.length).length = xs.length := by simp; omega
    have hw := own_write (sz := k.size) (m := xs.length) (o := 0) (vs := news) (L' := flatV k (ys.take xs.length ++ xs.drop ys.length)) hh h1 h2 h3 h4 (by omega) (by rw [flatV_length, hL]) (fun p hp => by
      have e1 : ys.take xs.length ++ xs.drop ys.length = ys.take q ++ xs.drop q := by
        rcases Nat.le_total ys.length xs.length with h | h
        · have : q = ys.length := Nat.min_eq_left h
          rw [this, List.take_of_length_le h, List.take_length]
        · have : q = xs.length := Nat.min_eq_right h
          rw [this, List.drop_eq_nil_of_le h, List.drop_length]
      rw [e1, flatV_append]
      by_cases hc : p < q * k.size
      · rw [if_pos (by omega), List.getElem?_append_left (by rw [hnl]; exact hc)]
        simp [news]
      · rw [if_neg (by omega), List.getElem?_append_right (by rw [hnl]; omega), hnl]
        have e2 : xs = xs.take q ++ xs.drop q := (List.take_append_drop q xs).symm
        have hl3 : (flatV k (xs.take q)).length = q * k.size := by rw [flatV_length, List.length_take, Nat.min_eq_left hqx]
        conv => rhs; rw [e2, flatV_append, List.getElem?_append_right (by rw [hl3]; omega), hl3])
    have hmt := mem_turn (ys := ys.take xs.length ++ xs.drop ys.length) hm hH hφ h0 (by rw [hρ, hL]; exact hw)
    simp only [Nat.zero_add, Nat.add_zero] at hst hmt
    refine ⟨.int .i64 (q : Int), _, _, _, .inl ?_, hmt.mono fun z hz => ?_, fun z hz => by rw [upd_self], rfl, fun _ h => h.elim⟩
    · have hq' : Nat.min m xs.length = q := by rw [hmq]
      rw [hv2] at hl1
      simp only [execOp, resolve, invoke, builtin, Sem.run_bind, Sem.run_pure, Result.andThen_ok, List.map_toArray, List.map_cons, List.map_nil, hv, hρ, hv2]
      simp [Builtin.copy_, run_underlying hu, Builtin.lenOf, run_sizeOf' hi, hq', hl1, hl2, hst, goInt]
    · rcases hz with hz | rfl
      · exact .inl hz
      · exact .inl (used_arr hm hH)
end
end Go.Eng
