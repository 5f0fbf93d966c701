/- A function's conditions are sound: its results; its contract. -/
import Derived.Test.YtadblcopmoiaaaaEFn
set_option linter.unusedVariables false
set_option linter.unusedSimpArgs false
namespace Go.Eng
open Go Go.RowKit
section
variable {P : Program} {T : Tab} {B : Nat} {w0 w : World} {ρ : Nat → Value} {φ : Nat → Nat → Prop} {U : Nat → Prop} {H : Nat → HB}

/-! ### Names moved on -/
def shW (n : Nat) : SW → SW
  | .c x => .c (shC n x)
  | .g l => .g (l.map (shC n))
def shH (n : Nat) : HB → HB
  | .cells o t l => .cells o t (l.map (shC n))
  | h => h
theorem conc_shift (n j : Nat) (x : AC) : x.conc (n + j) = (shC n (x.conc j).1, (x.conc j).2.map (shH n)) := by cases x <;> rfl
theorem concL_shift (n : Nat) : ∀ (l : List AC) (j : Nat), concL l (n + j) = ((concL l j).1.map (shC n), (concL l j).2.map (shH n))
  | [], j => rfl
  | x :: l, j => by
    simp only [concL]
    rw [conc_shift]
    generalize x.conc j = r
    obtain ⟨c, h⟩ := r
    simp only
    have : n + j + len (h.map (shH n)) = n + (j + len h) := by rw [len_eq, len_eq, List.length_map]; omega
    rw [this, concL_shift n l]
    simp only [app_eq, List.map_cons, List.map_append]
theorem concA_shift (n j : Nat) (x : AV) : x.conc (n + j) = (shW n (x.conc j).1, (x.conc j).2.map (shH n)) := by
  cases x with
  | c x => simp only [AV.conc]; rw [conc_shift]; rfl
  | r l => simp only [AV.conc]; rw [concL_shift]; rfl
  | p o t l =>
    simp only [AV.conc]
    have : n + j + 1 = n + (j + 1) := by omega
    rw [this, concL_shift]
    rfl
theorem concV_shift (n : Nat) : ∀ (l : List AV) (j : Nat), concV l (n + j) = ((concV l j).1.map (shW n), (concV l j).2.map (shH n))
  | [], j => rfl
  | x :: l, j => by
    simp only [concV]
    rw [concA_shift]
    generalize x.conc j = r
    obtain ⟨c, h⟩ := r
    simp only
    have : n + j + len (h.map (shH n)) = n + (j + len h) := by rw [len_eq, len_eq, List.length_map]; omega
    rw [this, concV_shift n l]
    simp only [app_eq, List.map_cons, List.map_append]
theorem shC_den {ρ ρ' : Nat → Value} {n : Nat} {c : SC} {v : Value} (hρ : ∀ i, c.ids i → ρ' (n + i) = ρ i) (h : DenC ρ c v) : DenC ρ' (shC n c) v := by
  cases c <;> simp only [DenC, shC, SC.ids] at h hρ ⊢ <;> first
    | exact h
    | (rw [hρ _ rfl]; exact h)
theorem shC_wf {n : Nat} {c : SC} {k : Nat} (h : c.wf (· < k)) : (shC n c).wf (fun x => n ≤ x ∧ x < n + k) := by
  intro x hx
  cases c <;> simp only [SC.ids, shC] at hx
  all_goals first
    | exact hx.elim
    | (subst hx; exact ⟨by omega, by have := h _ rfl; omega⟩)
theorem shW_den {ρ ρ' : Nat → Value} {n k : Nat} {s : SW} {v : Value} (hρ : ∀ i, i < k → ρ' (n + i) = ρ i) (hw : s.wf (· < k)) (h : DenW ρ s v) : DenW ρ' (shW n s) v := by
  cases s with
  | c x => exact shC_den (fun i hi => hρ i (hw i hi)) h
  | g l =>
    obtain ⟨vs, rfl, hl⟩ := h
    refine ⟨vs, rfl, by simpa using hl.1, fun j c hc => ?_⟩
    rw [List.getElem?_map] at hc
    cases hj : l[j]? with
    | none => rw [hj] at hc; cases hc
    | some c0 =>
      rw [hj] at hc
      simp at hc
      subst hc
      obtain ⟨v, hv, hd⟩ := hl.2 j c0 hj
      exact ⟨v, hv, shC_den (fun i hi => hρ i (hw c0 (List.mem_of_getElem? hj) i hi)) hd⟩
theorem shW_wf {n k : Nat} {s : SW} (h : s.wf (· < k)) : (shW n s).wf (fun x => n ≤ x ∧ x < n + k) := by
  cases s with
  | c x => exact shC_wf h
  | g l =>
    intro c hc
    obtain ⟨c0, h0, rfl⟩ := List.mem_map.1 hc
    exact shC_wf (h c0 h0)
theorem shH_holds {ρ ρ' : Nat → Value} {n k : Nat} {hb : HB} {v : Value} {ψ : Nat → Prop} (hρ : ∀ i, i < k → ρ' (n + i) = ρ i) (hw : hb.wf (· < k)) (h : Holds ρ w ψ hb v) : Holds ρ' w ψ (shH n hb) v := by
  match hb with
  | .dead => trivial
  | .arr _ _ true _ => exact h
  | .arr _ _ false _ => exact h
  | .cells o t l =>
    obtain ⟨g, cs, h1, h2, h3, hl⟩ := h
    refine ⟨g, cs, h1, h2, h3, by simpa using hl.1, fun j c hc => ?_⟩
    rw [List.getElem?_map] at hc
    cases hj : l[j]? with
    | none => rw [hj] at hc; cases hc
    | some c0 =>
      rw [hj] at hc
      simp at hc
      subst hc
      obtain ⟨v, hv, hd⟩ := hl.2 j c0 hj
      exact ⟨v, hv, shC_den (fun i hi => hρ i (hw c0 (List.mem_of_getElem? hj) i hi)) hd⟩
theorem shH_own {n : Nat} {hb : HB} : (shH n hb).own = hb.own ∧ (shH n hb).live = hb.live := by cases hb <;> exact ⟨rfl, rfl⟩
theorem shH_wf {n k : Nat} {hb : HB} (h : hb.wf (· < k)) : (shH n hb).wf (fun x => n ≤ x ∧ x < n + k) := by
  cases hb with
  | dead => trivial
  | arr k e o xs => trivial
  | cells o t l =>
    intro c hc
    obtain ⟨c0, h0, rfl⟩ := List.mem_map.1 hc
    exact shC_wf (h c0 h0)
theorem numb_get : ∀ (hs : List HB) (n : Nat) (H : Nat → HB) (i : Nat), applyD H (numb n hs) i = if n ≤ i ∧ i < n + hs.length then hget hs (i - n) else H i
  | [], n, H, i => by
    have : ¬ (n ≤ i ∧ i < n + ([] : List HB).length) := by rintro ⟨h1, h2⟩; simp at h2; omega
    rw [if_neg this]; rfl
  | h :: hs, n, H, i => by
    simp only [numb, applyD]
    rw [numb_get hs (n + 1)]
    by_cases h1 : i = n
    · subst h1
      rw [if_neg (by omega), if_pos (by simp), upd_same, Nat.sub_self]
      rfl
    · by_cases h2 : n + 1 ≤ i ∧ i < n + 1 + hs.length
      · rw [if_pos h2, if_pos (by simp; omega)]
        have : i - n = (i - (n + 1)) + 1 := by omega
        rw [this]
        rfl
      · rw [if_neg h2, if_neg (by simp; omega), upd_ne _ _ h1]
theorem ownH_get : ∀ {hs : List HB}, ownH hs = true → ∀ i, i < hs.length → (hget hs i).own = true
  | [], _, i, h => by simp at h
  | hb :: hs, h, i, hi => by
    unfold ownH at h
    split at h
    · rename_i ho
      cases i with
      | zero => exact ho
      | succ i => exact ownH_get h i (by simpa using hi)
    · cases h

/-- New blocks of a callee's join the caller's memory. -/
theorem Mem.join {w' : World} {ρR : Nat → Value} {φR : Nat → Nat → Prop} {hs : List HB} {n : Nat} (h : Mem B w0 ρ φ U H w) (hR : Mem w.heap.size w ρR φR (· < hs.length) (hget hs) w') (ho : ∀ i, i < hs.length → (hget hs i).own = true) (hU : ∀ q, n ≤ q → q < n + hs.length → ¬ U q) :
    ∃ ρ' φ', Mem B w0 ρ' φ' (U' U n (n + hs.length)) (applyD H (numb n (hs.map (shH n)))) w' ∧ (∀ i, U i → ρ' i = ρ i) ∧ ∀ i, i < hs.length → ρ' (n + i) = ρR i := by
  have hnx := h.next hR.below
  let ρ' : Nat → Value := fun i => if n ≤ i ∧ i < n + hs.length then ρR (i - n) else ρ i
  let φ' : Nat → Nat → Prop := fun i => if n ≤ i ∧ i < n + hs.length then φR (i - n) else φ i
  have nin : ∀ i, U i → ¬ (n ≤ i ∧ i < n + hs.length) := fun i hi hh => hU i hh.1 hh.2 hi
  have e1 : ∀ i, U i → ρ' i = ρ i := fun i hi => by simp only [ρ']; rw [if_neg (nin i hi)]
  have e2 : ∀ i, i < hs.length → ρ' (n + i) = ρR i := fun i hi => by simp only [ρ']; rw [if_pos (by omega), Nat.add_sub_cancel_left]
  have e3 : ∀ i, i < hs.length → φ' (n + i) = φR i := fun i hi => by simp only [φ']; rw [if_pos (by omega), Nat.add_sub_cancel_left]
  have e4 : ∀ i, U i → φ' i = φ i := fun i hi => by simp only [φ']; rw [if_neg (nin i hi)]
  have hlen : (hs.map (shH n)).length = hs.length := by simp
  have get : ∀ i, (∃ j, j < hs.length ∧ i = n + j ∧ applyD H (numb n (hs.map (shH n))) i = shH n (hget hs j)) ∨ ((∀ j, j < hs.length → i ≠ n + j) ∧ applyD H (numb n (hs.map (shH n))) i = H i) := by
    intro i
    rw [numb_get, hlen]
    by_cases hi : n ≤ i ∧ i < n + hs.length
    · refine .inl ⟨i - n, by omega, by omega, ?_⟩
      rw [if_pos hi]
      have h1 : i - n < hs.length := by omega
      simp only [hget, nth_eq]
      simp [h1]
    · exact .inr ⟨fun j hj => by omega, if_neg hi⟩
  have wfR : ∀ j, (hget hs j).wf (· < hs.length) := fun j => hR.wf j
  refine ⟨ρ', φ', ⟨hnx.base, hnx.below, fun i hi => ?_, fun i => ?_, fun i => ?_, fun i hi b hb => ?_, fun i hi b hb => ?_, fun i i' hne hi hi' b hb hb' => ?_⟩, e1, e2⟩
  · rcases get i with ⟨j, hj, rfl, hg⟩ | ⟨_, hg⟩
    · exact .inr ⟨by omega, by omega⟩
    · rw [hg] at hi; exact .inl (h.used i hi)
  · rcases get i with ⟨j, hj, rfl, hg⟩ | ⟨_, hg⟩
    · rw [hg]; exact (shH_wf (hR.wf j)).mono fun x hx => .inr hx
    · rw [hg]; exact (h.wf i).mono fun x hx => .inl hx
  · rcases get i with ⟨j, hj, rfl, hg⟩ | ⟨_, hg⟩
    · rw [hg, e2 j hj, e3 j hj]
      exact shH_holds (k := hs.length) e2 (wfR j) (hR.holds j)
    · rw [hg]
      by_cases hl : (H i).live = true
      · have hu := h.used i hl
        rw [e4 i hu, e1 i hu]
        exact (hnx.holds i).anchors (h.wf i) e1
      · have : H i = .dead := by cases hh : H i <;> simp_all [HB.live]
        rw [this]; trivial
  · rcases get i with ⟨j, hj, rfl, hg⟩ | ⟨_, hg⟩
    · rw [hg, shH_own.2] at hi
      rw [e3 j hj] at hb
      exact hR.lt j hi b hb
    · rw [hg] at hi
      rw [e4 i (h.used i hi)] at hb
      exact hnx.lt i hi b hb
  · rcases get i with ⟨j, hj, rfl, hg⟩ | ⟨_, hg⟩
    · rw [hg, shH_own.1] at hi
      rw [e3 j hj] at hb
      exact Nat.le_trans h.base (hR.low j hi b hb)
    · rw [hg] at hi
      rw [e4 i (h.used i (HB.live_of_own hi))] at hb
      exact h.low i hi b hb
  · rcases get i with ⟨j, hj, rfl, hg⟩ | ⟨_, hg⟩
    · rw [hg, shH_own.1] at hi
      rw [e3 j hj] at hb
      rcases get i' with ⟨j', hj', rfl, hg'⟩ | ⟨_, hg'⟩
      · rw [hg', shH_own.2] at hi'
        rw [e3 j' hj'] at hb'
        exact hR.apart j j' (by omega) hi hi' b hb hb'
      · rw [hg'] at hi'
        rw [e4 i' (h.used i' hi')] at hb'
        have h1 := h.lt i' hi' b hb'
        have h2 := hR.low j hi b hb
        omega
    · rw [hg] at hi
      have hl := HB.live_of_own hi
      rw [e4 i (h.used i hl)] at hb
      rcases get i' with ⟨j', hj', rfl, hg'⟩ | ⟨_, hg'⟩
      · rw [hg', shH_own.2] at hi'
        rw [e3 j' hj'] at hb'
        have h1 := h.lt i hl b hb
        have h2 := hR.low j' (ho j' hj') b hb'
        omega
      · rw [hg'] at hi'
        rw [e4 i' (h.used i' hi')] at hb'
        exact h.apart i i' hne hi hi' b hb hb'

/-! ### A call's end -/
def RetAlt (w w' : World) (v : Value) (a : Alt) : Prop := holdsO a.h ∧ ∃ ρ φ, Mem w.heap.size w ρ φ (· < (concV a.r 0).2.length) (hget (concV a.r 0).2) w' ∧ DenV ρ (resSV (concV a.r 0).1) v ∧ ∀ s ∈ (concV a.r 0).1, s.wf (· < (concV a.r 0).2.length)
def RetOk (alts : List Alt) (w : World) : Ending → World → Prop
  | .returned v, w' => ∃ a ∈ alts, RetAlt w w' v a
  | _, _ => False
theorem resSV_den {ρ : Nat → Value} {ws : List SW} {v : Value} : DenV ρ (resSV ws) v ↔ ∃ vs : List Value, All2 (DenW ρ) ws vs ∧ v = (if h : vs.toArray.size = 1 then vs.toArray[0] else .tuple vs.toArray) := by
  have many : ws.length ≠ 1 → (DenV ρ (.t ws) v ↔ ∃ vs : List Value, All2 (DenW ρ) ws vs ∧ v = (if h : vs.toArray.size = 1 then vs.toArray[0] else .tuple vs.toArray)) := by
    intro hne
    rw [denT_iff]
    constructor
    · rintro ⟨vs, rfl, h⟩
      refine ⟨vs.toList, h, ?_⟩
      rw [dif_neg]
      intro hs
      have := (all2_iff.1 h).1
      apply hne
      rw [← this]
      simpa using hs
    · rintro ⟨vs, h, rfl⟩
      have := (all2_iff.1 h).1
      rw [dif_neg]
      · exact ⟨vs.toArray, rfl, h⟩
      · intro hs
        apply hne
        rw [← this]
        simpa using hs
  match ws with
  | [x] =>
    constructor
    · intro h
      exact ⟨[v], ⟨h, trivial⟩, by simp⟩
    · rintro ⟨vs, h, rfl⟩
      match vs, h with
      | [y], h => exact h.1
  | [] => exact many (by simp)
  | x :: y :: l => exact many (by simp)
theorem val_load_sc {o : Bool} {t id off ty : Nat} {l : List SC} {k : Option (K × Nat)} {z : SC} {v0 : Value} (hT : TabOk P T) (ht : look T t = some (.sc k z)) (hm : Mem B w0 ρ φ U H w) (hH : H id = .cells o ty l) (ho : off < l.length)
    (hd : DenV ρ (.w (.c (.p id off))) v0) : ∃ u, (do loadVar t (← asAddr v0)).run P w = .ok u w ∧ DenC ρ (nth .u l off) u ∧ (nth .u l off).wf U := by
  obtain ⟨g, cs, hg, hφ, hh, hl⟩ := mem_cells hm hH
  obtain ⟨i, d, v, hi, hs, hu, hp, _⟩ := td_sc hT ht
  have hv := den_p hd hg
  have hc : l[off]? = some (nth .u l off) := by rw [nth_eq, List.getD_eq_getElem?_getD, List.getElem?_eq_getElem ho]; rfl
  obtain ⟨u, hu', hdu⟩ := hl.2 off _ hc
  refine ⟨u, ?_, hdu, wf_cells hm hH _ (nth_mem ho)⟩
  have hcell : w.cell? ⟨g, off, none⟩ = some u := by rw [cell_of_row w g off cs ty (0, 0) hh]; exact hu'
  simp [hv, asAddr, loadVar, run_isAgg_sc hu hp, hcell]
theorem val_load_st {o : Bool} {t id off ty m : Nat} {l : List SC} {fs : List FD} {z : List SC} {eq : Bool} {v0 : Value} (hT : TabOk P T) (ht : look T t = some (.st m fs z eq)) (hm : Mem B w0 ρ φ U H w) (hH : H id = .cells o ty l) (ho : off + m ≤ l.length)
    (hd : DenV ρ (.w (.c (.p id off))) v0) : ∃ u, (do loadVar t (← asAddr v0)).run P w = .ok u w ∧ DenW ρ (.g (tk m (dr off l))) u ∧ (SW.g (tk m (dr off l))).wf U := by
  obtain ⟨g, cs, hg, hφ, hh, hl⟩ := mem_cells hm hH
  obtain ⟨i, F, v, hi, hu, hs, _⟩ := td_st hT ht
  have hv := den_p hd hg
  have hsz := hl.1
  have hrun : (loadCells (⟨g, off, none⟩ : Addr) m).run P w = .ok (cs.extract off (off + m)) w := by
    have := run_loadCells_list (P := P) w ⟨g, off, none⟩ (cs.extract off (off + m)).toList (fun j v hj => by
      rw [plain_addr, cell_of_row w g _ cs ty (0, 0) hh]
      rw [Array.getElem?_toList, Array.getElem?_extract] at hj
      split at hj
      · exact hj
      · cases hj)
    have hlen : (cs.extract off (off + m)).toList.length = m := by simp; omega
    rw [hlen, Array.toArray_toList] at this
    exact this
  refine ⟨.agg (cs.extract off (off + m)), ?_, ⟨_, rfl, hl.take_drop ho⟩, ?_⟩
  · simp [hv, asAddr, loadVar, run_isAgg_st hu, run_sizeOf' hi, hs, hrun]
  · intro c hc
    rw [tk_eq, dr_eq] at hc
    exact wf_cells hm hH c (List.mem_of_mem_drop (List.mem_of_mem_take hc))
theorem loadW_sound {σ : St} {t id off : Nat} {x : SW} {v0 : Value} (hT : TabOk P T) (hm : Mem B w0 ρ φ U (hget σ.H) w) (h : loadW T t id off σ.H = some x) (hd : DenV ρ (.w (.c (.p id off))) v0) :
    ∃ u, (do loadVar t (← asAddr v0)).run P w = .ok u w ∧ DenW ρ x u ∧ x.wf U := by
  unfold loadW at h
  split at h
  · rename_i o ty l k z hh ht
    split at h
    · rename_i ho
      injection h with h
      subst h
      rw [len_eq] at ho
      exact val_load_sc hT ht hm hh ho hd
    · cases h
  · rename_i o ty l m fs z eq hh ht
    split at h
    · rename_i ho
      injection h with h
      subst h
      rw [len_eq] at ho
      exact val_load_st hT ht hm hh ho hd
    · cases h
  · cases h
theorem resWs_run {σ : St} {a : Act} {g : ResultVar → Sem Value} (hT : TabOk P T) (hm : Mem B w0 ρ φ U (hget σ.H) w) (hg : ∀ t, g (.tmp t) = pure (a.tmps.getD t undef)) (hg2 : ∀ b t, g (.cell b t) = (do loadVar t (← asAddr (a.tmps.getD b undef)))) (hd : ∀ t, DenV ρ (nth .u σ.e t) (a.tmps.getD t undef) ∧ (nth .u σ.e t).wf U) : ∀ {rs : List ResultVar} {ws : List SW}, resWs T σ rs = some ws →
    ∃ vs : List Value, (rs.mapM g).run P w = .ok vs w ∧ All2 (DenW ρ) ws vs ∧ ∀ s ∈ ws, s.wf U
  | [], ws, h => by
    simp only [resWs, Option.some.injEq] at h
    subst h
    exact ⟨[], by simp, trivial, fun s h => by cases h⟩
  | .tmp t :: rs, ws, h => by
    simp only [resWs] at h
    split at h
    · rename_i x r hx hr
      injection h with h
      subst h
      obtain ⟨vs, h1, h2, h3⟩ := resWs_run hT hm hg hg2 hd hr
      have hdt := hd t
      rw [hx] at hdt
      refine ⟨a.tmps.getD t undef :: vs, ?_, ⟨hdt.1, h2⟩, fun s hs => ?_⟩
      · rw [List.mapM_cons, hg]
        simp only [Sem.run_bind, Sem.run_pure, Result.andThen_ok, h1]
      · rcases List.mem_cons.1 hs with rfl | hs
        · exact hdt.2
        · exact h3 s hs
    · cases h
  | .cell b t :: rs, ws, h => by
    simp only [resWs] at h
    split at h
    · rename_i id off hx
      split at h
      · rename_i x r hlw hr
        injection h with h
        subst h
        obtain ⟨vs, h1, h2, h3⟩ := resWs_run hT hm hg hg2 hd hr
        have hdt := (hd b).1
        rw [hx] at hdt
        obtain ⟨u, hu, hdu, hwu⟩ := loadW_sound (P := P) hT hm hlw hdt
        refine ⟨u :: vs, ?_, ⟨hdu, h2⟩, fun s hs => ?_⟩
        · rw [List.mapM_cons, hg2]
          rw [Sem.run_bind, hu]
          simp only [Sem.run_bind, Sem.run_pure, Result.andThen_ok, h1]
        · rcases List.mem_cons.1 hs with rfl | hs
          · exact hwu
          · exact h3 s hs
      · cases h
    · cases h
theorem results_run {fn : Func} {σ : St} {a : Act} {ws : List SW} (hT : TabOk P T) (hm : Mem B w0 ρ φ U (hget σ.H) w) (hd : ∀ t, DenV ρ (nth .u σ.e t) (a.tmps.getD t undef) ∧ (nth .u σ.e t).wf U) (hws : resWs T σ fn.results.toList = some ws) :
    ∃ vs : List Value, (results fn a.tmps).run P w = .ok (if h : vs.toArray.size = 1 then vs.toArray[0] else .tuple vs.toArray) w ∧ All2 (DenW ρ) ws vs ∧ ∀ s ∈ ws, s.wf U := by
  have hres : results fn a.tmps = (do
      let vs ← fn.results.mapM (fun | ResultVar.tmp t => (pure (a.tmps.getD t undef) : Sem Value) | ResultVar.cell b t => do loadVar t (← asAddr (a.tmps.getD b undef)))
      pure (if h : vs.size = 1 then vs[0] else .tuple vs)) := by
    unfold results
    congr 1
  rw [hres, Array.mapM_eq_mapM_toList]
  generalize hgg : (fun x : ResultVar => match x with | ResultVar.tmp t => (pure (a.tmps.getD t undef) : Sem Value) | ResultVar.cell b t => do loadVar t (← asAddr (a.tmps.getD b undef))) = g
  obtain ⟨vs, hrun, hvs, hwf⟩ := resWs_run (P := P) (g := g) hT hm (fun t => by rw [← hgg]) (fun b t => by rw [← hgg]) hd hws
  refine ⟨vs, ?_, hvs, hwf⟩
  simp only [Sem.run_bind, Sem.run_map, hrun, Result.andThen_ok, Sem.run_pure]
theorem fitR_sound {σ : St} {a : Act} {ws : List SW} {r : List AV} {p : Option Prop} {vs : List Value} {w' : World} (hm : Mem B w0 ρ φ (· < σ.n) (hget σ.H) w') (hd : All2 (DenW ρ) ws vs) (hw : ∀ s ∈ ws, s.wf (· < σ.n)) (h : fitR σ ws r = some p) (hp : holdsO p) :
    ∃ ρ φ, Mem B w0 ρ φ (· < (concV r 0).2.length) (hget (concV r 0).2) w' ∧ All2 (DenW ρ) (concV r 0).1 vs ∧ ∀ s ∈ (concV r 0).1, s.wf (· < (concV r 0).2.length) := by
  unfold fitR at h
  generalize concV r 0 = q at *
  obtain ⟨ts, HR⟩ := q
  simp only at h ⊢
  split at h
  · rename_i m1 p1 he
    split at h
    · rename_i m2 q2 d hx
      split at h
      · rename_i r2 hM hi hws hwh hcov
        simp only [Option.some.injEq] at h
        subst h
        obtain ⟨hp1, hp2⟩ := andO_iff.1 hp
        obtain ⟨hq2, hr2⟩ := andO_iff.1 hp2
        obtain ⟨τ1, _, hg1, hd1⟩ := fitWs_sound (good_nil (ρ := ρ) (U := (· < σ.n)) (τ := ρ)) he hp1 hd hw
        obtain ⟨τ2, he2, hg2, hf2⟩ := fitX_sound rfl hm hg1 hx hq2
        have hM' := fitM_sound rfl hm hg2 hM hr2
        rw [len_eq] at hws hwh
        have hmem := fit_mem (τ := τ2) hm ?_ hi hwh (Nat.le_refl _)
        · have hk : hget (keepH m2 0 HR) = hget HR := funext (keepH_cover hcov)
          rw [hk] at hmem
          exact ⟨τ2, _, hmem, hd1 m2 τ2 he2, wfWs_wf hws⟩
        · intro i c hic
          rcases hM' i c (lk_mem hic) with hid | ⟨c', hc', hf⟩
          · obtain ⟨_, j, hj, hf⟩ := hf2 m2 τ2 (.refl _ _) hg2 i hid
            rw [hj] at hic
            injection hic with hic
            subst hic
            rw [Nat.sub_zero] at hf
            exact hf
          · rw [hc'] at hic
            injection hic with hic
            subst hic
            exact hf
      · cases h
    · cases h
  · cases h
theorem anyAlt_spec {σ : St} {ws : List SW} : ∀ {as : List Alt}, anyAlt σ ws as → ∃ a ∈ as, altOk σ ws a
  | [], h => h.elim
  | [a], h => ⟨a, by simp, h⟩
  | a :: b :: l, h => by
    rcases h with h | h
    · exact ⟨a, by simp, h⟩
    · obtain ⟨x, hx, h⟩ := anyAlt_spec (as := b :: l) h
      exact ⟨x, by simp [List.mem_cons.1 hx], h⟩
theorem retK_sound {F : Fr} {fn : Func} {as : List Alt} {σ : St} {a : Act} {w' : World} (hT : TabOk P T) (hS : Sim w.heap.size w F σ a w') (h : retK T fn.results.toList as σ) : ∃ v, (results fn a.tmps).run P w' = .ok v w' ∧ RetOk as w (.returned v) w' := by
  unfold retK at h
  split at h
  · rename_i ws hws
    obtain ⟨al, hal, ha⟩ := anyAlt_spec h
    unfold altOk at ha
    split at ha
    · rename_i p hp
      obtain ⟨h1, h2⟩ := andO_iff.1 ha
      obtain ⟨ρ, φ, hm, hd, _⟩ := hS.mem
      obtain ⟨vs, hrun, hvs, hwf⟩ := results_run (fn := fn) (a := a) hT hm hd hws
      obtain ⟨ρ', φ', hm', hd', hw'⟩ := fitR_sound (a := a) hm hvs hwf hp h2
      exact ⟨_, hrun, al, hal, h1, ρ', φ', hm', resSV_den.2 ⟨vs, hd', rfl⟩, hw'⟩
    · cases ha
  · cases h

/-! ### Contracts -/
def ConOk (P : Program) (f : Nat) (con : Con) : Prop := allArgs con.ps [] [] con.run fun e H r => ∀ (w : World) (vs : List Value), Start e H vs w → holdsO r.pre → Calls P f vs.toArray w (RetOk r.alts w)
theorem pad_eq (n : Nat) : pad n = List.replicate n .u := by induction n with
  | zero => rfl
  | succ n ih => rw [pad, ih]; rfl
theorem nth_pad {e : Env} {n t : Nat} : nth .u (app e (pad n)) t = nth .u e t := by
  rw [app_eq, pad_eq, nth_eq, nth_eq]
  by_cases h : t < e.length
  · simp [h, List.getElem?_append_left]
  · simp only [List.getD_eq_getElem?_getD]
    rw [List.getElem?_append_right (by omega), List.getElem?_eq_none (by omega : e.length ≤ t)]
    cases hr : (List.replicate n SV.u)[t - e.length]? with
    | none => rfl
    | some x =>
      have := List.mem_of_getElem? hr
      rw [List.mem_replicate] at this
      rw [this.2]; rfl
/-- A call's slots: its arguments, then nothing. -/
theorem args_slots {ss : List SV} {vs : List Value} {n : Nat} (hl : All2 (DenV ρ) ss vs) (hw : ∀ s ∈ ss, s.wf U) (t : Nat) :
    DenV ρ (nth .u (app ss (pad n)) t) ((vs.toArray ++ Array.replicate n undef).getD t undef) ∧ (nth .u (app ss (pad n)) t).wf U := by
  have hlen : vs.length = ss.length := (all2_iff.1 hl).1
  rw [nth_pad]
  by_cases ht : t < ss.length
  · have he : ss[t]? = some (nth .u ss t) := nth_at ht
    obtain ⟨v, hv, hd⟩ := (all2_iff.1 hl).2 t _ he
    refine ⟨?_, hw _ (List.mem_of_getElem? he)⟩
    have : (vs.toArray ++ Array.replicate n undef).getD t undef = v := by
      have h1 : t < vs.length := by omega
      have h2 : vs[t] = v := by
        have := List.getElem?_eq_getElem h1
        rw [this] at hv
        injection hv
      simp [Array.getElem?_append, h1, h2]
    rw [this]
    exact hd
  · rw [nth_out _ _ _ (by omega)]
    exact ⟨trivial, fun _ h => h.elim⟩

/-! ### Functions that are walked where they are called -/
def InlsOk (P : Program) (Is : Inls) : Prop := ∀ g en, (g, en) ∈ Is → P.funcs[g]? = some en.fn ∧ (en.fn.name == "runtime.NumGoroutine") = false
theorem inlsOk_nil : InlsOk P [] := fun _ _ h => by cases h
theorem inlsOk_cons {Is : Inls} {g : Nat} {en : InlE} (h : P.funcs[g]? = some en.fn) (hn : (en.fn.name == "runtime.NumGoroutine") = false) (hI : InlsOk P Is) : InlsOk P ((g, en) :: Is) := fun g' en' hm => by
  rcases List.mem_cons.1 hm with e | hm
  · simp only [Prod.mk.injEq] at e
    obtain ⟨rfl, rfl⟩ := e
    exact ⟨h, hn⟩
  · exact hI g' en' hm
theorem maskX_nth : ∀ (e : Env) (t : Nat), nth .u (maskX e) t = .u ∨ nth .u (maskX e) t = nth .u e t
  | [], t => .inl rfl
  | c :: l, 0 => by
    show (match keptV c with | true => c | false => .u) = .u ∨ (match keptV c with | true => c | false => .u) = c
    cases keptV c <;> simp
  | c :: l, t + 1 => maskX_nth l t
theorem maskX_length : ∀ (e : Env), (maskX e).length = e.length
  | [] => rfl
  | c :: l => by simp [maskX, maskX_length l]
theorem nth_app (a b : Env) (t : Nat) : nth .u (app a b) t = if t < a.length then nth .u a t else nth .u b (t - a.length) := by
  rw [app_eq, nth_eq, nth_eq, nth_eq]
  by_cases h : t < a.length
  · simp [h, List.getElem?_append_left]
  · simp only [if_neg h, List.getD_eq_getElem?_getD]
    rw [List.getElem?_append_right (by omega)]
theorem inl_ok {C : Cons} {Is : Inls} (hT : TabOk P T) (hC : ConsOk P C) (hP : P.follows .mixedOrders = true) (hIs : InlsOk P Is) : ∀ d, InlOk P B w0 (vcLev T C Is d)
  | 0 => fun g r h => by cases h
  | d + 1 => fun g r hg F σ a w o args k hc hr hS => by
    simp only [vcLev] at hg
    split at hg
    · rename_i en hen
      injection hg with hg
      subst hg
      obtain ⟨hfn, hname⟩ := hIs g en (lk_mem hen)
      have hname' : en.fn.name ≠ "runtime.NumGoroutine" := by simpa using hname
      unfold enter at hr
      split at hr
      · rename_i code hbody
        simp only at hr
        obtain ⟨hdef, hsz, ρ, φ, hm, hd, hF⟩ := hS
        obtain ⟨dst, op, tt, pos, af, gd⟩ := o
        simp only at hc
        unfold callee at hc
        split at hc
        · rename_i c
          split at hc
          · rename_i f hcal
            split at hc
            · rename_i g' hev
              simp only [Option.some.injEq, Prod.mk.injEq] at hc
              obtain ⟨rfl, rfl⟩ := hc
              have hden := fun x => ev_den (fun t => (hd t).1) x
              have hwf := fun x => ev_wf (fun t => (hd t).2) x
              have hf := hden f
              rw [hev] at hf
              have hf : a.eval f = .func (.func g') #[] #[] := hf
              have hargs : All2 (DenV ρ) (evs σ.e c.args.toList) (c.args.toList.map a.eval) ∧ ∀ s ∈ evs σ.e c.args.toList, s.wf (· < σ.n) := by
                generalize c.args.toList = l
                induction l with
                | nil => exact ⟨trivial, fun s h => by cases h⟩
                | cons x l ih => exact ⟨⟨hden x, ih.1⟩, fun s h => by
                    rcases List.mem_cons.1 h with rfl | h
                    · exact hwf x
                    · exact ih.2 s h⟩
              have hexec : (execOp a.eval ⟨dst, .call c, tt, pos, af, gd⟩).run P w = .ok (.enter g' (c.args.map a.eval)) w := by
                simp [execOp, resolve, hcal, hf, Deferred.ofValue, invoke, callFunc, hfn, hname', hbody]
              rw [hexec]
              show Calls P g' (c.args.map a.eval) w _
              have hargs' : (c.args.toList.map a.eval).toArray = c.args.map a.eval := by apply Array.ext'; simp [Array.toList_map]
              rw [← hargs']
              have hlen : (c.args.toList.map a.eval).length = (evs σ.e c.args.toList).length := (all2_iff.1 hargs.1).1
              have hat : ∀ t, nth .u (maskX σ.e) t = .u ∨ nth .u (maskX σ.e) t = nth .u σ.e t := maskX_nth σ.e
              have hmask : ∀ t, DenV ρ (nth .u (maskX σ.e) t) (a.tmps.getD t undef) ∧ (nth .u (maskX σ.e) t).wf (· < σ.n) := fun t => by
                rcases hat t with h | h
                · rw [h]; exact ⟨trivial, fun _ h => h.elim⟩
                · rw [h]; exact hd t
              let F' : Fr := ⟨app (maskX σ.e) F.x, fun j => if j < σ.e.length then a.tmps.getD j undef else F.v (j - σ.e.length)⟩
              have hF' : F'.ok ρ (· < σ.n) := fun j => by
                show DenV ρ (nth .u (app (maskX σ.e) F.x) j) (if j < σ.e.length then a.tmps.getD j undef else F.v (j - σ.e.length)) ∧ (nth .u (app (maskX σ.e) F.x) j).wf _
                rw [nth_app, maskX_length]
                by_cases hj : j < σ.e.length
                · rw [if_pos hj, if_pos hj]; exact hmask j
                · rw [if_neg hj, if_neg hj]; exact hF _
              refine calls_of_wp hfn hbody ?_
              have hend : ∀ σ' a' w', (match resWs T σ' en.fn.results.toList with | some ws => k (resSV ws) ⟨maskX σ.e, σ'.H, σ'.n⟩ | none => Bad 21 Nat 0) → Sim B w0 F' σ' a' w' →
                  a'.defers = [] ∧ ∃ v, (results en.fn a'.tmps).run P w' = .ok v w' ∧ (∃ s σ'', k s σ'' ∧ SimV B w0 F σ'' a w' s v) := by
                intro σ' a' w' hk hS'
                split at hk
                · rename_i ws hws
                  obtain ⟨hdef', hsz', ρ', φ', hm', hd', hF''⟩ := hS'
                  obtain ⟨vs, hrun, hvs, hwfs⟩ := results_run (fn := en.fn) (a := a') hT hm' hd' hws
                  refine ⟨hdef', _, hrun, _, _, hk, hdef, by rw [maskX_length]; exact hsz, ρ', φ', hm', fun t => ?_, fun j => ?_, resSV_den.2 ⟨vs, hvs, rfl⟩, ?_⟩
                  · by_cases ht : t < σ.e.length
                    · have := hF'' t
                      simp only [F', nth_app, maskX_length, if_pos ht] at this
                      exact this
                    · rw [nth_out _ _ _ (by rw [maskX_length]; omega)]
                      exact ⟨trivial, fun _ h => h.elim⟩
                  · have := hF'' (σ.e.length + j)
                    simp only [F', nth_app, maskX_length] at this
                    rw [if_neg (by omega), if_neg (by omega), Nat.add_sub_cancel_left] at this
                    exact this
                  · unfold resSV
                    split
                    · exact hwfs _ (by simp)
                    · exact hwfs
                · cases hk
              refine vcCode_sound (F := F') hT hC (inl_ok hT hC hP hIs d) hP code _ _ _ _ w ⟨fun σ' a' w' hk hS' => hend σ' a' w' hk hS', fun σ' a' w' hk hS' => hend σ' a' w' hk hS', fun i k hk => by cases hk⟩ hr ⟨rfl, ?_, ρ, φ, hm, fun t => ?_, hF'⟩
              · rw [app_eq, pad_eq, len_eq]
                simp
                simp at hlen
                omega
              · have := args_slots (n := en.fn.ntmps - len (evs σ.e c.args.toList)) hargs.1 hargs.2 t
                rw [len_eq, ← hlen] at this
                rw [len_eq, ← hlen]
                simpa using this
            · cases hc
          · cases hc
        · cases hc
      · cases hr
    · cases hg
theorem fn_ok {C : Cons} {Is : Inls} {A : List (Nat × LA)} {f : Nat} {fn : Func} {con : Con} (hT : TabOk P T) (hC : ConsOk P C) (hIs : InlsOk P Is) (hP : P.follows .mixedOrders = true) (hf : P.funcs[f]? = some fn) (h : vcFnI T C Is A fn con) : ConOk P f con := by
  unfold vcFnI at h
  split at h
  · rename_i c hb
    refine allArgs_mono (fun e H r hk w vs hs hpre => ?_) h
    have hk := imp_iff.1 hk hpre
    refine calls_of_wp hf hb ?_
    obtain ⟨ρ, φ, hm, hl, hw⟩ := start_mem hs
    have hlen : vs.length = e.length := (all2_iff.1 hl).1
    have hK : KOk w.heap.size w ⟨[], fun _ => undef⟩ ⟨retK T fn.results.toList r.alts, retK T fn.results.toList r.alts, []⟩ (bodyPost P fn (RetOk r.alts w)) := by
      refine ⟨fun σ a w' hk hS => ?_, fun σ a w' hk hS => ?_, fun i k hk => by cases hk⟩
      · obtain ⟨v, h1, h2⟩ := retK_sound (P := P) hT hS hk
        exact ⟨hS.defers, v, h1, h2⟩
      · obtain ⟨v, h1, h2⟩ := retK_sound (P := P) hT hS hk
        exact ⟨hS.defers, v, h1, h2⟩
    refine vcCode_sound hT hC (inl_ok hT hC hP hIs 4) hP c _ _ _ _ w hK hk ⟨rfl, ?_, ρ, φ, by show Mem _ _ ρ φ (· < len H) (hget H) w; rw [len_eq]; exact hm, fun t => ?_, fun j => ⟨trivial, fun _ h => h.elim⟩⟩
    · rw [app_eq, pad_eq, len_eq]
      simp
      omega
    · have := args_slots (n := fn.ntmps - len e) hl hw t
      rw [len_eq, ← hlen] at this
      rw [len_eq H, len_eq e, ← hlen]
      simpa using this
  · cases h

theorem gotAlts_mem {n : Nat} : ∀ {as : List Alt} {l : List (Option Prop × Out)}, gotAlts n as = some l → ∀ a ∈ as, ∃ ws hs, concV a.r n = (ws, hs) ∧ ownH hs = true ∧ (a.h, ⟨resSV ws, numb n hs, n + len hs, none⟩) ∈ l
  | [], l, hs => fun a h => by cases h
  | a :: as, l, hs => by
    simp only [gotAlts] at hs
    split at hs
    · rename_i ws hh r hc hr
      split at hs
      · rename_i ho
        injection hs with hs
        subst hs
        intro x hx
        rcases List.mem_cons.1 hx with rfl | hx
        · exact ⟨ws, hh, hc, ho, by simp⟩
        · obtain ⟨ws', hs', h1, h2, h3⟩ := gotAlts_mem hr x hx
          exact ⟨ws', hs', h1, h2, by simp [h3]⟩
      · cases hs
    · cases hs
noncomputable def lkC := @lk Con
/-- All that is told holds. -/
theorem consOk_of {C : Cons} (h : ∀ f con, (f, con) ∈ C → ConOk P f con ∧ ∃ fn c, P.funcs[f]? = some fn ∧ (fn.name == "runtime.NumGoroutine") = false ∧ fn.body = some c) : ConsOk P C := by
  intro en Hl n c f g con r p l hcal hev' hcon hrun hgot B w0 w ρ φ U H a dst tt pos af gd hev hwf hH hm hU hp hpre
  obtain ⟨hok, fn, code, hfn, hname, hbody⟩ := h g con (lk_mem hcon)
  have hname' : fn.name ≠ "runtime.NumGoroutine" := by simpa using hname
  have hf := hev f
  rw [hev'] at hf
  have hf : a f = .func (.func g) #[] #[] := hf
  have hargs : All2 (DenV ρ) (evs en c.args.toList) (c.args.toList.map a) := by
    generalize c.args.toList = l
    induction l with
    | nil => trivial
    | cons x l ih => exact ⟨hev x, ih⟩
  obtain ⟨e, Hs, hk, hst⟩ := allArgs_run hH hm hrun hp hargs start_nil hok
  have hcalls := hk w _ hst hpre
  have hexec : (execOp a ⟨dst, .call c, tt, pos, af, gd⟩).run P w = .ok (.enter g (c.args.map a)) w := by
    simp [execOp, resolve, hcal, hf, Deferred.ofValue, invoke, callFunc, hfn, hname', hbody]
  rw [hexec]
  show Calls P g (c.args.map a) w _
  have hargs' : (c.args.toList.map a).toArray = c.args.map a := by apply Array.ext'; simp [Array.toList_map]
  rw [← hargs']
  rw [List.nil_append] at hcalls
  refine Calls.mono hcalls fun en' w' hret => ?_
  cases en' with
  | panicked ch => exact hret.elim
  | outgrown => exact hret.elim
  | returned v =>
    obtain ⟨al, hal, hh, ρR, φR, hmR, hdR, hwR⟩ := hret
    obtain ⟨ws, hs, hc, ho, hmem⟩ := gotAlts_mem hgot al hal
    have hsh := concV_shift n al.r 0
    rw [Nat.add_zero, hc] at hsh
    simp only [Prod.mk.injEq] at hsh
    obtain ⟨rfl, rfl⟩ := hsh
    have hoR : ∀ i, i < (concV al.r 0).2.length → (hget (concV al.r 0).2 i).own = true := by
      intro i hi
      have := ownH_get ho i (by simpa using hi)
      have hg : hget ((concV al.r 0).2.map (shH n)) i = shH n (hget (concV al.r 0).2 i) := by
        simp only [hget, nth_eq]
        simp [hi]
      rw [hg, shH_own.1] at this
      exact this
    obtain ⟨ρ', φ', hm', h1, h2⟩ := hm.join hmR hoR (fun q hq hq' => hU _ _ hmem q hq (by simpa [len_eq] using hq'))
    refine ⟨al.h, _, hmem, hh, ρ', φ', ?_, h1, ?_, ?_⟩
    · show Mem B w0 ρ' φ' (U' U n (n + len ((concV al.r 0).2.map (shH n)))) _ w'
      rw [len_eq, List.length_map]
      exact hm'
    · obtain ⟨vs, hvs, rfl⟩ := resSV_den.1 hdR
      refine resSV_den.2 ⟨vs, ?_, rfl⟩
      generalize (concV al.r 0).1 = ws0 at hvs hwR
      clear hmem hc hdR
      induction ws0 generalizing vs with
      | nil => cases vs with
        | nil => trivial
        | cons _ _ => exact hvs.elim
      | cons x l ih => cases vs with
        | nil => exact hvs.elim
        | cons v vs => exact ⟨shW_den (fun i hi => h2 i hi) (hwR x (by simp)) hvs.1, ih vs hvs.2 (fun s hs => hwR s (by simp [hs]))⟩
    · have hall : ∀ s ∈ (concV al.r 0).1.map (shW n), s.wf (U' U n (n + len ((concV al.r 0).2.map (shH n)))) := by
        intro s hs
        obtain ⟨s0, hs0, rfl⟩ := List.mem_map.1 hs
        refine (shW_wf (hwR s0 hs0)).mono fun x hx => .inr ?_
        rw [len_eq, List.length_map]
        exact hx
      show (resSV _).wf _
      unfold resSV
      split
      · rename_i x hx
        exact hall x (by rw [hx]; simp)
      · exact hall
/-- What is told of a function holds, and it may be called. -/
def Told (P : Program) (f : Nat) (con : Con) : Prop := ConOk P f con ∧ ∃ fn c, P.funcs[f]? = some fn ∧ (fn.name == "runtime.NumGoroutine") = false ∧ fn.body = some c
def CsOk (P : Program) (C : Cons) : Prop := ∀ f con, (f, con) ∈ C → Told P f con
theorem csOk_nil : CsOk P [] := fun _ _ h => by cases h
theorem csOk_cons {C : Cons} {f : Nat} {con : Con} (h : Told P f con) (hC : CsOk P C) : CsOk P ((f, con) :: C) := fun g c hm => by
  rcases List.mem_cons.1 hm with e | hm
  · simp only [Prod.mk.injEq] at e
    obtain ⟨rfl, rfl⟩ := e
    exact h
  · exact hC g c hm
theorem toldI0 {C : Cons} {Is : Inls} {A : List (Nat × LA)} {f : Nat} {fn : Func} {con : Con} (hT : TabOk P T) (hP : P.follows .mixedOrders = true) (hC : CsOk P C) (hIs : InlsOk P Is) (hf : P.funcs[f]? = some fn) (hn : (fn.name == "runtime.NumGoroutine") = false) {p : Prop} (e : vcFnI T C Is A fn con = p) (h : p) : Told P f con := by
  subst e
  refine ⟨fn_ok hT (consOk_of hC) hIs hP hf h, fn, ?_⟩
  unfold vcFnI at h
  split at h
  · rename_i c hb
    exact ⟨c, hf, hn, hb⟩
  · cases h
end
end Go.Eng
