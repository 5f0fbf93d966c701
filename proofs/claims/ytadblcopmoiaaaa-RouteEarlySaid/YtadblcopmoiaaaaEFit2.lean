/- A state fits a form: put together. -/
import Derived.Test.YtadblcopmoiaaaaEFit
set_option linter.unusedVariables false
set_option linter.unusedSimpArgs false
namespace Go.Eng
open Go Go.RowKit
section
variable {P : Program} {T : Tab} {B : Nat} {w0 w : World} {ρ : Nat → Value} {φ : Nat → Nat → Prop} {U : Nat → Prop} {H : Nat → HB}

theorem hget_keepH : ∀ (HT : Heap) (m : Srcs) (k i : Nat), hget (keepH m k HT) i = match lk m (k + i) with | some _ => hget HT i | none => .dead
  | [], m, k, i => by
    have : hget (keepH m k []) i = .dead := by cases i <;> rfl
    rw [this]
    have h2 : hget ([] : Heap) i = .dead := by cases i <;> rfl
    rw [h2]
    split <;> rfl
  | h :: hs, m, k, 0 => by
    simp only [keepH, Nat.add_zero]
    cases lk m k <;> rfl
  | h :: hs, m, k, i + 1 => by
    have := hget_keepH hs m (k + 1) i
    have e : k + 1 + i = k + (i + 1) := by omega
    rw [e] at this
    exact this
theorem hget_out {HT : Heap} {i : Nat} (h : (hget HT i).live = true) : i < HT.length := by
  by_cases hi : i < HT.length
  · exact hi
  · have : hget HT i = .dead := nth_out _ _ _ (by omega)
    rw [this] at h; cases h
theorem wfC_wf {n : Nat} {c : SC} (h : wfC n c = true) : c.wf (· < n) := by
  intro x hx
  cases c <;> simp only [SC.ids, wfC] at hx h
  all_goals first | exact hx.elim | (subst hx; simpa [Nat.blt_eq] using h)
theorem wfL_wf {n : Nat} : ∀ {l : List SC}, wfL n l = true → ∀ c ∈ l, c.wf (· < n)
  | [], _ => fun c h => by cases h
  | c :: l, h => by
    unfold wfL at h
    split at h
    · rename_i hc
      intro x hx
      rcases List.mem_cons.1 hx with rfl | hx
      · exact wfC_wf hc
      · exact wfL_wf h x hx
    · cases h
theorem wfW_wf {n : Nat} {s : SW} (h : wfW n s = true) : s.wf (· < n) := by
  cases s with
  | c x => exact wfC_wf h
  | g l => exact wfL_wf h
theorem wfWs_wf {n : Nat} : ∀ {l : List SW}, wfWs n l = true → ∀ c ∈ l, c.wf (· < n)
  | [], _ => fun c h => by cases h
  | c :: l, h => by
    unfold wfWs at h
    split at h
    · rename_i hc
      intro x hx
      rcases List.mem_cons.1 hx with rfl | hx
      · exact wfW_wf hc
      · exact wfWs_wf h x hx
    · cases h
theorem wfV_wf {n : Nat} {s : SV} (h : wfV n s = true) : s.wf (· < n) := by
  cases s with
  | w x => exact wfW_wf h
  | t l => exact wfWs_wf h
theorem wfE_wf {n : Nat} : ∀ {l : Env}, wfE n l = true → ∀ t, (nth .u l t).wf (· < n)
  | [], _, t => fun _ h => h.elim
  | c :: l, h, t => by
    unfold wfE at h
    split at h
    · rename_i hc
      cases t with
      | zero => exact wfV_wf hc
      | succ t => exact wfE_wf h t
    · cases h
theorem wfH_wf {n : Nat} : ∀ {l : Heap}, wfH n l = true → ∀ i, (hget l i).wf (· < n)
  | [], _, i => by
    have : hget ([] : Heap) i = .dead := by cases i <;> rfl
    rw [this]; trivial
  | c :: l, h, i => by
    have hl : wfH n l = true ∧ c.wf (· < n) := by
      cases c with
      | cells o t cs =>
        simp only [wfH] at h
        split at h
        · rename_i hc
          exact ⟨h, wfL_wf hc⟩
        · cases h
      | dead => exact ⟨h, trivial⟩
      | arr k e o xs => exact ⟨h, trivial⟩
    cases i with
    | zero => exact hl.2
    | succ i => exact wfH_wf hl.1 i
theorem lk_mem {α : Type} : ∀ {m : List (Nat × α)} {i : Nat} {c : α}, lk m i = some c → (i, c) ∈ m
  | [], _, _, h => by cases h
  | (j, d) :: m, i, c, h => by
    rw [lk_cons] at h
    split at h
    · rename_i e
      injection h with h
      subst e; subst h
      simp
    · exact List.mem_cons_of_mem _ (lk_mem h)
theorem clash_spec {i : Nat} {j : Nat} : ∀ {m : Srcs}, clash i (some j) m = false → ∀ i' c', (i', c') ∈ m → i ≠ i' → srcId c' ≠ some j
  | [], _, _, _, h, _ => by cases h
  | (i0, c0) :: m, h, i', c', hm, hne => by
    unfold clash at h
    split at h
    · rename_i e
      rcases List.mem_cons.1 hm with e' | hm
      · simp only [Prod.mk.injEq] at e'
        simp at e
        exact absurd (e.trans e'.1.symm) hne
      · exact clash_spec h i' c' hm hne
    · split at h
      · rename_i a b h1 h2
        injection h1 with h1
        subst h1
        split at h
        · cases h
        · rename_i hab
          rcases List.mem_cons.1 hm with e' | hm
          · simp only [Prod.mk.injEq] at e'
            rw [e'.2, h2]
            intro e
            injection e with e
            subst e
            simp at hab
          · exact clash_spec h i' c' hm hne
      · rename_i hno
        rcases List.mem_cons.1 hm with e' | hm
        · simp only [Prod.mk.injEq] at e'
          rw [e'.2]
          intro e
          exact hno j j rfl e
        · exact clash_spec h i' c' hm hne
theorem inj_spec {HT : Heap} {all : Srcs} : ∀ {m : Srcs}, inj HT all m = true → ∀ i c, (i, c) ∈ m → (hget HT i).own = true → ∀ j, srcId c = some j → ∀ i' c', (i', c') ∈ all → i ≠ i' → srcId c' ≠ some j
  | [], _ => fun i c h => by cases h
  | (i0, c0) :: m, h => by
    intro i c hm ho j hj i' c' hm' hne
    unfold inj at h
    rcases List.mem_cons.1 hm with e | hm
    · simp only [Prod.mk.injEq] at e
      obtain ⟨rfl, rfl⟩ := e
      rw [ho] at h
      simp only at h
      split at h
      · cases h
      · rename_i hc
        rw [hj] at hc
        exact clash_spec hc i' c' hm' hne
    · split at h
      · split at h
        · cases h
        · exact inj_spec h i c hm ho j hj i' c' hm' hne
      · exact inj_spec h i c hm ho j hj i' c' hm' hne

theorem fit_mem {HT : Heap} {m : Srcs} {τ : Nat → Value} {n : Nat} (hm : Mem B w0 ρ φ U H w) (hf : ∀ i c, lk m i = some c → Fact w φ H τ (hget HT i) i c) (hi : inj HT m m = true) (hw : wfH n HT = true) (hn : HT.length ≤ n) :
    Mem B w0 τ (fun i b => ∃ c j, lk m i = some c ∧ srcId c = some j ∧ φ j b) (· < n) (hget (keepH m 0 HT)) w := by
  have hget' : ∀ i, hget (keepH m 0 HT) i = match lk m i with | some _ => hget HT i | none => .dead := fun i => by rw [hget_keepH, Nat.zero_add]
  have live : ∀ i, (hget (keepH m 0 HT) i).live = true → ∃ c, lk m i = some c ∧ (hget HT i).live = true ∧ hget (keepH m 0 HT) i = hget HT i := by
    intro i h
    rw [hget'] at h
    cases hl : lk m i with
    | none => rw [hl] at h; cases h
    | some c => rw [hl] at h; exact ⟨c, rfl, h, by rw [hget', hl]⟩
  have fact : ∀ i c, lk m i = some c → (hget HT i).live = true → (Holds τ w (fun b => ∃ j, srcId c = some j ∧ φ j b) (hget HT i) (τ i) ∧ ∀ j, srcId c = some j → (H j).live = true ∧ ((hget HT i).own = true → (H j).own = true)) := by
    intro i c hl hlive
    rcases hf i c hl with hd | h
    · rw [hd] at hlive; cases hlive
    · exact h
  have foot : ∀ i c, lk m i = some c → (fun b => ∃ c j, lk m i = some c ∧ srcId c = some j ∧ φ j b) = (fun b => ∃ j, srcId c = some j ∧ φ j b) := by
    intro i c hl
    funext b
    apply propext
    rw [hl]
    constructor
    · rintro ⟨c', j, hc', hj, hb⟩
      injection hc' with hc'
      subst hc'
      exact ⟨j, hj, hb⟩
    · rintro ⟨j, hj, hb⟩
      exact ⟨c, j, rfl, hj, hb⟩
  refine ⟨hm.base, hm.below, fun i hl => ?_, fun i => ?_, fun i => ?_, fun i hl b hb => ?_, fun i ho b hb => ?_, fun i i' hne ho hl' b hb hb' => ?_⟩
  · obtain ⟨c, _, h1, _⟩ := live i hl
    exact Nat.lt_of_lt_of_le (hget_out h1) hn
  · rw [hget']
    cases lk m i with
    | none => trivial
    | some c => exact wfH_wf hw i
  · by_cases hl : (hget (keepH m 0 HT) i).live = true
    · obtain ⟨c, h1, h2, h3⟩ := live i hl
      rw [h3]
      have := (fact i c h1 h2).1
      rw [← foot i c h1] at this
      exact this
    · have : hget (keepH m 0 HT) i = .dead := by cases hh : hget (keepH m 0 HT) i <;> simp_all [HB.live]
      rw [this]; trivial
  · obtain ⟨c, h1, h2, h3⟩ := live i hl
    obtain ⟨c', j, hc', hj, hb⟩ := hb
    rw [h1] at hc'
    injection hc' with hc'
    subst hc'
    exact hm.lt j ((fact i c h1 h2).2 j hj).1 b hb
  · obtain ⟨c, h1, h2, h3⟩ := live i (HB.live_of_own ho)
    obtain ⟨c', j, hc', hj, hb⟩ := hb
    rw [h1] at hc'
    injection hc' with hc'
    subst hc'
    rw [h3] at ho
    exact hm.low j (((fact i c h1 h2).2 j hj).2 ho) b hb
  · obtain ⟨c, h1, h2, h3⟩ := live i (HB.live_of_own ho)
    obtain ⟨c2, h1', h2', h3'⟩ := live i' hl'
    obtain ⟨c', j, hc', hj, hb⟩ := hb
    rw [h1] at hc'
    injection hc' with hc'
    subst hc'
    obtain ⟨c', j', hc', hj', hb'⟩ := hb'
    rw [h1'] at hc'
    injection hc' with hc'
    subst hc'
    rw [h3] at ho
    have hjj : j' ≠ j := fun e => inj_spec hi i c (lk_mem h1) ho j hj i' c2 (lk_mem h1') hne (by rw [hj', e])
    exact hm.apart j j' (Ne.symm hjj) (((fact i c h1 h2).2 j hj).2 ho) ((fact i' c2 h1' h2').2 j' hj').1 b hb hb'

theorem good_nil {τ : Nat → Value} : Good ρ U [] τ := fun i c h => by cases h
theorem nth_of_mem {l : Env} {c : SV} (h : c ∈ l) : ∃ j, nth .u l j = c := by
  obtain ⟨j, hj, e⟩ := List.getElem_of_mem h
  exact ⟨j, by rw [nth_eq]; simp [hj, e]⟩
theorem nth_memE {l : Env} {t : Nat} (h : t < l.length) : nth .u l t ∈ l := by
  rw [nth_eq]; simp [h]
theorem lk_none_cons {α : Type} {m : List (Nat × α)} {i j : Nat} {c d : α} (h : lk m j = some d) (hn : lk m i = none) : lk ((i, c) :: m) j = some d := by
  rw [lk_cons, if_neg]
  · exact h
  · rintro rfl; rw [hn] at h; cases h
theorem idC_mono {m : Srcs} {c : SC} {i : Nat} {d : SC} (h : lk m i = some d) : lk (idC m c) i = some d := by
  unfold idC
  split <;> first
    | (split
       · exact h
       · rename_i hn; exact lk_none_cons h hn)
    | exact h
theorem idL_mono : ∀ {l : List SC} {m : Srcs} {i : Nat} {d : SC}, lk m i = some d → lk (idL m l) i = some d
  | [], _, _, _, h => h
  | c :: l, _, _, _, h => idL_mono (l := l) (idC_mono h)
theorem idW_mono {m : Srcs} {s : SW} {i : Nat} {d : SC} (h : lk m i = some d) : lk (idW m s) i = some d := by
  cases s with
  | c x => exact idC_mono h
  | g l => exact idL_mono h
theorem idWs_mono : ∀ {l : List SW} {m : Srcs} {i : Nat} {d : SC}, lk m i = some d → lk (idWs m l) i = some d
  | [], _, _, _, h => h
  | c :: l, _, _, _, h => idWs_mono (l := l) (idW_mono h)
theorem idV_mono {m : Srcs} {s : SV} {i : Nat} {d : SC} (h : lk m i = some d) : lk (idV m s) i = some d := by
  cases s with
  | w x => exact idW_mono h
  | t l => exact idWs_mono h
theorem idE_mono : ∀ {l : Env} {m : Srcs} {i : Nat} {d : SC}, lk m i = some d → lk (idE m l) i = some d
  | [], _, _, _, h => h
  | c :: l, _, _, _, h => idE_mono (l := l) (idV_mono h)
def Has (m : Srcs) (i : Nat) : Prop := ∃ c, lk m i = some c
theorem idC_held {m : Srcs} {c : SC} (h : keptC c = true) : c.wf (Has (idC m c)) := by
  have key : ∀ i (d : SC), (match lk m i with | some _ => m | none => (i, d) :: m) = idC m c → Has (idC m c) i := by
    intro i d e
    rw [← e]
    cases hl : lk m i with
    | some c => exact ⟨c, hl⟩
    | none => exact ⟨d, by simp [lk_cons]⟩
  intro x hx
  cases c <;> simp only [SC.ids, keptC] at hx h
  all_goals first
    | exact hx.elim
    | (subst hx; exact key _ _ rfl)
    | cases h
theorem SC.wf.has {m m' : Srcs} {c : SC} (h : c.wf (Has m)) (hm : ∀ i d, lk m i = some d → lk m' i = some d) : c.wf (Has m') := h.mono fun x ⟨d, hd⟩ => ⟨d, hm x d hd⟩
theorem idL_held : ∀ {l : List SC} {m : Srcs}, keptL l = true → ∀ c ∈ l, c.wf (Has (idL m l))
  | [], _, _ => fun c h => by cases h
  | c :: l, m, h => by
    unfold keptL at h
    split at h
    · rename_i hk
      intro x hx
      rcases List.mem_cons.1 hx with rfl | hx
      · show x.wf (Has (idL (idC m x) l))
        exact (idC_held hk).has fun i d hd => idL_mono hd
      · exact idL_held h x hx
    · cases h
theorem idW_held {m : Srcs} {s : SW} (h : keptW s = true) : s.wf (Has (idW m s)) := by
  cases s with
  | c x => exact idC_held h
  | g l => exact idL_held h
theorem idWs_held : ∀ {l : List SW} {m : Srcs}, keptWs l = true → ∀ c ∈ l, c.wf (Has (idWs m l))
  | [], _, _ => fun c h => by cases h
  | c :: l, m, h => by
    unfold keptWs at h
    split at h
    · rename_i hk
      intro x hx
      rcases List.mem_cons.1 hx with rfl | hx
      · show x.wf (Has (idWs (idW m x) l))
        exact (idW_held hk).mono fun i ⟨d, hd⟩ => ⟨d, idWs_mono hd⟩
      · exact idWs_held h x hx
    · cases h
theorem idV_held {m : Srcs} {s : SV} (h : keptV s = true) : s.wf (Has (idV m s)) := by
  cases s with
  | w x => exact idW_held h
  | t l => exact idWs_held h
theorem idE_held : ∀ {l : Env} {m : Srcs}, keptE l = true → ∀ c ∈ l, c.wf (Has (idE m l))
  | [], _, _ => fun c h => by cases h
  | c :: l, m, h => by
    unfold keptE at h
    split at h
    · rename_i hk
      intro x hx
      rcases List.mem_cons.1 hx with rfl | hx
      · show x.wf (Has (idE (idV m x) l))
        exact (idV_held hk).mono fun i ⟨d, hd⟩ => ⟨d, idE_mono hd⟩
      · exact idE_held h x hx
    · cases h
theorem good_idC {m : Srcs} {c : SC} {v : Value} (hg : Good ρ U m ρ) (hd : DenC ρ c v) (hw : c.wf U) : Good ρ U (idC m c) ρ := by
  have key : ∀ i (d : SC), DenC ρ d (ρ i) → d.wf U → Good ρ U (match lk m i with | some _ => m | none => (i, d) :: m) ρ := by
    intro i d h1 h2
    split
    · exact hg
    · intro j e he
      rw [lk_cons] at he
      split at he
      · rename_i hij
        injection he with he
        subst he; subst hij
        exact ⟨h1, h2⟩
      · exact hg j e he
  unfold idC
  split
  · rename_i i off
    obtain ⟨g, h1, h2⟩ := hd
    exact key i _ ⟨g, h1, h1⟩ (fun x hx => hw x hx)
  · rename_i i
    exact key i _ ⟨rfl, by rw [← hd.1]; exact hd.2⟩ (fun x hx => hw x hx)
  · rename_i i lo n sz
    obtain ⟨A, n0, c0, A', c', h1, _⟩ := hd
    exact key i _ ⟨rfl, A, n0, c0, h1⟩ (fun x hx => hw x hx)
  · exact hg
theorem good_idL : ∀ {l : List SC} {m : Srcs}, Good ρ U m ρ → (∀ c ∈ l, (∃ v, DenC ρ c v) ∧ c.wf U) → Good ρ U (idL m l) ρ
  | [], _, hg, _ => hg
  | c :: l, _, hg, h => by
    obtain ⟨⟨v, hv⟩, hw⟩ := h c (by simp)
    exact good_idL (l := l) (good_idC hg hv hw) fun c hc => h c (by simp [hc])
theorem good_idW {m : Srcs} {s : SW} {v : Value} (hg : Good ρ U m ρ) (hd : DenW ρ s v) (hw : s.wf U) : Good ρ U (idW m s) ρ := by
  cases s with
  | c x => exact good_idC hg hd hw
  | g l =>
    obtain ⟨vs, _, hl⟩ := hd
    refine good_idL hg fun c hc => ⟨?_, hw c hc⟩
    obtain ⟨j, hj⟩ := List.getElem?_of_mem hc
    obtain ⟨v, _, hv⟩ := hl.2 j c hj
    exact ⟨v, hv⟩
theorem good_idWs : ∀ {l : List SW} {m : Srcs}, Good ρ U m ρ → (∀ c ∈ l, (∃ v, DenW ρ c v) ∧ c.wf U) → Good ρ U (idWs m l) ρ
  | [], _, hg, _ => hg
  | c :: l, _, hg, h => by
    obtain ⟨⟨v, hv⟩, hw⟩ := h c (by simp)
    exact good_idWs (l := l) (good_idW hg hv hw) fun c hc => h c (by simp [hc])
theorem good_idV {m : Srcs} {s : SV} {v : Value} (hg : Good ρ U m ρ) (hd : DenV ρ s v) (hw : s.wf U) : Good ρ U (idV m s) ρ := by
  cases s with
  | w x => exact good_idW hg hd hw
  | t l =>
    obtain ⟨vs, _, _, hl⟩ := hd
    refine good_idWs hg fun c hc => ⟨?_, hw c hc⟩
    obtain ⟨j, hj⟩ := List.getElem?_of_mem hc
    obtain ⟨v, _, hv⟩ := hl j c hj
    exact ⟨v, hv⟩
theorem good_idE : ∀ {l : Env} {m : Srcs}, Good ρ U m ρ → (∀ c ∈ l, ∃ v, DenV ρ c v ∧ c.wf U) → Good ρ U (idE m l) ρ
  | [], _, hg, _ => hg
  | c :: l, _, hg, h => by
    obtain ⟨v, hv, hw⟩ := h c (by simp)
    exact good_idE (l := l) (good_idV hg hv hw) fun c hc => h c (by simp [hc])
theorem fit_sound {τs σ : St} {a : Act} {p : Option Prop} {m : Srcs} {F : Fr} (hS : Sim B w0 F σ a w) (h : fit F.x τs σ = some (p, m)) (hp : holdsO p) : Sim B w0 F (cut m τs) a w := by
  obtain ⟨h1, h2, ρ, φ, hm, hd, hF⟩ := hS
  unfold fit at h
  split at h
  · rename_i m1 p1 he
    split at h
    · rename_i m2 q2 d hx
      split at h
      · rename_i r2 hM hi hw hl hkx hwx
        simp only [Option.some.injEq, Prod.mk.injEq] at h
        obtain ⟨rfl, rfl⟩ := h
        obtain ⟨hp1, hp2⟩ := andO_iff.1 hp
        obtain ⟨hq2, hr2⟩ := andO_iff.1 hp2
        obtain ⟨τ1, he1, hg1, hd1⟩ := fitE_sound (f := fun t => a.tmps.getD t undef) (good_idE (m := []) good_nil (fun c hc => by obtain ⟨j, hj⟩ := nth_of_mem hc; have := hF j; rw [hj] at this; exact ⟨_, this⟩)) he hp1 hd
        obtain ⟨τ2, he2, hg2, hf2⟩ := fitX_sound rfl hm hg1 hx hq2
        have hM' := fitM_sound rfl hm hg2 hM hr2
        unfold wfSt at hw
        split at hw
        · rename_i w1 w2 w3
          have hle : τs.H.length ≤ τs.n := by
            have := Nat.le_of_ble_eq_true w3
            rwa [len_eq] at this
          refine ⟨h1, ?_, τ2, _, fit_mem hm ?_ hi w2 hle, fun t => ⟨hd1 m2 τ2 he2 t, wfE_wf w1 t⟩, fun t => ⟨?_, wfE_wf hwx t⟩⟩
          rotate_right
          · refine DenV.anchors (U := fun i => ∃ c, lk (idE [] F.x) i = some c) (hF t).1 ?_ fun i ⟨c, hc⟩ => ((he1.trans he2) i c hc).2
            by_cases ht : t < F.x.length
            · exact idE_held hkx _ (nth_memE ht)
            · rw [nth_out _ _ _ (by omega)]; exact fun _ h => h.elim
          · have := Nat.le_of_ble_eq_true hl
            rw [len_eq, len_eq] at this
            exact Nat.le_trans this h2
          · intro i c hic
            rcases hM' i c (lk_mem hic) with hid | ⟨c', hc', hf⟩
            · obtain ⟨_, j, hj, hf⟩ := hf2 m2 τ2 (.refl _ _) hg2 i hid
              rw [hj] at hic
              injection hic with hic
              subst hic
              rw [Nat.sub_zero] at hf
              exact hf
            · rw [hc'] at hic
              injection hic with hic
              subst hic
              exact hf
        · cases hw
      · cases h
    · cases h
  · cases h
theorem keepH_cover : ∀ {m : Srcs} {H : Heap} {k : Nat}, cover m k H = true → ∀ i, hget (keepH m k H) i = hget H i := by
  intro m H k h i
  rw [hget_keepH]
  induction H generalizing k i with
  | nil =>
    have : hget ([] : Heap) i = .dead := by cases i <;> rfl
    rw [this]
    split <;> rfl
  | cons h0 hs ih =>
    unfold cover at h
    split at h
    · cases h
    · rename_i hno
      cases i with
      | zero =>
        rw [Nat.add_zero]
        cases hl : lk m k with
        | some c => rfl
        | none =>
          cases h0 with
          | dead => rfl
          | cells o t l => exact absurd hl (fun e => hno rfl e)
          | arr k e o xs => exact absurd hl (fun e => hno rfl e)
      | succ i =>
        have := ih h i
        have e : k + 1 + i = k + (i + 1) := by omega
        rw [e] at this
        exact this
theorem Sim.heap {F : Fr} {σ : St} {H' : Heap} {a : Act} (h : Sim B w0 F σ a w) (hH : ∀ i, hget H' i = hget σ.H i) : Sim B w0 F ⟨σ.e, H', σ.n⟩ a w := by
  have : hget H' = hget σ.H := funext hH
  obtain ⟨h1, h2, ρ, φ, hm, hd, hF⟩ := h
  exact ⟨h1, h2, ρ, φ, by rw [this]; exact hm, hd, hF⟩
end
end Go.Eng
