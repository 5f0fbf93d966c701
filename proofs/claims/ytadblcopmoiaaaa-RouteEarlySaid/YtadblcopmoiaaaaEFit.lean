/- A state fits a form: then the walk knows the form, too. -/
import Derived.Test.YtadblcopmoiaaaaESeq
set_option linter.unusedVariables false
set_option linter.unusedSimpArgs false
namespace Go.Eng
open Go Go.RowKit

def All2 {α β : Type} (R : α → β → Prop) : List α → List β → Prop
  | [], [] => True
  | a :: l, b :: m => R a b ∧ All2 R l m
  | _, _ => False
theorem all2_iff {α β : Type} {R : α → β → Prop} : ∀ {l : List α} {m : List β}, All2 R l m ↔ (m.length = l.length ∧ ∀ (j : Nat) a, l[j]? = some a → ∃ b, m[j]? = some b ∧ R a b)
  | [], [] => by simp [All2]
  | [], b :: m => by simp [All2]
  | a :: l, [] => by simp [All2]
  | a :: l, b :: m => by
    simp only [All2, all2_iff (l := l) (m := m), List.length_cons, Nat.add_right_cancel_iff]
    constructor
    · rintro ⟨h, h1, h2⟩
      refine ⟨h1, fun j x hx => ?_⟩
      cases j with
      | zero => simp at hx; subst hx; exact ⟨b, rfl, h⟩
      | succ j => simpa using h2 j x (by simpa using hx)
    · rintro ⟨h1, h2⟩
      refine ⟨?_, h1, fun j x hx => ?_⟩
      · obtain ⟨y, hy, h⟩ := h2 0 a rfl
        simp at hy; subst hy; exact h
      · simpa using h2 (j + 1) x (by simpa using hx)
theorem denL_iff {ρ : Nat → Value} {l : List SC} {vs : Array Value} : DenL ρ l vs ↔ All2 (DenC ρ) l vs.toList := by
  rw [all2_iff]
  simp [DenL]

section
variable {P : Program} {T : Tab} {B : Nat} {w0 w : World} {ρ : Nat → Value} {φ : Nat → Nat → Prop} {U : Nat → Prop} {H : Nat → HB}

def Good (ρ : Nat → Value) (U : Nat → Prop) (m : Srcs) (τ : Nat → Value) : Prop := ∀ i c, lk m i = some c → DenC ρ c (τ i) ∧ c.wf U
def Ext (m : Srcs) (τ : Nat → Value) (m' : Srcs) (τ' : Nat → Value) : Prop := ∀ i c, lk m i = some c → lk m' i = some c ∧ τ' i = τ i
theorem Ext.refl (m : Srcs) (τ : Nat → Value) : Ext m τ m τ := fun _ _ h => ⟨h, rfl⟩
theorem Ext.trans {m m' m'' : Srcs} {τ τ' τ'' : Nat → Value} (h : Ext m τ m' τ') (h' : Ext m' τ' m'' τ'') : Ext m τ m'' τ'' := fun i c hc => by
  obtain ⟨h1, h2⟩ := h i c hc
  obtain ⟨h3, h4⟩ := h' i c h1
  exact ⟨h3, h4.trans h2⟩
theorem lk_cons {α : Type} (i : Nat) (c : α) (m : List (Nat × α)) (j : Nat) : lk ((i, c) :: m) j = if i = j then some c else lk m j := lk_cons' _ _ _

theorem push_ok {m : Srcs} {τ : Nat → Value} {i : Nat} {c : SC} {v : Value} (hg : Good ρ U m τ) (hn : lk m i = none) (hd : DenC ρ c v) (hw : c.wf U) :
    ∃ τ', Ext m τ ((i, c) :: m) τ' ∧ Good ρ U ((i, c) :: m) τ' ∧ lk ((i, c) :: m) i = some c ∧ τ' i = v := by
  refine ⟨Eng.upd τ i v, fun j d hj => ?_, fun j d hj => ?_, by simp [lk_cons], upd_same _ _ _⟩
  · have hne : j ≠ i := by rintro rfl; rw [hn] at hj; cases hj
    rw [lk_cons, if_neg (Ne.symm hne), upd_ne _ _ hne]
    exact ⟨hj, rfl⟩
  · rw [lk_cons] at hj
    split at hj
    · rename_i e
      subst e
      injection hj with hj
      subst hj
      rw [upd_same]
      exact ⟨hd, hw⟩
    · rename_i e
      rw [upd_ne _ _ (Ne.symm e)]
      exact hg j d hj
theorem addM_ok {m m' : Srcs} {τ : Nat → Value} {i : Nat} {c : SC} {v : Value} (hg : Good ρ U m τ) (h : addM m i c = some m') (hd : DenC ρ c v) (hw : c.wf U) :
    ∃ τ' c', Ext m τ m' τ' ∧ Good ρ U m' τ' ∧ lk m' i = some c' ∧ τ' i = v := by
  unfold addM at h
  split at h
  · rename_i hn
    injection h with h
    subst h
    obtain ⟨τ', h1, h2, h3, h4⟩ := push_ok hg hn hd hw
    exact ⟨τ', c, h1, h2, h3, h4⟩
  · rename_i c' hc'
    split at h
    · rename_i hs
      injection h with h
      subst h
      refine ⟨τ, c', .refl _ _, hg, hc', ?_⟩
      have hd' := (hg i c' hc').1
      unfold sameSrc at hs
      split at hs
      · simp at hs; subst hs
        exact hd'.1.trans hd.1.symm
      · simp at hs; subst hs
        obtain ⟨g, h1, h2⟩ := hd
        obtain ⟨g', h1', h2'⟩ := hd'
        rw [h1] at h1'
        rw [h2, h2', h1']
      · exact hd'.trans hd.symm
      · cases hs
    · cases h

theorem fitC_sound {m m' : Srcs} {τ : Nat → Value} {t c : SC} {p : Option Prop} {v : Value} (hg : Good ρ U m τ) (h : fitC m t c = some (m', p)) (hp : holdsO p) (hd : DenC ρ c v) (hw : c.wf U) :
    ∃ τ', Ext m τ m' τ' ∧ Good ρ U m' τ' ∧ ∀ m3 τ3, Ext m' τ' m3 τ3 → DenC τ3 t v := by
  have same : ∀ {q : Option Prop}, (m, q) = (m', p) → m = m' ∧ q = p := fun h => by simpa using h
  unfold fitC at h
  split at h
  · injection h with h
    obtain ⟨rfl, rfl⟩ := same h
    exact ⟨τ, .refl _ _, hg, fun _ _ _ => trivial⟩
  · injection h with h
    obtain ⟨rfl, rfl⟩ := same h
    have hp : _ = _ := hp
    subst hp
    exact ⟨τ, .refl _ _, hg, fun _ _ _ => hd⟩
  · injection h with h
    obtain ⟨rfl, rfl⟩ := same h
    have hp : _ = _ := hp
    subst hp
    exact ⟨τ, .refl _ _, hg, fun _ _ _ => hd⟩
  · injection h with h
    obtain ⟨rfl, rfl⟩ := same h
    have hp : _ = _ := hp
    subst hp
    exact ⟨τ, .refl _ _, hg, fun _ _ _ => hd⟩
  · injection h with h
    obtain ⟨rfl, rfl⟩ := same h
    have hp : _ = _ := hp
    subst hp
    exact ⟨τ, .refl _ _, hg, fun _ _ _ => hd⟩
  · rename_i x y
    split at h
    · rename_i hxy
      injection h with h
      obtain ⟨rfl, rfl⟩ := same h
      have : x = y := by simpa using hxy
      subst this
      exact ⟨τ, .refl _ _, hg, fun _ _ _ => hd⟩
    · cases h
  · injection h with h
    obtain ⟨rfl, rfl⟩ := same h
    exact ⟨τ, .refl _ _, hg, fun _ _ _ => hd⟩
  · injection h with h
    obtain ⟨rfl, rfl⟩ := same h
    exact ⟨τ, .refl _ _, hg, fun _ _ _ => hd⟩
  · split at h
    · rename_i e
      subst e
      injection h with h
      obtain ⟨rfl, rfl⟩ := same h
      exact ⟨τ, .refl _ _, hg, fun _ _ _ => hd⟩
    · cases h
  · rename_i i o j o'
    split at h
    · rename_i e
      subst e
      split at h
      · rename_i m1 hm1
        injection h with h
        simp only [Prod.mk.injEq] at h
        obtain ⟨rfl, rfl⟩ := h
        obtain ⟨g, h1, h2⟩ := hd
        obtain ⟨τ', c', he, hg', hl, hv⟩ := addM_ok (v := ρ j) hg hm1 ⟨g, h1, h1⟩ (fun x hx => hw x hx)
        refine ⟨τ', he, hg', fun m3 τ3 h3 => ⟨g, ?_, h2⟩⟩
        rw [(h3 i c' hl).2, hv, h1]
      · cases h
    · cases h
  · rename_i i j
    split at h
    · rename_i m1 hm1
      injection h with h
      simp only [Prod.mk.injEq] at h
      obtain ⟨rfl, rfl⟩ := h
      obtain ⟨τ', c', he, hg', hl, hv⟩ := addM_ok (v := v) hg hm1 hd hw
      refine ⟨τ', he, hg', fun m3 τ3 h3 => ⟨?_, hd.2⟩⟩
      rw [(h3 i c' hl).2, hv]
    · cases h
  · rename_i i
    split at h
    · rename_i m1 hm1
      injection h with h
      simp only [Prod.mk.injEq] at h
      obtain ⟨rfl, rfl⟩ := h
      obtain ⟨τ', c', he, hg', hl, hv⟩ := addM_ok (v := v) hg hm1 hd hw
      refine ⟨τ', he, hg', fun m3 τ3 h3 => ⟨?_, none, 0, 0, hd⟩⟩
      rw [(h3 i c' hl).2, hv]
    · cases h
  · rename_i i j lo n sz
    split at h
    · rename_i hn
      injection h with h
      simp only [Prod.mk.injEq] at h
      obtain ⟨rfl, rfl⟩ := h
      obtain ⟨τ', he, hg', hl, hv⟩ := push_ok hg hn hd hw
      refine ⟨τ', he, hg', fun m3 τ3 h3 => ⟨?_, ?_⟩⟩
      · rw [(h3 i _ hl).2, hv]
      · obtain ⟨A, n0, c0, A', c', _, h2, _⟩ := hd
        exact ⟨_, _, _, h2⟩
    · cases h
  · rename_i i lo n sz j lo' n' sz'
    split at h
    · rename_i e
      subst e
      split at h
      · rename_i m1 hm1
        injection h with h
        simp only [Prod.mk.injEq] at h
        obtain ⟨rfl, rfl⟩ := h
        obtain ⟨rfl, rfl⟩ := hp
        obtain ⟨A, n0, c0, A', c', h1, h2, h3, h4, h5⟩ := hd
        obtain ⟨τ', c'', he, hg', hl, hv⟩ := addM_ok (v := ρ j) hg hm1 ⟨rfl, A, n0, c0, h1⟩ (fun x hx => hw x hx)
        refine ⟨τ', he, hg', fun m3 τ3 h3' => ⟨A, n0, c0, A', c', ?_, h2, h3, h4, h5⟩⟩
        rw [(h3' i _ hl).2, hv, h1]
      · cases h
    · cases h
  · cases h

theorem fitL_sound : ∀ {ts cs : List SC} {m m' : Srcs} {τ : Nat → Value} {p : Option Prop} {vs : List Value}, Good ρ U m τ → fitL m ts cs = some (m', p) → holdsO p → All2 (DenC ρ) cs vs → (∀ c ∈ cs, c.wf U) →
    ∃ τ', Ext m τ m' τ' ∧ Good ρ U m' τ' ∧ ∀ m3 τ3, Ext m' τ' m3 τ3 → All2 (DenC τ3) ts vs
  | [], [], m, m', τ, p, vs, hg, h, hp, hd, hw => by
    simp only [fitL, Option.some.injEq, Prod.mk.injEq] at h
    obtain ⟨rfl, rfl⟩ := h
    exact ⟨τ, .refl _ _, hg, fun _ _ _ => by cases vs <;> simp_all [All2]⟩
  | t :: ts, c :: cs, m, m', τ, p, vs, hg, h, hp, hd, hw => by
    simp only [fitL] at h
    split at h
    · rename_i m1 p1 h1
      split at h
      · rename_i m2 q2 h2
        simp only [Option.some.injEq, Prod.mk.injEq] at h
        obtain ⟨rfl, rfl⟩ := h
        obtain ⟨hp1, hp2⟩ := andO_iff.1 hp
        cases vs with
        | nil => exact hd.elim
        | cons v vs =>
          obtain ⟨τ1, he1, hg1, hd1⟩ := fitC_sound hg h1 hp1 hd.1 (hw c (by simp))
          obtain ⟨τ2, he2, hg2, hd2⟩ := fitL_sound hg1 h2 hp2 hd.2 (fun x hx => hw x (by simp [hx]))
          exact ⟨τ2, he1.trans he2, hg2, fun m3 τ3 h3 => ⟨hd1 m3 τ3 (he2.trans h3), hd2 m3 τ3 h3⟩⟩
      · cases h
    · cases h
  | [], _ :: _, _, _, _, _, _, _, h, _, _, _ => by simp [fitL] at h
  | _ :: _, [], _, _, _, _, _, _, h, _, _, _ => by simp [fitL] at h

theorem fitW_sound {ts cs : SW} {m m' : Srcs} {τ : Nat → Value} {p : Option Prop} {v : Value} (hg : Good ρ U m τ) (h : fitW m ts cs = some (m', p)) (hp : holdsO p) (hd : DenW ρ cs v) (hw : cs.wf U) :
    ∃ τ', Ext m τ m' τ' ∧ Good ρ U m' τ' ∧ ∀ m3 τ3, Ext m' τ' m3 τ3 → DenW τ3 ts v := by
  unfold fitW at h
  split at h
  · exact fitC_sound hg h hp hd hw
  · obtain ⟨vs, rfl, hl⟩ := hd
    obtain ⟨τ1, he1, hg1, hd1⟩ := fitL_sound hg h hp (denL_iff.1 hl) hw
    exact ⟨τ1, he1, hg1, fun m3 τ3 h3 => ⟨vs, rfl, denL_iff.2 (hd1 m3 τ3 h3)⟩⟩
  · cases h
theorem fitWs_sound : ∀ {ts cs : List SW} {m m' : Srcs} {τ : Nat → Value} {p : Option Prop} {vs : List Value}, Good ρ U m τ → fitWs m ts cs = some (m', p) → holdsO p → All2 (DenW ρ) cs vs → (∀ c ∈ cs, c.wf U) →
    ∃ τ', Ext m τ m' τ' ∧ Good ρ U m' τ' ∧ ∀ m3 τ3, Ext m' τ' m3 τ3 → All2 (DenW τ3) ts vs
  | [], [], m, m', τ, p, vs, hg, h, hp, hd, hw => by
    simp only [fitWs, Option.some.injEq, Prod.mk.injEq] at h
    obtain ⟨rfl, rfl⟩ := h
    exact ⟨τ, .refl _ _, hg, fun _ _ _ => by cases vs <;> simp_all [All2]⟩
  | t :: ts, c :: cs, m, m', τ, p, vs, hg, h, hp, hd, hw => by
    simp only [fitWs] at h
    split at h
    · rename_i m1 p1 h1
      split at h
      · rename_i m2 q2 h2
        simp only [Option.some.injEq, Prod.mk.injEq] at h
        obtain ⟨rfl, rfl⟩ := h
        obtain ⟨hp1, hp2⟩ := andO_iff.1 hp
        cases vs with
        | nil => exact hd.elim
        | cons v vs =>
          obtain ⟨τ1, he1, hg1, hd1⟩ := fitW_sound hg h1 hp1 hd.1 (hw c (by simp))
          obtain ⟨τ2, he2, hg2, hd2⟩ := fitWs_sound hg1 h2 hp2 hd.2 (fun x hx => hw x (by simp [hx]))
          exact ⟨τ2, he1.trans he2, hg2, fun m3 τ3 h3 => ⟨hd1 m3 τ3 (he2.trans h3), hd2 m3 τ3 h3⟩⟩
      · cases h
    · cases h
  | [], _ :: _, _, _, _, _, _, _, h, _, _, _ => by simp [fitWs] at h
  | _ :: _, [], _, _, _, _, _, _, h, _, _, _ => by simp [fitWs] at h
theorem denT_iff {ρ : Nat → Value} {l : List SW} {v : Value} : DenV ρ (.t l) v ↔ ∃ vs : Array Value, v = .tuple vs ∧ All2 (DenW ρ) l vs.toList := by
  simp only [DenV, all2_iff]
  simp
theorem fitV_sound {ts cs : SV} {m m' : Srcs} {τ : Nat → Value} {p : Option Prop} {v : Value} (hg : Good ρ U m τ) (h : fitV m ts cs = some (m', p)) (hp : holdsO p) (hd : DenV ρ cs v) (hw : cs.wf U) :
    ∃ τ', Ext m τ m' τ' ∧ Good ρ U m' τ' ∧ ∀ m3 τ3, Ext m' τ' m3 τ3 → DenV τ3 ts v := by
  unfold fitV at h
  split at h
  · simp only [Option.some.injEq, Prod.mk.injEq] at h
    obtain ⟨rfl, rfl⟩ := h
    exact ⟨τ, .refl _ _, hg, fun _ _ _ => trivial⟩
  · exact fitW_sound hg h hp hd hw
  · obtain ⟨vs, rfl, hl⟩ := denT_iff.1 hd
    obtain ⟨τ1, he1, hg1, hd1⟩ := fitWs_sound hg h hp hl hw
    exact ⟨τ1, he1, hg1, fun m3 τ3 h3 => denT_iff.2 ⟨vs, rfl, hd1 m3 τ3 h3⟩⟩
  · cases h
theorem fitE_sound : ∀ {ts cs : Env} {m m' : Srcs} {τ : Nat → Value} {p : Option Prop} {f : Nat → Value}, Good ρ U m τ → fitE m ts cs = some (m', p) → holdsO p → (∀ t, DenV ρ (nth .u cs t) (f t) ∧ (nth .u cs t).wf U) →
    ∃ τ', Ext m τ m' τ' ∧ Good ρ U m' τ' ∧ ∀ m3 τ3, Ext m' τ' m3 τ3 → ∀ t, DenV τ3 (nth .u ts t) (f t)
  | [], cs, m, m', τ, p, f, hg, h, hp, hd => by
    simp only [fitE, Option.some.injEq, Prod.mk.injEq] at h
    obtain ⟨rfl, rfl⟩ := h
    exact ⟨τ, .refl _ _, hg, fun _ _ _ _ => trivial⟩
  | t :: ts, cs, m, m', τ, p, f, hg, h, hp, hd => by
    simp only [fitE] at h
    split at h
    · rename_i m1 p1 h1
      split at h
      · rename_i m2 q2 h2
        simp only [Option.some.injEq, Prod.mk.injEq] at h
        obtain ⟨rfl, rfl⟩ := h
        obtain ⟨hp1, hp2⟩ := andO_iff.1 hp
        have htail : ∀ t, nth .u (tlE cs) t = nth .u cs (t + 1) := by cases cs <;> intro t <;> rfl
        obtain ⟨τ1, he1, hg1, hd1⟩ := fitV_sound hg h1 hp1 (hd 0).1 (hd 0).2
        obtain ⟨τ2, he2, hg2, hd2⟩ := fitE_sound (f := fun t => f (t + 1)) hg1 h2 hp2 (fun t => by rw [htail]; exact hd (t + 1))
        refine ⟨τ2, he1.trans he2, hg2, fun m3 τ3 h3 t => ?_⟩
        cases t with
        | zero => exact hd1 m3 τ3 (he2.trans h3)
        | succ t => exact hd2 m3 τ3 h3 t
      · cases h
    · cases h

/-- What is known of a form's block. -/
def Fact (w : World) (φ : Nat → Nat → Prop) (H : Nat → HB) (τ : Nat → Value) (hb : HB) (i : Nat) (c : SC) : Prop :=
  hb = .dead ∨ (Holds τ w (fun b => ∃ j, srcId c = some j ∧ φ j b) hb (τ i) ∧ ∀ j, srcId c = some j → (H j).live = true ∧ (hb.own = true → (H j).own = true))

theorem fitX_sound {Hl : Heap} (hH : H = hget Hl) (hm : Mem B w0 ρ φ U H w) : ∀ {hs : Heap} {k : Nat} {m m' : Srcs} {τ : Nat → Value} {p : Option Prop} {d : List Nat}, Good ρ U m τ → fitX Hl m k hs = some (m', p, d) → holdsO p →
    ∃ τ', Ext m τ m' τ' ∧ Good ρ U m' τ' ∧ ∀ m3 τ3, Ext m' τ' m3 τ3 → Good ρ U m3 τ3 → ∀ i ∈ d, k ≤ i ∧ ∃ j, lk m' i = some (.p j 0) ∧ Fact w φ H τ3 (hget hs (i - k)) i (.p j 0)
  | [], k, m, m', τ, p, d, hg, h, hp => by
    simp only [fitX, Option.some.injEq, Prod.mk.injEq] at h
    obtain ⟨rfl, rfl, rfl⟩ := h
    exact ⟨τ, .refl _ _, hg, fun _ _ _ _ i hi => by cases hi⟩
  | hb :: hs, k, m, m', τ, p, d, hg, h, hp => by
    have shift : ∀ {m1 m' : Srcs} {τ1 : Nat → Value} {q : Option Prop} {d : List Nat}, Good ρ U m1 τ1 → fitX Hl m1 (k + 1) hs = some (m', q, d) → holdsO q →
        ∃ τ', Ext m1 τ1 m' τ' ∧ Good ρ U m' τ' ∧ ∀ m3 τ3, Ext m' τ' m3 τ3 → Good ρ U m3 τ3 → ∀ i ∈ d, k ≤ i ∧ i ≠ k ∧ ∃ j, lk m' i = some (.p j 0) ∧ Fact w φ H τ3 (hget (hb :: hs) (i - k)) i (.p j 0) := by
      intro m1 m' τ1 q d hg1 h1 hq
      obtain ⟨τ', he, hg', hf⟩ := fitX_sound hH hm hg1 h1 hq
      refine ⟨τ', he, hg', fun m3 τ3 h3 hg3 i hi => ?_⟩
      obtain ⟨hle, j, hj, hfa⟩ := hf m3 τ3 h3 hg3 i hi
      refine ⟨by omega, by omega, j, hj, ?_⟩
      have : i - k = (i - (k + 1)) + 1 := by omega
      rw [this]
      exact hfa
    unfold fitX at h
    split at h
    · rename_i hnil; cases hnil
    · rename_i k' own ty l hs' hcons
      injection hcons with e1 e2
      subst e1; subst e2
      split at h
      · rename_i j hj
        split at h
        · rename_i own' ty' l' hh
          split at h
          · rename_i ety
            subst ety
            split at h
            · rename_i eo
              have eo : own = own' := by simpa using eo
              subst eo
              split at h
              · rename_i m1 p1 h1
                split at h
                · rename_i m2 q2 d2 h2
                  simp only [Option.some.injEq, Prod.mk.injEq] at h
                  obtain ⟨rfl, rfl, rfl⟩ := h
                  obtain ⟨hp1, hp2⟩ := andO_iff.1 hp
                  have hHj : H j = .cells own ty l' := by rw [hH]; exact hh
                  have hhold := hm.holds j
                  rw [hHj] at hhold
                  obtain ⟨g, cs, hρj, hφ, hheap, hden⟩ := hhold
                  have hwf := hm.wf j
                  rw [hHj] at hwf
                  obtain ⟨τ1, he1, hg1, hd1⟩ := fitL_sound hg h1 hp1 (denL_iff.1 hden) hwf
                  obtain ⟨τ2, he2, hg2, hd2⟩ := shift hg1 h2 hp2
                  refine ⟨τ2, he1.trans he2, hg2, fun m3 τ3 h3 hg3 i hi => ?_⟩
                  rcases List.mem_cons.1 hi with rfl | hi
                  · have hj3 := ((he1.trans he2).trans h3) i _ hj
                    refine ⟨Nat.le_refl _, j, ((he1.trans he2) i _ hj).1, .inr ⟨?_, fun j' hj' => ?_⟩⟩
                    · rw [Nat.sub_self]
                      obtain ⟨g', hg'1, hg'2⟩ := (hg3 i _ hj3.1).1
                      rw [hρj] at hg'1
                      injection hg'1 with hg'1
                      injection hg'1 with hg'1
                      injection hg'1 with hg'1
                      subst hg'1
                      exact ⟨g, cs, hg'2, ⟨j, rfl, hφ⟩, hheap, denL_iff.2 (hd1 m3 τ3 (he2.trans h3))⟩
                    · simp only [srcId, Option.some.injEq] at hj'
                      subst hj'
                      rw [hHj, Nat.sub_self]
                      exact ⟨rfl, fun h => h⟩
                  · obtain ⟨a1, _, a3⟩ := hd2 m3 τ3 h3 hg3 i hi
                    exact ⟨a1, a3⟩
                · cases h
              · cases h
            · cases h
          · cases h
        · cases h
      · cases h
      · obtain ⟨τ', he, hg', hf⟩ := shift hg h hp
        exact ⟨τ', he, hg', fun m3 τ3 h3 hg3 i hi => by obtain ⟨a1, _, a3⟩ := hf m3 τ3 h3 hg3 i hi; exact ⟨a1, a3⟩⟩
    · rename_i k' hb' hs' hcons hne
      injection hne with e1 e2
      subst e1; subst e2
      obtain ⟨τ', he, hg', hf⟩ := shift hg h hp
      exact ⟨τ', he, hg', fun m3 τ3 h3 hg3 i hi => by obtain ⟨a1, _, a3⟩ := hf m3 τ3 h3 hg3 i hi; exact ⟨a1, a3⟩⟩

theorem fitA_sound {Hl : Heap} (hH : H = hget Hl) (hm : Mem B w0 ρ φ U H w) {t : HB} {c : SC} {p : Option Prop} {τ : Nat → Value} {i : Nat} (h : fitA Hl t c = some p) (hp : holdsO p) (hd : DenC ρ c (τ i)) : Fact w φ H τ t i c := by
  unfold fitA at h
  split at h
  · rename_i k e own xs
    injection h with h
    subst h
    have hp : xs = [] := hp
    subst hp
    have hd : τ i = .slice none 0 0 := hd
    refine .inr ⟨?_, fun j hj => by simp [srcId] at hj⟩
    cases own
    · exact ⟨none, 0, hd, Nat.le_refl _, Nat.zero_le _, fun h => absurd rfl h, fun a ha => by cases ha⟩
    · refine ⟨fun g hg => (by rw [hd] at hg; cases hg), [], ?_, fun i x hx => by simp at hx⟩
      rw [hd]
      exact World.ownsRow_nil _ _ _ _
  · rename_i k e own xs j
    split at h
    · rename_i k' e' own' ys hh
      have hHj : H j = .arr k' e' own' ys := by rw [hH]; exact hh
      split at h
      · rename_i hk _
        subst hk
        have hv : τ i = ρ j := hd.1
        have hhold := hm.holds j
        rw [hHj] at hhold
        have hφ : (fun b => ∃ j', srcId (.fs j) = some j' ∧ φ j' b) = φ j := by
          funext b
          apply propext
          simp [srcId]
        split at h
        · injection h with h
          subst h
          have hp : ys = xs := hp
          subst hp
          refine .inr ⟨?_, fun j' hj' => ?_⟩
          · rw [hφ, hv]; exact hhold
          · simp only [srcId, Option.some.injEq] at hj'
            subst hj'
            rw [hHj]
            exact ⟨rfl, fun h => h⟩
        · split at h
          · rename_i ee
            subst ee
            injection h with h
            subst h
            have hp : ys = xs := hp
            subst hp
            refine .inr ⟨?_, fun j' hj' => ?_⟩
            · rw [hφ, hv]; exact hhold
            · simp only [srcId, Option.some.injEq] at hj'
              subst hj'
              rw [hHj]
              exact ⟨rfl, fun h => h⟩
          · cases h
        · cases h
      · cases h
    · cases h
  · exact .inl rfl
  · cases h
theorem fitM_sound {HT Hl : Heap} (hH : H = hget Hl) (hm : Mem B w0 ρ φ U H w) {d : List Nat} {τ : Nat → Value} {all : Srcs} (hg : Good ρ U all τ) : ∀ {m : Srcs} {p : Option Prop}, fitM HT Hl d all m = some p → holdsO p →
    ∀ i c, (i, c) ∈ m → i ∈ d ∨ ∃ c', lk all i = some c' ∧ Fact w φ H τ (hget HT i) i c'
  | [], _, _, _ => fun i c h => by cases h
  | (i0, c0) :: m, p, h, hp => by
    unfold fitM at h
    split at h
    · rename_i p1 q1 h1 h2
      injection h with h
      subst h
      obtain ⟨hp1, hq1⟩ := andO_iff.1 hp
      intro i c hic
      rcases List.mem_cons.1 hic with e | hic
      · simp only [Prod.mk.injEq] at e
        obtain ⟨rfl, rfl⟩ := e
        split at h1
        · rename_i hx
          split at h1
          · rename_i hc
            exact .inl (by simpa using hc)
          · cases h1
        · split at h1
          · rename_i c' hc'
            exact .inr ⟨c', hc', fitA_sound hH hm h1 hp1 (hg i c' hc').1⟩
          · cases h1
      · exact fitM_sound hH hm hg h2 hq1 i c hic
    · cases h
end
end Go.Eng
