/- Conditions are sound: code, loops. -/
import Derived.Test.YtadblcopmoiaaaaEFit2
import Derived.Test.YtadblcopmoiaaaaEDraw3
set_option linter.unusedVariables false
set_option linter.unusedSimpArgs false
namespace Go.Eng
open Go Go.RowKit

def HV : List VS → Type
  | [] => Unit
  | v :: l => v.T × HV l
def appO {R : Type} : (vs : List VS) → Over R vs → HV vs → R
  | [], r, _ => r
  | _ :: vs, f, x => appO vs (f x.1) x.2
noncomputable def havs (τ : St) : (vs : List VS) → HV vs → St
  | [], _ => τ
  | v :: vs, x => havs (hav τ v x.1) vs x.2
theorem allV_spec {R : Type} {k : St → R → Prop} : ∀ {vs : List VS} {τ : St} {f : Over R vs}, allV τ vs f k → ∀ x, k (havs τ vs x) (appO vs f x)
  | [], _, _, h, _ => h
  | v :: vs, τ, f, h, x => allV_spec (vs := vs) (h x.1) x.2
theorem oneV_spec {R : Type} {k : St → R → Prop} : ∀ {vs : List VS} {τ σ : St} {f : Over R vs}, oneV τ σ vs f k → ∃ x, k (havs τ vs x) (appO vs f x)
  | [], _, _, _, h => ⟨(), h⟩
  | v :: vs, τ, σ, f, h => by
    unfold oneV at h
    split at h
    · rename_i x _
      obtain ⟨y, hy⟩ := oneV_spec (vs := vs) h
      exact ⟨(x, y), hy⟩
    · cases h
theorem appO_pair {R S : Type} : ∀ {vs : List VS} {f : Over R vs} {g : Over S vs} (x : HV vs), appO vs (pair vs f g) x = (appO vs f x, appO vs g x)
  | [], _, _, _ => rfl
  | _ :: vs, f, g, x => appO_pair (vs := vs) x.2
/-- The values at which a state is looked at do not depend on what is asked. -/
noncomputable def vals (σ : St) : (vs : List VS) → Option (HV vs)
  | [] => some ()
  | v :: vs => match ext σ v, vals σ vs with
    | some x, some y => some (x, y)
    | _, _ => none
theorem oneV_vals {R : Type} {k : St → R → Prop} : ∀ {vs : List VS} {τ σ : St} {f : Over R vs}, oneV τ σ vs f k → ∃ x, vals σ vs = some x ∧ k (havs τ vs x) (appO vs f x)
  | [], _, _, _, h => ⟨(), rfl, h⟩
  | v :: vs, τ, σ, f, h => by
    unfold oneV at h
    split at h
    · rename_i x hx
      obtain ⟨y, hv, hy⟩ := oneV_vals (vs := vs) h
      exact ⟨(x, y), by simp [vals, hx, hv], hy⟩
    · cases h
theorem exists_min {α : Type} (p : α → Prop) (f : α → Nat) (h : ∃ x, p x) : ∃ x, p x ∧ ∀ y, p y → f x ≤ f y := by
  obtain ⟨x, hx⟩ := h
  have key : ∀ n x, p x → f x = n → ∃ x, p x ∧ ∀ y, p y → f x ≤ f y := by
    intro n
    induction n using Nat.strongRecOn with
    | _ n ih =>
      intro x hx hn
      by_cases h : ∃ y, p y ∧ f y < n
      · obtain ⟨y, hy, hlt⟩ := h
        exact ih (f y) hlt y hy rfl
      · refine ⟨x, hx, fun y hy => ?_⟩
        by_cases hh : f x ≤ f y
        · exact hh
        · exact absurd ⟨y, hy, by omega⟩ h
  exact key _ x hx rfl

section
variable {P : Program} {T : Tab} {B : Nat} {w0 : World} {F : Fr}

theorem loop_exists {c : Code} {Q : Exit → Act → World → Prop} {α : Type} (G : α → Act → World → Prop) (μ : α → Nat) {a : Act} {w : World} (h0 : ∃ x, G x a w)
    (round : ∀ x a w, G x a w → c.wp P (Exit.then (fun a' w' => ∃ x', G x' a' w' ∧ μ x' < μ x) Q) a w) : (Code.loop c).wp P Q a w := by
  classical
  let m : Act → World → Nat := fun a w => if h : ∃ x, G x a w then μ (Classical.choose (exists_min (fun x => G x a w) μ h)) else 0
  refine wp_loop (fun a w => ∃ x, G x a w) m h0 fun a w h => ?_
  have hs := Classical.choose_spec (exists_min (fun x => G x a w) μ h)
  refine wp_mono (round _ a w hs.1) fun e a' w' he => ?_
  cases e with
  | normal =>
    obtain ⟨x', hx', hlt⟩ := he
    refine ⟨⟨x', hx'⟩, ?_⟩
    have h' : ∃ x, G x a' w' := ⟨x', hx'⟩
    have hs' := Classical.choose_spec (exists_min (fun x => G x a' w') μ h')
    simp only [m, dif_pos h, dif_pos h']
    exact Nat.lt_of_le_of_lt (hs'.2 x' hx') hlt
  | _ => exact he

theorem okFit_spec {o : Option (Option Prop × Srcs)} {k : Srcs → Prop} (h : okFit o k) : ∃ p m, o = some (p, m) ∧ holdsO p ∧ k m := by
  unfold okFit at h
  split at h
  · rename_i p m
    obtain ⟨h1, h2⟩ := conj_iff.1 h
    exact ⟨p, m, rfl, h1, h2⟩
  · cases h

structure KOk (B : Nat) (w0 : World) (F : Fr) (K : Kont) (Q : Exit → Act → World → Prop) : Prop where
  norm : ∀ σ a w, K.norm σ → Sim B w0 F σ a w → Q .normal a w
  ret : ∀ σ a w, K.ret σ → Sim B w0 F σ a w → Q .ret a w
  ex : ∀ i k, lk K.ex i = some k → ∀ σ a w, k σ → Sim B w0 F σ a w → Q (.exit i) a w

theorem cond_lit {σ : St} {a : Act} {w : World} {c : Operand} {x y : Bool} (hS : Sim B w0 F σ a w) (hc : ev σ.e c = .w (.c (.b x))) (hx : x = y) : Sim B w0 F (lit σ c y) a w := by
  cases c with
  | tmp t => exact hS.lit hc hx
  | const v => exact hS
  | func f => exact hS
  | global g => exact hS

theorem vcCode_sound {C : Cons} {I : Inl} {A : List (Nat × LA)} (hT : TabOk P T) (hC : ConsOk P C) (hI : InlOk P B w0 I) (hP : P.follows .mixedOrders = true) : ∀ (c : Code) (K : Kont) (Q : Exit → Act → World → Prop) (σ : St) (a : Act) (w : World),
    KOk B w0 F K Q → vcCode T C I A F.x c K σ → Sim B w0 F σ a w → c.wp P Q a w
  | .skip, K, Q, σ, a, w, hK, h, hS => wp_skip (hK.norm σ a w h hS)
  | .seq x y, K, Q, σ, a, w, hK, h, hS => by
    have plain : vcCode T C I A F.x x ⟨fun σ => vcCode T C I A F.x y K σ, K.ret, K.ex⟩ σ → (Code.seq x y).wp P Q a w := fun h => by
      refine wp_seq (vcCode_sound hT hC hI hP x ⟨fun σ => vcCode T C I A F.x y K σ, K.ret, K.ex⟩ _ σ a w ⟨?_, hK.ret, hK.ex⟩ h hS)
      exact fun σ a w h hS => vcCode_sound hT hC hI hP y K Q σ a w hK h hS
    simp only [vcCode] at h
    split at h
    · split at h
      · rename_i la _
        unfold joinVC at h
        simp only at h
        obtain ⟨inv, h⟩ := h
        generalize hτ : St.mk (keepE (app (varSlots la.vars) la.keep) 0 σ.e) σ.H σ.n = τ at h
        obtain ⟨x0, hv0, h⟩ := oneV_vals h
        split at h
        · rename_i p m hfit
          obtain ⟨h1, h2⟩ := h
          have hone := fun Q' hq => vcCode_sound hT hC hI hP x _ Q' σ a w hq h1 hS
          refine wp_seq (hone _ ⟨?_, hK.ret, hK.ex⟩)
          intro σ' a' w' hk hS'
          obtain ⟨x', hx'⟩ := oneV_spec hk
          obtain ⟨p', m', hfit', hp', hc'⟩ := okFit_spec hx'
          split at hc'
          · rename_i hcov
            exact vcCode_sound hT hC hI hP y K Q _ a' w' hK (allV_spec h2 x' hc') ((fit_sound hS' hfit' hp').heap fun i => (keepH_cover hcov i).symm)
          · cases hc'
        · cases h
      · exact plain h
    · exact plain h
  | .cond c x y, K, Q, σ, a, w, hK, h, hS => by
    obtain ⟨ρ, φ, hm, hd, _⟩ := hS.mem
    have hden := ev_den (fun t => (hd t).1) c
    simp only [vcCode] at h
    split at h
    · rename_i hc
      rw [hc] at hden
      exact wp_cond_true (den_l hden) (vcCode_sound hT hC hI hP x K Q σ a w hK h hS)
    · rename_i hc
      rw [hc] at hden
      exact wp_cond_false (den_l hden) (vcCode_sound hT hC hI hP y K Q σ a w hK h hS)
    · rename_i b hc
      rw [hc] at hden
      refine wp_cond_split (den_b hden) (fun hb => ?_) (fun hb => ?_)
      · exact vcCode_sound hT hC hI hP x K Q _ a w hK (h.1 hb) (cond_lit hS hc hb)
      · exact vcCode_sound hT hC hI hP y K Q _ a w hK (h.2 hb) (cond_lit hS hc hb)
    · cases h
  | .block i c, K, Q, σ, a, w, hK, h, hS => by
    refine wp_block (vcCode_sound hT hC hI hP c ⟨K.norm, K.ret, (i, K.norm) :: K.ex⟩ _ σ a w ⟨hK.norm, hK.ret, ?_⟩ h hS)
    intro i' k hk σ a w hk' hS'
    rw [lk_cons] at hk
    split at hk
    · rename_i e
      injection hk with hk
      subst e; subst hk
      simp only [Exit.inBlock, if_true]
      exact hK.norm σ a w hk' hS'
    · rename_i e
      simp only [Exit.inBlock, if_neg (Ne.symm e)]
      exact hK.ex i' k hk σ a w hk' hS'
  | .exit i, K, Q, σ, a, w, hK, h, hS => by
    simp only [vcCode] at h
    split at h
    · rename_i k hk
      exact wp_exit (hK.ex i k hk σ a w h hS)
    · cases h
  | .loop c, K, Q, σ, a, w, hK, h, hS => by
    simp only [vcCode] at h
    split at h
    · split at h
      · rename_i la _
        unfold loopVC at h
        simp only at h
        obtain ⟨inv, μ, h0, h1⟩ := h
        generalize hτ : St.mk (keepE (app (varSlots la.vars) la.keep) 0 σ.e) σ.H σ.n = τ at h0 h1
        obtain ⟨x0, hv0, h0⟩ := oneV_vals h0
        obtain ⟨x1, hv1, h1⟩ := oneV_vals h1
        rw [hv0] at hv1
        injection hv1 with hv1
        subst hv1
        obtain ⟨p, m, hfit, hp, hinv⟩ := okFit_spec h0
        rw [hfit] at h1
        simp only at h1
        refine loop_exists (fun x a w => appO la.vars inv x ∧ Sim B w0 F (cut m (havs τ la.vars x)) a w) (fun x => appO la.vars μ x) ⟨x0, hinv, fit_sound hS hfit hp⟩ fun x a w hx => ?_
        have hb := allV_spec h1 x
        rw [appO_pair] at hb
        refine vcCode_sound hT hC hI hP c _ _ _ a w ?_ (hb hx.1) hx.2
        refine ⟨fun σ' a' w' hk hS' => ?_, hK.ret, hK.ex⟩
        obtain ⟨x', hx'⟩ := oneV_spec hk
        obtain ⟨p', m', hfit', hp', hc'⟩ := okFit_spec hx'
        rw [appO_pair] at hc'
        split at hc'
        · rename_i hcov
          refine ⟨x', ⟨hc'.1, ?_⟩, hc'.2⟩
          exact (fit_sound hS' hfit' hp').heap fun i => (keepH_cover hcov i).symm
        · cases hc'
      · cases h
    · cases h
  | .ret, K, Q, σ, a, w, hK, h, hS => wp_ret (hK.ret σ a w h hS)
  | .region id ops false, K, Q, σ, a, w, hK, h, hS => by
    refine wp_region ?_
    have := vcSeq_sound (Q := Q) hT hC hI hK.norm ops.toList 0 σ a w rfl h hS
    rw [List.range_eq_range']
    simpa using this
  | .region id ops true, K, Q, σ, a, w, hK, h, hS => by
    simp only [vcCode] at h
    split at h
    · rename_i ancs ha
      split at h <;> exact wp_region_any hP (vcDraw_sound hT hC ha h hS hK.norm)
    · cases h
  | .rangeFunc _ _ _ _, _, _, _, _, _, _, h, _ => by simp [vcCode] at h; cases h
  | .scope _, _, _, _, _, _, _, h, _ => by simp [vcCode] at h; cases h
  | .label _, _, _, _, _, _, _, h, _ => by simp [vcCode] at h; cases h
  | .goto _, _, _, _, _, _, _, h, _ => by simp [vcCode] at h; cases h
  | .refuse _, _, _, _, _, _, _, h, _ => by simp [vcCode] at h; cases h
end
end Go.Eng
