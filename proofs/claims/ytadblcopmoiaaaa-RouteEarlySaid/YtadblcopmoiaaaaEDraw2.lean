/- Conditions are sound: operations in any order, put together. -/
import Derived.Test.YtadblcopmoiaaaaEDraw
set_option linter.unusedVariables false
set_option linter.unusedSimpArgs false
namespace Go.Eng
open Go Go.RowKit
section
variable {P : Program} {T : Tab} {B : Nat} {w0 : World}

theorem stepC_le {C : Cons} {op : Op} {en : Env} {Hl : Heap} {n : Nat} {g : Got} (hs : stepC T C en Hl n op = some g) : ∀ h o, (h, o) ∈ g.alts → n ≤ o.n := by
  have hstep : ∀ {op : Op}, stepG T en Hl n op = some g → ∀ h o, (h, o) ∈ g.alts → n ≤ o.n := by
    intro op hs
    unfold stepG at hs
    split at hs
    · rename_i o ho
      split at hs
      · rename_i hle
        injection hs with hs
        subst hs
        intro h o' hm
        simp only [List.mem_singleton, Prod.mk.injEq] at hm
        rw [hm.2]
        exact Nat.le_of_ble_eq_true hle
      · cases hs
    · cases hs
  cases op with
  | call c =>
    simp only [stepC] at hs
    split at hs
    · split at hs
      · split at hs
        · split at hs
          · split at hs
            · rename_i l hl
              injection hs with hs
              subst hs
              exact gotAlts_le hl
            · cases hs
          · cases hs
        · cases hs
      · cases hs
    · exact hstep hs
  | _ => simp only [stepC] at hs; exact hstep hs

variable {C : Cons} {ops : List Oper} {ancs : List Nat} {e0 : Env} {H0 : Nat → HB} {n0 : Nat}
theorem LCs.split : ∀ {L : List SE} {l : SE}, LCs T C ops ancs e0 H0 n0 L → l ∈ L → ∃ L2 L1 o, L = L2 ++ l :: L1 ∧ LC T C ops ancs e0 H0 n0 L1 l o ∧ l.ix = L1.length ∧ LCs T C ops ancs e0 H0 n0 L1
  | _, l, .nil, h => by cases h
  | _, l, .cons (L := L) (l := l0) (o := o) hlc hix hLs, h => by
    rcases List.mem_cons.1 h with rfl | h
    · exact ⟨[], L, o, rfl, hlc, hix, hLs⟩
    · obtain ⟨L2, L1, o', e, h1, h2, h3⟩ := LCs.split hLs h
      exact ⟨l0 :: L2, L1, o', by rw [e]; rfl, h1, h2, h3⟩
theorem LCs.drop : ∀ {L2 L1 : List SE} {l : SE}, LCs T C ops ancs e0 H0 n0 (L2 ++ l :: L1) → ∃ o, LC T C ops ancs e0 H0 n0 L1 l o ∧ l.ix = L1.length ∧ LCs T C ops ancs e0 H0 n0 L1
  | [], L1, l, .cons hlc hix hLs => ⟨_, hlc, hix, hLs⟩
  | l2 :: L2, L1, l, .cons hlc hix hLs => LCs.drop (L2 := L2) hLs
theorem mono_lt {L : List SE} {l : SE} {o : Oper} (h : LC T C ops ancs e0 H0 n0 L l o) : ∀ l' ∈ L, l'.n' ≤ l.n := h.mono

theorem deadK_spec : ∀ {ks : List Nat} {H : Heap} {q : Nat}, (hget (deadK ks H) q).live = true → hget (deadK ks H) q = hget H q
  | [], H, q, _ => rfl
  | a :: l, H, q, h => by
    have e : deadK (a :: l) H = setAt (deadK l H) a .dead := rfl
    rw [e, hget_setAt] at h ⊢
    by_cases ha : q = a
    · subst ha
      rw [upd_same] at h; cases h
    · rw [upd_ne _ _ ha] at h ⊢
      exact deadK_spec h
theorem draw_log {k : St → Prop} {ks : Nat → List Nat} : ∀ (r : List Oper) (i : Nat) (σ : St) (L : List SE), ops.drop i = r → L.length = i → i ≤ ops.length → INV e0 H0 n0 σ L → LCs T C ops ancs e0 H0 n0 L →
    vcDraw T C ops ancs ks r i σ (toLE L) k → ∃ σ' L', INV e0 H0 n0 σ' L' ∧ LCs T C ops ancs e0 H0 n0 L' ∧ L'.length = ops.length ∧ k σ'
  | [], i, σ, L, hr, hL, hi, hI, hC, h => by
    refine ⟨σ, L, hI, hC, ?_, h⟩
    have := congrArg List.length hr
    simp at this
    omega
  | o :: r, i, σ, L, hr, hL, hi, hI, hC, h => by
    have hat : ops[i]? = some o := by
      have := congrArg (·[0]?) hr
      simpa using this
    have hlt := (List.getElem?_eq_some_iff.1 hat).1
    have hr' : ops.drop (i + 1) = r := by rw [← List.drop_drop, hr]; rfl
    have inLE : ∀ l ∈ L, l.ran = true → (⟨l.ix, l.H, l.d⟩ : LE) ∈ toLE L := fun l hl hran => mem_toLE hl hran
    have skipd : ∀ l ∈ L, l.ran = false → l.d = [] := by
      intro l hl hran
      obtain ⟨L2, L1, o', _, hlc, _, _⟩ := hC.split hl
      exact (hlc.skip hran).2.1
    simp only [vcDraw] at h
    generalize hds : incDst ancs i 0 ops = ds at h
    split at h
    · cases h
    · rename_i hdok
      have hdsts : ∀ j oj, ops[j]? = some oj → isInc ancs i j = true → ∀ t, o.dst = some t → oj.dst ≠ some t := by
        intro j oj hj hinc t ht htj
        have hm := incDst_mem (k := 0) hj (by rw [Nat.zero_add]; exact hinc) htj
        rw [hds] at hm
        unfold dstOk at hdok
        rw [ht] at hdok
        simp at hdok
        exact hdok hm
      -- what may be read of the slots
      have henv : ∀ (σ : St), INV e0 H0 n0 σ L → ∀ e1 : Env, (∀ x, nth .u e1 x = .u ∨ (x ∉ ds ∧ SV.le (nth .u e1 x) (nth .u σ.e x))) → ∀ x, nth .u e1 x = .u ∨ ((∀ j oj, ops[j]? = some oj → isInc ancs i j = true → oj.dst ≠ some x) ∧ SV.le (nth .u e1 x) (envL e0 allS L x)) := by
        intro σ hI e1 he x
        rcases he x with h | ⟨h1, h2⟩
        · exact .inl h
        · refine .inr ⟨fun j oj hj hinc hd => h1 ?_, h2.trans (hI.env x)⟩
          have hm := incDst_mem (k := 0) hj (by rw [Nat.zero_add]; exact hinc) hd
          rw [hds] at hm
          exact hm
      have hmask : ∀ x, nth .u (maskE ds σ.e) x = .u ∨ (x ∉ ds ∧ SV.le (nth .u (maskE ds σ.e) x) (nth .u σ.e x)) := by
        intro x
        by_cases hx : x ∈ ds
        · exact .inl ((maskE_nth ds σ.e x).1 hx)
        · refine .inr ⟨hx, ?_⟩
          rw [(maskE_nth ds σ.e x).2 hx]
          exact .refl _
      -- one that is made
      have hrun : ∀ (σ1 : St) (e1 : Env), σ1.H = σ.H → σ1.n = σ.n → INV e0 H0 n0 σ1 L → e1.length = e0.length → (∀ x, nth .u e1 x = .u ∨ (x ∉ ds ∧ SV.le (nth .u e1 x) (nth .u σ1.e x))) →
          ((o.guard = none) ∨ ∃ g want s, o.guard = some (g, want) ∧ opDst ops g = some s ∧ ∃ x, nth .u e1 s = .w (.c (.l x)) ∧ (x == want) = true) →
          (match stepC T C e1 (deadK (ks i) (maskH ancs i (toLE L) σ.H)) σ1.n o.op with
            | some ⟨pre, [(none, out)]⟩ => match apartL ancs i out.d (toLE L) with
              | true => conj pre (vcDraw T C ops ancs ks r (i + 1) (σ1.upd o.dst out) (⟨i, deadK (ks i) (maskH ancs i (toLE L) σ.H), out.d⟩ :: toLE L) k)
              | false => Bad 8 Oper o
            | _ => Bad 9 Oper o) → ∃ σ' L', INV e0 H0 n0 σ' L' ∧ LCs T C ops ancs e0 H0 n0 L' ∧ L'.length = ops.length ∧ k σ' := by
        intro σ1 e1 eH en hI1 hlen he hg h
        split at h
        · rename_i pre out hst
          split at h
          · rename_i hap
            obtain ⟨hp, h⟩ := conj_iff.1 h
            have hle := stepC_le hst none out (by simp)
            have hlc : LC T C ops ancs e0 H0 n0 L ⟨i, o.dst, out.v, out.d, σ1.n, out.n, e1, deadK (ks i) (maskH ancs i (toLE L) σ.H), true⟩ o := by
              refine ⟨hat, rfl, hlen, henv σ1 hI1 e1 he, fun _ q hq => ?_, fun l' hl' hinc q hq => ?_, hdsts, hle, hI1.n, hI1.mono, ?_, fun _ => ⟨pre, out, hst, hp, rfl, rfl, rfl⟩, fun h => by cases h⟩
              · have hdk := deadK_spec hq
                have hq2 : (hget (deadK (ks i) (maskH ancs i (toLE L) σ.H)) q).live = true := hq
                rw [hdk] at hq2
                obtain ⟨h1, h2⟩ := maskH_spec hq2
                refine ⟨?_, fun l' hl' hinc => ?_⟩
                · rw [← hI1.heap, eH]; exact hdk.trans h1
                · cases hran : l'.ran with
                  | true => exact h2 _ (inLE l' hl' hran) hinc
                  | false => rw [skipd l' hl' hran]; rfl
              · cases hran : l'.ran with
                | true =>
                  obtain ⟨h1, h2⟩ := apartL_spec hap _ (inLE l' hl' hran) hinc q hq
                  exact ⟨h1, fun _ => h2⟩
                | false => exact ⟨by rw [skipd l' hl' hran]; rfl, fun h => by cases h⟩
              · rcases hg with hg | ⟨g, want, s, h1, h2, x, h3, h4⟩
                · exact .inl ⟨hg, rfl⟩
                · exact .inr ⟨g, want, s, h1, h2, .inl ⟨x, h3, h4⟩⟩
            refine draw_log r (i + 1) _ (⟨i, o.dst, out.v, out.d, σ1.n, out.n, e1, deadK (ks i) (maskH ancs i (toLE L) σ.H), true⟩ :: L) hr' (by simp [hL]) hlt ?_ (.cons hlc hL.symm hC) (by simp only [toLE, if_true]; exact h)
            exact hI1.put (l := ⟨i, o.dst, out.v, out.d, σ1.n, out.n, e1, deadK (ks i) (maskH ancs i (toLE L) σ.H), true⟩) rfl hle
          · cases h
        · cases h
      -- one that is not
      have hskip : ∀ (σ1 : St) (e1 : Env), INV e0 H0 n0 σ1 L → e1.length = e0.length → (∀ x, nth .u e1 x = .u ∨ (x ∉ ds ∧ SV.le (nth .u e1 x) (nth .u σ1.e x))) →
          (∃ g want s, o.guard = some (g, want) ∧ opDst ops g = some s ∧ ((∃ x, nth .u e1 s = .w (.c (.l x)) ∧ (x == want) = false) ∨ nth .u e1 s = .t [])) →
          vcDraw T C ops ancs ks r (i + 1) ⟨putD o.dst (.t []) σ1.e, σ1.H, σ1.n⟩ (toLE L) k → ∃ σ' L', INV e0 H0 n0 σ' L' ∧ LCs T C ops ancs e0 H0 n0 L' ∧ L'.length = ops.length ∧ k σ' := by
        intro σ1 e1 hI1 hlen he hg h
        have hlc : LC T C ops ancs e0 H0 n0 L ⟨i, o.dst, .t [], [], σ1.n, σ1.n, e1, [], false⟩ o := by
          refine ⟨hat, rfl, hlen, henv σ1 hI1 e1 he, fun h => (by cases h), fun l' hl' hinc q hq => (by cases hq), hdsts, Nat.le_refl _, hI1.n, hI1.mono, ?_, fun h => (by cases h), fun _ => ⟨rfl, rfl, rfl⟩⟩
          obtain ⟨g, want, s, h1, h2, h3⟩ := hg
          rcases h3 with h3 | h3
          · exact .inr ⟨g, want, s, h1, h2, .inl h3⟩
          · exact .inr ⟨g, want, s, h1, h2, .inr ⟨h3, rfl⟩⟩
        refine draw_log r (i + 1) _ (⟨i, o.dst, .t [], [], σ1.n, σ1.n, e1, [], false⟩ :: L) hr' (by simp [hL]) hlt ?_ (.cons hlc hL.symm hC) (by simp only [toLE, Bool.false_eq_true, if_false]; exact h)
        exact hI1.put (l := ⟨i, o.dst, .t [], [], σ1.n, σ1.n, e1, [], false⟩) rfl (Nat.le_refl _)
      have hml : (maskE ds σ.e).length = e0.length := by rw [maskE_length, hI.len]
      -- a truth that becomes known
      have hlit : ∀ {s : Nat} {x y : Bool}, nth .u (maskE ds σ.e) s = .w (.c (.b x)) → x = y → nth .u σ.e s = .w (.c (.b x)) ∧ s < σ.e.length ∧
          ∀ z, nth .u (put (.w (.c (.l y))) (maskE ds σ.e) s) z = .u ∨ (z ∉ ds ∧ SV.le (nth .u (put (.w (.c (.l y))) (maskE ds σ.e) s) z) (nth .u (put (.w (.c (.l y))) σ.e s) z)) := by
        intro s x y hs hx
        have hsd : s ∉ ds := by
          intro hm
          rw [(maskE_nth ds σ.e s).1 hm] at hs
          cases hs
        have hs' : nth .u σ.e s = .w (.c (.b x)) := by rw [← (maskE_nth ds σ.e s).2 hsd]; exact hs
        have hlt' : s < σ.e.length := by
          by_cases hh : s < σ.e.length
          · exact hh
          · rw [nth_out _ _ _ (Nat.le_of_not_lt hh)] at hs'; cases hs'
        refine ⟨hs', hlt', fun z => ?_⟩
        by_cases hz : z = s
        · subst hz
          refine .inr ⟨hsd, ?_⟩
          rw [nth_put_same _ _ _ _ (by rw [maskE_length]; exact hlt'), nth_put_same _ _ _ _ hlt']
          exact .refl _
        · rw [nth_put_ne _ _ _ _ _ hz, nth_put_ne _ _ _ _ _ hz]
          exact hmask z
      split at h
      · rename_i hg
        exact hrun σ _ rfl rfl hI hml hmask (.inl hg) h
      · rename_i g want hg
        split at h
        · cases h
        · rename_i s hs
          split at h
          · rename_i x hx
            split at h
            · rename_i hw
              exact hrun σ _ rfl rfl hI hml hmask (.inr ⟨g, want, s, hg, hs, x, hx, hw⟩) h
            · rename_i hw
              exact hskip σ _ hI hml hmask ⟨g, want, s, hg, hs, .inl ⟨x, hx, hw⟩⟩ h
          · rename_i hx
            exact hskip σ _ hI hml hmask ⟨g, want, s, hg, hs, .inr hx⟩ h
          · rename_i x hx
            by_cases hw : x = want
            · obtain ⟨h1, h2, h3⟩ := hlit hx hw
              refine hrun ⟨put (.w (.c (.l want))) σ.e s, σ.H, σ.n⟩ _ rfl rfl (hI.lit h1 hw) (by rw [put_length, hml]) h3 (.inr ⟨g, want, s, hg, hs, want, ?_, by simp⟩) (h.1 hw)
              exact nth_put_same _ _ _ _ (by rw [maskE_length]; exact h2)
            · have hw' : x = !want := by cases x <;> cases want <;> simp_all
              obtain ⟨h1, h2, h3⟩ := hlit hx hw'
              refine hskip ⟨put (.w (.c (.l (!want)))) σ.e s, σ.H, σ.n⟩ (put (.w (.c (.l (!want)))) (maskE ds σ.e) s) (hI.lit h1 hw') (by rw [put_length, hml]) h3 ⟨g, want, s, hg, hs, .inl ⟨!want, ?_, by simp⟩⟩ (h.2 hw')
              exact nth_put_same _ _ _ _ (by rw [maskE_length]; exact h2)
          · cases h
end
end Go.Eng
