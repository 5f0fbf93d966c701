/- Conditions are sound: any order of a region's operations comes to the same. -/
import Derived.Test.YtadblcopmoiaaaaEDraw2
set_option linter.unusedVariables false
set_option linter.unusedSimpArgs false
namespace Go.Eng
open Go Go.RowKit
section
variable {P : Program} {T : Tab} {B : Nat} {w0 : World} {F : Fr} {C : Cons} {ops : List Oper} {ancs : List Nat} {e0 : Env} {H0 : Nat → HB} {n0 : Nat}

/-- An operation that may be next: what is in its way. -/
structure Next (ops : List Oper) (ancs : List Nat) (S : Nat → Bool) (i : Nat) : Prop where
  unmade : S i = false
  inc : ∀ j oj, ops[j]? = some oj → (j < i ∧ S j = false) ∨ (i < j ∧ S j = true) → isInc ancs i j = true ∧ isInc ancs j i = true

theorem env_early {S : Nat → Bool} {i x : Nat} (hN : Next ops ancs S i) (hx : ∀ j oj, ops[j]? = some oj → isInc ancs i j = true → oj.dst ≠ some x) : ∀ {L : List SE}, LCs T C ops ancs e0 H0 n0 L → L.length ≤ i → envL e0 S L x = envL e0 allS L x
  | _, .nil, _ => rfl
  | _, .cons (L := L) (l := l) (o := o) hlc hix hLs, hle => by
    simp only [List.length_cons] at hle
    have ih := env_early hN hx hLs (by omega)
    simp only [envL, allS]
    rw [ih]
    cases hS : S l.ix with
    | true => simp [allS]
    | false =>
      have hinc := (hN.inc l.ix o hlc.op (.inl ⟨by omega, hS⟩)).1
      have hd := hx l.ix o hlc.op hinc
      rw [← hlc.dst] at hd
      simp [hd, allS]
theorem env_at {S : Nat → Bool} {l : SE} {L1 : List SE} {x : Nat} (hN : Next ops ancs S l.ix) (hx : ∀ j oj, ops[j]? = some oj → isInc ancs l.ix j = true → oj.dst ≠ some x) : ∀ {L2 : List SE}, LCs T C ops ancs e0 H0 n0 (L2 ++ l :: L1) → envL e0 S (L2 ++ l :: L1) x = envL e0 allS L1 x
  | [], .cons hlc hix hLs => by
    show envL e0 S (l :: L1) x = _
    simp only [envL, hN.unmade, Bool.false_eq_true, false_and, if_false]
    exact env_early hN hx hLs (by omega)
  | l2 :: L2, .cons (o := o) hlc hix hLs => by
    have ih := env_at hN hx hLs
    show envL e0 S (l2 :: (L2 ++ l :: L1)) x = _
    simp only [envL]
    have hix : l2.ix = (L2 ++ l :: L1).length := hix
    obtain ⟨_, _, hil, _⟩ := hLs.drop
    cases hS : S l2.ix with
    | false => simp [ih]
    | true =>
      have hinc := (hN.inc l2.ix o hlc.op (.inr ⟨by rw [hix, List.length_append, List.length_cons]; omega, hS⟩)).1
      have hd := hx l2.ix o hlc.op hinc
      rw [← hlc.dst] at hd
      simp [hd, ih]
theorem heap_early {S : Nat → Bool} {i q : Nat} (hN : Next ops ancs S i) : ∀ {L : List SE}, LCs T C ops ancs e0 H0 n0 L → L.length ≤ i → (∀ l' ∈ L, isInc ancs i l'.ix = true → hasKey q l'.d = false) → heapL H0 S L q = heapL H0 allS L q
  | _, .nil, _, _ => rfl
  | _, .cons (L := L) (l := l) (o := o) hlc hix hLs, hle, hq => by
    simp only [List.length_cons] at hle
    have ih := heap_early hN hLs (by omega) (fun l' hl' => hq l' (List.mem_cons_of_mem _ hl'))
    simp only [heapL, allS, if_true]
    cases hS : S l.ix with
    | true =>
      simp only [if_true]
      exact applyD_congr ih
    | false =>
      have hinc := (hN.inc l.ix o hlc.op (.inl ⟨by omega, hS⟩)).1
      have hk := hq l (by simp) hinc
      simp only [Bool.false_eq_true, if_false]
      rw [ih]
      exact ((applyD_key (H := heapL H0 (fun _ => true) L) (H' := H0)).1 hk).symm
theorem heap_at {S : Nat → Bool} {l : SE} {o0 : Oper} {L1 : List SE} {q : Nat} (hN : Next ops ancs S l.ix) (hran : l.ran = true) (hl : LC T C ops ancs e0 H0 n0 L1 l o0) (hq : (hget l.H q).live = true) : ∀ {L2 : List SE}, LCs T C ops ancs e0 H0 n0 (L2 ++ l :: L1) → heapL H0 S (L2 ++ l :: L1) q = heapL H0 allS L1 q
  | [], .cons hlc hix hLs => by
    show heapL H0 S (l :: L1) q = _
    simp only [heapL, hN.unmade, Bool.false_eq_true, if_false]
    exact heap_early hN hLs (by omega) (hl.heap hran q hq).2
  | l2 :: L2, .cons (o := o) hlc hix hLs => by
    have ih := heap_at hN hran hl hq hLs
    show heapL H0 S (l2 :: (L2 ++ l :: L1)) q = _
    simp only [heapL]
    have hix : l2.ix = (L2 ++ l :: L1).length := hix
    obtain ⟨_, _, hil, _⟩ := hLs.drop
    cases hS : S l2.ix with
    | false => simpa using ih
    | true =>
      have hinc := (hN.inc l2.ix o hlc.op (.inr ⟨by rw [hix, List.length_append, List.length_cons]; omega, hS⟩)).2
      have hk : hasKey q l2.d = false := by
        cases hk : hasKey q l2.d with
        | false => rfl
        | true =>
          have := (hlc.apart l (by simp) hinc q hk).2 hran
          rw [hq] at this; cases this
      simp only [if_true]
      rw [(applyD_key (H := heapL H0 S (L2 ++ l :: L1)) (H' := H0)).1 hk]
      exact ih
def more (S : Nat → Bool) (i : Nat) : Nat → Bool := fun j => S j || j == i
theorem more_ne {S : Nat → Bool} {i j : Nat} (h : j ≠ i) : more S i j = S j := by simp [more, h]
theorem more_same {S : Nat → Bool} {i : Nat} : more S i i = true := by simp [more]
theorem env_low {S : Nat → Bool} {i : Nat} : ∀ {L : List SE}, LCs T C ops ancs e0 H0 n0 L → L.length ≤ i → envL e0 (more S i) L = envL e0 S L
  | _, .nil, _ => rfl
  | _, .cons (L := L) (l := l) hlc hix hLs, hle => by
    simp only [List.length_cons] at hle
    funext x
    have e := env_low (S := S) (i := i) hLs (by omega)
    simp only [envL, e]
    rw [more_ne (S := S) (i := i) (j := l.ix) (by omega)]
theorem heap_low {S : Nat → Bool} {i : Nat} : ∀ {L : List SE}, LCs T C ops ancs e0 H0 n0 L → L.length ≤ i → heapL H0 (more S i) L = heapL H0 S L
  | _, .nil, _ => rfl
  | _, .cons (L := L) (l := l) hlc hix hLs, hle => by
    simp only [List.length_cons] at hle
    have e := heap_low (S := S) (i := i) hLs (by omega)
    simp only [heapL, e]
    rw [more_ne (S := S) (i := i) (j := l.ix) (by omega)]
theorem env_more {S : Nat → Bool} {l : SE} {o0 : Oper} {L1 : List SE} {x : Nat} (hN : Next ops ancs S l.ix) (hl : LC T C ops ancs e0 H0 n0 L1 l o0) : ∀ {L2 : List SE}, LCs T C ops ancs e0 H0 n0 (L2 ++ l :: L1) → envL e0 (more S l.ix) (L2 ++ l :: L1) x = if l.dst = some x then l.v else envL e0 S (L2 ++ l :: L1) x
  | [], .cons hlc hix hLs => by
    show envL e0 _ (l :: L1) x = if l.dst = some x then l.v else envL e0 S (l :: L1) x
    simp only [envL, more_same, true_and, hN.unmade, Bool.false_eq_true, false_and, if_false]
    rw [env_low hLs (by omega)]
  | l2 :: L2, .cons (o := o) hlc hix hLs => by
    have ih := env_more (x := x) hN hl hLs
    show envL e0 _ (l2 :: (L2 ++ l :: L1)) x = if l.dst = some x then l.v else envL e0 S (l2 :: (L2 ++ l :: L1)) x
    have hix : l2.ix = (L2 ++ l :: L1).length := hix
    obtain ⟨_, _, hil, _⟩ := hLs.drop
    have hgt : l.ix < l2.ix := by rw [hix, hil, List.length_append, List.length_cons]; omega
    simp only [envL]
    rw [more_ne (by omega), ih]
    by_cases h2 : S l2.ix = true ∧ l2.dst = some x
    · rw [if_pos h2, if_pos h2]
      have hinc := (hN.inc l2.ix o hlc.op (.inr ⟨hgt, h2.1⟩)).1
      have hne : l.dst ≠ some x := by
        intro hd
        have := hl.dsts l2.ix o hlc.op hinc x hd
        rw [← hlc.dst] at this
        exact this h2.2
      rw [if_neg hne]
    · rw [if_neg h2, if_neg h2]
theorem heap_more {S : Nat → Bool} {l : SE} {L1 : List SE} (hN : Next ops ancs S l.ix) : ∀ {L2 : List SE}, LCs T C ops ancs e0 H0 n0 (L2 ++ l :: L1) → heapL H0 (more S l.ix) (L2 ++ l :: L1) = applyD (heapL H0 S (L2 ++ l :: L1)) l.d
  | [], .cons hlc hix hLs => by
    show heapL H0 _ (l :: L1) = applyD (heapL H0 S (l :: L1)) l.d
    simp only [heapL, more_same, if_true, hN.unmade, Bool.false_eq_true, if_false]
    rw [heap_low hLs (by omega)]
  | l2 :: L2, .cons (o := o) hlc hix hLs => by
    have ih := heap_more hN hLs
    show heapL H0 _ (l2 :: (L2 ++ l :: L1)) = applyD (heapL H0 S (l2 :: (L2 ++ l :: L1))) l.d
    have hix : l2.ix = (L2 ++ l :: L1).length := hix
    obtain ⟨_, _, hil, _⟩ := hLs.drop
    have hgt : l.ix < l2.ix := by rw [hix, hil, List.length_append, List.length_cons]; omega
    simp only [heapL]
    rw [more_ne (by omega), ih]
    cases hS : S l2.ix with
    | false => simp
    | true =>
      have hinc := (hN.inc l2.ix o hlc.op (.inr ⟨hgt, hS⟩)).2
      simp only [if_true]
      refine applyD_comm fun q hq => ?_
      cases hk : hasKey q l2.d with
      | false => rfl
      | true =>
        have := (hlc.apart l (by simp) hinc q hk).1
        rw [hq] at this; cases this

/-- What the walk knows when some operations are made. -/
structure SimS (B : Nat) (w0 : World) (F : Fr) (e0 : Env) (H0 : Nat → HB) (n0 : Nat) (L : List SE) (S : Nat → Bool) (a : Act) (w : World) : Prop where
  defers : a.defers = []
  size : e0.length ≤ a.tmps.size
  mem : ∃ ρ φ, Mem B w0 ρ φ (usedL n0 S L) (heapL H0 S L) w ∧ (∀ t, t < e0.length → DenV ρ (envL e0 S L t) (a.tmps.getD t undef) ∧ (envL e0 S L t).wf (usedL n0 S L)) ∧ F.ok ρ (usedL n0 S L)

theorem used_more {S : Nat → Bool} {l : SE} {L : List SE} (hl : l ∈ L) (x : Nat) : U' (usedL n0 S L) l.n l.n' x → usedL n0 (more S l.ix) L x := by
  rintro (h | h)
  · rcases h with h | ⟨l', hl', hS, h1⟩
    · exact .inl h
    · exact .inr ⟨l', hl', by simp [more, hS], h1⟩
  · exact .inr ⟨l, hl, more_same, h⟩
theorem fresh_of {S : Nat → Bool} {l : SE} {o0 : Oper} {L1 : List SE} (hN : S l.ix = false) (hl : LC T C ops ancs e0 H0 n0 L1 l o0) : ∀ {L2 : List SE}, LCs T C ops ancs e0 H0 n0 (L2 ++ l :: L1) → ∀ q, l.n ≤ q → q < l.n' → ¬ usedL n0 S (L2 ++ l :: L1) q := by
  intro L2 hLs q h1 h2 hu
  rcases hu with hu | ⟨l', hl', hS, h3, h4⟩
  · have := hl.base; omega
  · rcases List.mem_append.1 hl' with hl' | hl'
    · -- a later one
      have key : ∀ {L2 : List SE}, LCs T C ops ancs e0 H0 n0 (L2 ++ l :: L1) → ∀ l' ∈ L2, l.n' ≤ l'.n := by
        intro L2
        induction L2 with
        | nil => intro _ l' h; cases h
        | cons l2 L2 ih =>
          intro hLs l' h
          cases hLs with
          | cons hlc hix hLs =>
            rcases List.mem_cons.1 h with rfl | h
            · exact hlc.mono l (by simp)
            · exact ih hLs l' h
      have := key hLs l' hl'
      omega
    · rcases List.mem_cons.1 hl' with rfl | hl'
      · rw [hN] at hS; cases hS
      · have := hl.mono l' hl'
        omega

theorem simS_step {S : Nat → Bool} {l : SE} {o : Oper} {L1 L2 : List SE} {a : Act} {w : World} {opsA : Array Oper} {K : Act → World → Prop} {Q : Exit → Act → World → Prop} (hT : TabOk P T) (hC : ConsOk P C) (hops : opsA.toList = ops) (hLs : LCs T C ops ancs e0 H0 n0 (L2 ++ l :: L1)) (hl : LC T C ops ancs e0 H0 n0 L1 l o) (hN : Next ops ancs S l.ix)
    (hS : SimS B w0 F e0 H0 n0 (L2 ++ l :: L1) S a w) (hK : ∀ a' w', SimS B w0 F e0 H0 n0 (L2 ++ l :: L1) (more S l.ix) a' w' → K a' w') : wpOp P opsA Q l.ix K a w := by
  obtain ⟨hdef, hsz, ρ, φ, hm, hd, hF⟩ := hS
  have hat : opsA[l.ix]? = some o := by
    have := hl.op
    rw [← hops] at this
    simpa using this
  have hin : l ∈ L2 ++ l :: L1 := by simp
  -- the slots as the operation sees them
  have hslot : ∀ x, DenV ρ (nth .u l.e x) (a.tmps.getD x undef) ∧ (nth .u l.e x).wf (usedL n0 S (L2 ++ l :: L1)) := by
    intro x
    by_cases hx : x < e0.length
    · rcases hl.env x with h | ⟨h1, h2⟩
      · rw [h]; exact ⟨trivial, fun _ h => h.elim⟩
      · have := hd x hx
        rw [env_at hN h1 hLs] at this
        exact ⟨h2.1 _ _ this.1, h2.2 _ this.2⟩
    · rw [nth_out _ _ _ (by rw [hl.elen]; omega)]
      exact ⟨trivial, fun _ h => h.elim⟩
  have hfin : ∀ (u : Value) (w' : World) (ρ' : Nat → Value) (φ' : Nat → Nat → Prop), Mem B w0 ρ' φ' (U' (usedL n0 S (L2 ++ l :: L1)) l.n l.n') (applyD (heapL H0 S (L2 ++ l :: L1)) l.d) w' → (∀ x, usedL n0 S (L2 ++ l :: L1) x → ρ' x = ρ x) → DenV ρ' l.v u → l.v.wf (U' (usedL n0 S (L2 ++ l :: L1)) l.n l.n') → K (a.put o.dst u) w' := by
    intro u w' ρ' φ' hm' hρ hv hw
    refine hK _ _ ⟨by rw [put_defers]; exact hdef, by rw [put_tmps_size]; exact hsz, ρ', φ', ?_, fun t ht => ?_, hF.next hρ fun x hx => used_more hin x (.inl hx)⟩
    · rw [heap_more hN hLs]
      exact hm'.mono (used_more hin)
    · rw [env_more hN hl hLs, hl.dst]
      cases hdst : o.dst with
      | none =>
        simp only [Act.put]
        rw [if_neg (by simp)]
        have := hd t ht
        exact ⟨this.1.anchors this.2 hρ, this.2.mono fun x hx => used_more hin x (.inl hx)⟩
      | some d =>
        rw [put_getD]
        by_cases hdt : d = t
        · subst hdt
          rw [if_pos rfl, if_pos ⟨rfl, by omega⟩]
          exact ⟨hv, hw.mono (used_more hin)⟩
        · rw [if_neg (by simpa using hdt), if_neg (by simp [hdt])]
          have := hd t ht
          exact ⟨this.1.anchors this.2 hρ, this.2.mono fun x hx => used_more hin x (.inl hx)⟩
  unfold wpOp
  simp only [hat]
  cases hran : l.ran with
  | true =>
    have hw : Region.wanted o (yielded opsA a.tmps) = true := by
      rcases hl.guard with ⟨hg, _⟩ | ⟨g, want, s, hg, hs, h⟩
      · exact wanted_none hg
      · rw [← hops] at hs
        rcases h with ⟨x, hx, hxw⟩ | ⟨_, h⟩
        · have hds := (hslot s).1
          rw [hx] at hds
          rw [wanted_bool hg hs (den_l hds), hxw, hran]
        · rw [hran] at h; cases h
    rw [if_pos hw]
    left
    obtain ⟨pre, out, hst, hp, h1, h2, h3⟩ := hl.run hran
    obtain ⟨dst, op, tt, pos, af, gd⟩ := o
    have hrun := stepC_sound hT hC (a := a.eval) (fun x => ev_den (fun t => (hslot t).1) x) (fun x => ev_wf (fun t => (hslot t).2) x) (H := heapL H0 S (L2 ++ l :: L1)) (fun q hq => by
        rw [heap_at hN hran hl hq hLs]
        exact (hl.heap hran q hq).1.symm) hm hst hp (fun h o' ho q hq hq' => by
          simp only [List.mem_singleton, Prod.mk.injEq] at ho
          rw [ho.2, ← h3] at hq'
          exact fresh_of hN.unmade hl hLs q hq hq') dst tt pos af gd
    refine hrun.1.wp fun u w' hf => ?_
    obtain ⟨h, o', ho, _, ρ', φ', hm', hρ, hv, hw'⟩ := hf
    simp only [List.mem_singleton, Prod.mk.injEq] at ho
    obtain ⟨rfl, rfl⟩ := ho
    rw [← h2, ← h3] at hm'
    rw [← h1] at hv hw'
    rw [← h3] at hw'
    exact hfin u w' ρ' φ' hm' hρ hv hw'
  | false =>
    have hw : Region.wanted o (yielded opsA a.tmps) = false := by
      rcases hl.guard with ⟨_, h⟩ | ⟨g, want, s, hg, hs, h⟩
      · rw [hran] at h; cases h
      · rw [← hops] at hs
        have hds := (hslot s).1
        rcases h with ⟨x, hx, hxw⟩ | ⟨hx, _⟩
        · rw [hx] at hds
          rw [wanted_bool hg hs (den_l hds), hxw, hran]
        · rw [hx] at hds
          obtain ⟨vs, hv, hsz', _⟩ := hds
          have : vs = #[] := by
            apply Array.eq_empty_of_size_eq_zero
            simpa using hsz'
          subst this
          exact wanted_not hg hs hv
    rw [if_neg (by rw [hw]; simp)]
    obtain ⟨h1, h2, h3⟩ := hl.skip hran
    refine hfin undef w ρ φ ?_ (fun _ _ => rfl) ?_ ?_
    · rw [h2, h3]
      exact hm.mono fun _ h => .inl h
    · rw [h1]
      exact ⟨#[], rfl, rfl, fun j c hc => by simp at hc⟩
    · rw [h1]
      exact fun c hc => by cases hc

theorem count_set : ∀ (l : List Bool) (i : Nat), l[i]? = some false → (l.set i true).count false + 1 = l.count false
  | [], i, h => by simp at h
  | x :: l, 0, h => by
    simp at h; subst h
    simp
  | x :: l, i + 1, h => by
    have := count_set l i (by simpa using h)
    simp only [List.set_cons_succ, List.count_cons]
    omega
theorem draw_any {opsA : Array Oper} {L : List SE} {σ' : St} {k : St → Prop} {Q : Exit → Act → World → Prop} (hT : TabOk P T) (hC : ConsOk P C) (hops : opsA.toList = ops) (hA : Ancs ops ancs) (hLs : LCs T C ops ancs e0 H0 n0 L) (hlen : L.length = ops.length) (hI : INV e0 H0 n0 σ' L) (hkσ : k σ')
    (hk : ∀ σ a w, k σ → Sim B w0 F σ a w → Q .normal a w) : ∀ (fuel : Nat) (listed : Array Bool) (a : Act) (w : World), listed.size = opsA.size → Closed ops (fun i => listed.getD i false) → listed.toList.count false ≤ fuel →
      SimS B w0 F e0 H0 n0 L (fun i => listed.getD i false) a w → wpAny P .any opsA Q fuel listed a w := by
  intro fuel
  -- all are made
  have done : ∀ (listed : Array Bool) (a : Act) (w : World), listed.size = opsA.size → SimS B w0 F e0 H0 n0 L (fun i => listed.getD i false) a w → Region.ready .any opsA listed = [] → Q .normal a w := by
    intro listed a w hsz hS hr
    have hall : ∀ i, i < opsA.size → listed.getD i false = true := by
      intro i
      induction i using Nat.strongRecOn with
      | _ i ih =>
        intro hi
        cases hv : listed.getD i false with
        | true => rfl
        | false =>
          have hilt0 : i < opsA.size := hi
          have hat : opsA[i]? = some opsA[i] := by simp [hi]
          have hmem : i ∈ Region.ready .any opsA listed := by
            rw [mem_ready]
            refine ⟨?_, opsA[i], hat, fun e he hb => ?_⟩
            · have hlt : i < listed.size := by omega
              simp [hlt] at hv ⊢
              exact hv
            · have hlt := hA.lt i opsA[i] (by rw [← hops]; simp [hilt0]) e (by simpa using he) hb
              exact ih e.on hlt (by omega)
          rw [hr] at hmem
          cases hmem
    obtain ⟨hdef, hsz', ρ, φ, hm, hd, hF⟩ := hS
    have hix : ∀ {L : List SE}, LCs T C ops ancs e0 H0 n0 L → ∀ l ∈ L, l.ix < L.length := by
      intro L hLs l hl
      obtain ⟨L2, L1, o, e, _, h2, _⟩ := hLs.split hl
      rw [e, h2, List.length_append, List.length_cons]
      omega
    have hSall : ∀ l ∈ L, listed.getD l.ix false = true := fun l hl => hall _ (by
      have := hix hLs l hl
      rw [hlen, ← hops] at this
      simpa using this)
    have henv : ∀ x, envL e0 (fun i => listed.getD i false) L x = envL e0 allS L x := by
      intro x
      clear hm hd hF hlen hI hix hLs
      induction L with
      | nil => rfl
      | cons l L ih =>
        simp only [envL, hSall l (by simp), allS, true_and]
        rw [ih (fun l' hl' => hSall l' (by simp [hl']))]
    have hheap : heapL H0 (fun i => listed.getD i false) L = heapL H0 allS L := by
      clear hm hd hF hlen hI hix hLs henv
      induction L with
      | nil => rfl
      | cons l L ih =>
        simp only [heapL, hSall l (by simp), allS, if_true]
        rw [ih (fun l' hl' => hSall l' (by simp [hl']))]
    have hused : ∀ x, usedL n0 (fun i => listed.getD i false) L x → x < σ'.n := by
      rintro x (h | ⟨l, hl, _, _, h⟩)
      · exact Nat.lt_of_lt_of_le h hI.n
      · exact Nat.lt_of_lt_of_le h (hI.mono l hl)
    refine hk σ' a w hkσ ⟨hdef, by rw [hI.len]; exact hsz', ρ, φ, ?_, fun t => ?_, hF.next (fun _ _ => rfl) hused⟩
    · rw [hI.heap, ← hheap]
      exact hm.mono hused
    · by_cases ht : t < e0.length
      · have h1 := hd t ht
        rw [henv] at h1
        have h2 := hI.env t
        exact ⟨h2.1 _ _ h1.1, (h2.2 _ h1.2).mono hused⟩
      · rw [nth_out _ _ _ (by rw [hI.len]; omega)]
        exact ⟨trivial, fun _ h => h.elim⟩
  -- the next one
  have next : ∀ (listed : Array Bool) (a : Act) (w : World) (i : Nat) (K : Act → World → Prop), listed.size = opsA.size → Closed ops (fun i => listed.getD i false) → SimS B w0 F e0 H0 n0 L (fun i => listed.getD i false) a w → i ∈ Region.ready .any opsA listed →
      (∀ a' w', Closed ops (fun j => (listed.setIfInBounds i true).getD j false) → SimS B w0 F e0 H0 n0 L (fun j => (listed.setIfInBounds i true).getD j false) a' w' → K a' w') → wpOp P opsA Q i K a w := by
    intro listed a w i K hsz hcl hS hi hK
    obtain ⟨hun, o, ho, hall⟩ := mem_ready.1 hi
    have ho' : ops[i]? = some o := by rw [← hops]; simpa using ho
    have hilt : i < opsA.size := (Array.getElem?_eq_some_iff.1 ho).1
    have hilt' : i < listed.size := by omega
    have hSi : listed.getD i false = false := by
      simp [hilt'] at hun ⊢
      exact hun
    have hdep : ∀ e ∈ o.after.toList, Region.binds .any e = true → (fun i => listed.getD i false) e.on = true := fun e he hb => hall e (by simpa using he) hb
    have hset : (fun j => (listed.setIfInBounds i true).getD j false) = more (fun i => listed.getD i false) i := by
      funext j
      by_cases hj : j = i
      · subst hj
        rw [more_same]
        simp [hilt']
      · rw [more_ne hj, getD_set_ne false (Ne.symm hj)]
    obtain ⟨L2, l, L1, rfl, hL1⟩ : ∃ L2 l L1, L = L2 ++ l :: L1 ∧ L1.length = i := by
      have hil : i < L.length := by rw [hlen, ← hops]; simpa using hilt
      refine ⟨L.take (L.length - 1 - i), L[L.length - 1 - i]'(by omega), L.drop (L.length - 1 - i + 1), ?_, by simp; omega⟩
      rw [List.getElem_cons_drop, List.take_append_drop]
    obtain ⟨o1, hl, hix, _⟩ := hLs.drop
    rw [hL1] at hix
    subst hix
    have : o1 = o := by
      have := hl.op
      rw [ho'] at this
      injection this with this
      exact this.symm
    subst this
    have hN : Next ops ancs (fun i => listed.getD i false) l.ix := ⟨hSi, fun j oj hj hor => inc_of hA hcl ho' hj hSi hdep hor⟩
    refine simS_step hT hC hops hLs hl hN hS fun a' w' hS' => hK a' w' ?_ ?_
    · rw [hset]
      intro j oj hj hSj e he hb
      by_cases hji : j = l.ix
      · subst hji
        rw [ho'] at hj
        injection hj with hj
        subst hj
        have := hdep e he hb
        simp only [more]
        simp only at this
        rw [this]; rfl
      · rw [more_ne hji] at hSj
        have := hcl j oj hj hSj e he hb
        simp only [more]
        simp only at this
        rw [this]; rfl
    · rw [hset]; exact hS'
  induction fuel with
  | zero =>
    intro listed a w hsz hcl hcnt hS
    have hr : Region.ready .any opsA listed = [] := by
      cases hr : Region.ready .any opsA listed with
      | nil => rfl
      | cons i l =>
        have hi : i ∈ Region.ready .any opsA listed := by rw [hr]; simp
        obtain ⟨hun, o, ho, _⟩ := mem_ready.1 hi
        have hilt : i < opsA.size := (Array.getElem?_eq_some_iff.1 ho).1
        have hat : listed.toList[i]? = some false := by
          have hilt' : i < listed.size := by omega
          simp [hilt'] at hun ⊢
          exact hun
        have := count_set listed.toList i hat
        omega
    exact ⟨hr, done listed a w hsz hS hr⟩
  | succ fuel ih =>
    intro listed a w hsz hcl hcnt hS
    refine ⟨fun hr => done listed a w hsz hS hr, fun i hi => ?_⟩
    obtain ⟨hun, o, ho, _⟩ := mem_ready.1 hi
    have hilt : i < opsA.size := (Array.getElem?_eq_some_iff.1 ho).1
    have hat : listed.toList[i]? = some false := by
      have hilt' : i < listed.size := by omega
      simp [hilt'] at hun ⊢
      exact hun
    have hc := count_set listed.toList i hat
    refine next listed a w i _ hsz hcl hS hi fun a' w' hcl' hS' => ih _ a' w' (by simpa using hsz) hcl' ?_ hS'
    have : (listed.setIfInBounds i true).toList = listed.toList.set i true := by simp
    rw [this]
    omega

theorem vcDraw_sound {ops : Array Oper} {ancs : List Nat} {ks : Nat → List Nat} {k : St → Prop} {σ : St} {a : Act} {w : World} {Q : Exit → Act → World → Prop} (hT : TabOk P T) (hC : ConsOk P C) (ha : ancsGo ops.toList [] = some ancs) (h : vcDraw T C ops.toList ancs ks ops.toList 0 σ [] k)
    (hS : Sim B w0 F σ a w) (hk : ∀ σ a w, k σ → Sim B w0 F σ a w → Q .normal a w) : wpAny P .any ops Q ops.size (Array.replicate ops.size false) a { w with drawn := w.drawn + 1 } := by
  obtain ⟨hdef, hsz, ρ, φ, hm, hd, hF⟩ := hS
  obtain ⟨σ', L, hI, hLs, hlen, hkσ⟩ := draw_log (e0 := σ.e) (H0 := hget σ.H) (n0 := σ.n) ops.toList 0 σ [] rfl rfl (Nat.zero_le _) ⟨rfl, fun x => .refl _, rfl, Nat.le_refl _, fun l hl => by cases hl⟩ .nil h
  have hnone : ∀ i, (Array.replicate ops.size false).getD i false = false := by
    intro i
    by_cases hi : i < ops.size <;> simp [hi]
  have hSf : (fun i => (Array.replicate ops.size false).getD i false) = fun _ => false := funext hnone
  refine draw_any hT hC rfl (ancs_of ha) hLs hlen hI hkσ hk ops.size _ a _ (by simp) ?_ ?_ ?_
  · rw [hSf]; intro i o ho hSi; cases hSi
  · have : (Array.replicate ops.size false).toList = List.replicate ops.size false := by simp
    rw [this]
    simp
  · rw [hSf]
    have hheap : heapL (hget σ.H) (fun _ => false) L = hget σ.H := by
      clear hLs hlen hI
      induction L with
      | nil => rfl
      | cons l L ih => simp only [heapL, Bool.false_eq_true, if_false]; exact ih
    have henv : ∀ x, envL σ.e (fun _ => false) L x = nth .u σ.e x := by
      intro x
      clear hLs hlen hI hheap
      induction L with
      | nil => rfl
      | cons l L ih => simp only [envL, Bool.false_eq_true, false_and, if_false]; exact ih
    have hm' : Mem B w0 ρ φ (· < σ.n) (hget σ.H) { w with drawn := w.drawn + 1 } := hm.next ⟨rfl, rfl, rfl, Nat.le_refl _, fun _ _ => rfl⟩
    refine ⟨hdef, hsz, ρ, φ, ?_, fun t _ => ?_, hF.next (fun _ _ => rfl) fun x hx => .inl hx⟩
    · rw [hheap]; exact hm'.mono fun x hx => .inl hx
    · rw [henv]; exact ⟨(hd t).1, (hd t).2.mono fun x hx => .inl hx⟩
end
end Go.Eng
