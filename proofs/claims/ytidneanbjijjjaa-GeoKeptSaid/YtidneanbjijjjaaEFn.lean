/- The engine: EDraw, EDraw2, EDraw3, EInc, ECode, EFn, EFn2. -/
import Derived.Test.YtidneanbjijjjaaEVc
/- Conditions are sound: operations in any order. -/
set_option linter.unusedVariables false
set_option linter.unusedSimpArgs false
namespace Go.Eng
open Go Go.RowKit

/-! ### What the lists tell -/
theorem maskE_nth : ∀ (ds : List Tmp) (e : Env) (x : Nat), (x ∈ ds → nth .u (maskE ds e) x = .u) ∧ (x ∉ ds → nth .u (maskE ds e) x = nth .u e x)
  | [], e, x => ⟨fun h => (by cases h), fun _ => rfl⟩
  | d :: l, e, x => by
    have ih := maskE_nth l e x
    have hl : (maskE (d :: l) e) = put .u (maskE l e) d := rfl
    rw [hl]
    by_cases hd : x = d
    · subst hd
      refine ⟨fun _ => ?_, fun h => absurd (List.mem_cons_self ..) h⟩
      by_cases hx : x < (maskE l e).length
      · exact nth_put_same _ _ _ _ hx
      · rw [nth_out _ _ _ (by rw [put_length]; omega)]
    · rw [nth_put_ne _ _ _ _ _ hd]
      refine ⟨fun h => ih.1 ?_, fun h => ih.2 fun h' => h (List.mem_cons_of_mem _ h')⟩
      rcases List.mem_cons.1 h with h | h
      · exact absurd h hd
      · exact h
theorem maskE_length : ∀ (ds : List Tmp) (e : Env), (maskE ds e).length = e.length
  | [], _ => rfl
  | d :: l, e => by
    have hl : (maskE (d :: l) e) = put .u (maskE l e) d := rfl
    rw [hl, put_length, maskE_length l e]
theorem incDst_mem {ancs : List Nat} {i : Nat} : ∀ {l : List Oper} {k j : Nat} {o : Oper} {x : Nat}, l[j]? = some o → isInc ancs i (k + j) = true → o.dst = some x → x ∈ incDst ancs i k l
  | [], _, _, _, _, h, _, _ => by simp at h
  | o0 :: l, k, 0, o, x, h, hi, hd => by
    simp at h; subst h
    unfold incDst
    rw [Nat.add_zero] at hi
    rw [hi, hd]
    simp
  | o0 :: l, k, j + 1, o, x, h, hi, hd => by
    have h' : l[j]? = some o := by simpa using h
    have := incDst_mem (k := k + 1) h' (by rw [show k + 1 + j = k + (j + 1) by omega]; exact hi) hd
    unfold incDst
    split
    · exact List.mem_cons_of_mem _ this
    · exact this
theorem hasKey_dead : ∀ {d : List (Nat × HB)} {H : Heap} {q : Nat}, (hasKey q d = true → hget (deadL d H) q = .dead) ∧ (hasKey q d = false → hget (deadL d H) q = hget H q)
  | [], H, q => ⟨fun h => (by cases h), fun _ => rfl⟩
  | (a, b) :: d, H, q => by
    have ih := hasKey_dead (d := d) (H := H) (q := q)
    have e : deadL ((a, b) :: d) H = setAt (deadL d H) a .dead := rfl
    rw [e, hget_setAt]
    unfold hasKey
    by_cases h : a = q
    · subst h
      simp [upd_same]
    · have hb : (a == q) = false := by simpa using h
      rw [hb, upd_ne _ _ (Ne.symm h)]
      exact ih
theorem maskH_spec {ancs : List Nat} {i : Nat} : ∀ {L : List LE} {H : Heap} {q : Nat}, (hget (maskH ancs i L H) q).live = true → hget (maskH ancs i L H) q = hget H q ∧ ∀ l ∈ L, isInc ancs i l.ix = true → hasKey q l.d = false
  | [], H, q, h => ⟨rfl, fun l hl => by cases hl⟩
  | l :: L, H, q, h => by
    unfold maskH at h ⊢
    split at h
    · rename_i hi
      cases hk : hasKey q l.d with
      | true => rw [hasKey_dead.1 hk] at h; cases h
      | false =>
        rw [hasKey_dead.2 hk] at h
        obtain ⟨h1, h2⟩ := maskH_spec h
        refine ⟨(hasKey_dead.2 hk).trans h1, fun l' hl' hi' => ?_⟩
        rcases List.mem_cons.1 hl' with rfl | hl'
        · exact hk
        · exact h2 l' hl' hi'
    · rename_i hi
      obtain ⟨h1, h2⟩ := maskH_spec h
      refine ⟨h1, fun l' hl' hi' => ?_⟩
      rcases List.mem_cons.1 hl' with rfl | hl'
      · rw [hi] at hi'; cases hi'
      · exact h2 l' hl' hi'
theorem hasKey_mem {q : Nat} : ∀ {d : List (Nat × HB)}, hasKey q d = true ↔ ∃ b, (q, b) ∈ d
  | [] => by simp [hasKey]
  | (a, b) :: d => by
    unfold hasKey
    by_cases h : a = q
    · subst h
      simp only [beq_self_eq_true]
      exact ⟨fun _ => ⟨b, by simp⟩, fun _ => trivial⟩
    · have hb : (a == q) = false := by simpa using h
      rw [hb]
      rw [hasKey_mem (d := d)]
      constructor
      · rintro ⟨b', hb'⟩; exact ⟨b', by simp [hb']⟩
      · rintro ⟨b', hb'⟩
        rcases List.mem_cons.1 hb' with e | e
        · simp only [Prod.mk.injEq] at e; exact absurd e.1.symm h
        · exact ⟨b', e⟩
theorem freeOf_spec {l : LE} : ∀ {d : List (Nat × HB)}, freeOf l d = true → ∀ q, hasKey q d = true → hasKey q l.d = false ∧ (hget l.H q).live = false
  | [], _, q, h => by cases h
  | (a, b) :: d, h, q, hq => by
    unfold freeOf at h
    split at h
    · rename_i h1 h2
      unfold hasKey at hq
      split at hq
      · rename_i e
        have e : a = q := by simpa using e
        subst e
        exact ⟨h1, h2⟩
      · exact freeOf_spec h q hq
    · cases h
theorem apartL_spec {ancs : List Nat} {i : Nat} {d : List (Nat × HB)} : ∀ {L : List LE}, apartL ancs i d L = true → ∀ l ∈ L, isInc ancs i l.ix = true → ∀ q, hasKey q d = true → hasKey q l.d = false ∧ (hget l.H q).live = false
  | [], _, l, hl => by cases hl
  | l0 :: L, h, l, hl => by
    unfold apartL at h
    split at h
    · split at h
      · rename_i hf
        intro hi q hq
        rcases List.mem_cons.1 hl with rfl | hl
        · exact freeOf_spec hf q hq
        · exact apartL_spec h l hl hi q hq
      · cases h
    · rename_i hi0
      intro hi q hq
      rcases List.mem_cons.1 hl with rfl | hl
      · rw [hi0] at hi; cases hi
      · exact apartL_spec h l hl hi q hq

/-! ### Who stands before whom -/
theorem bit_eq (m i : Nat) : bit m i = Nat.testBit m i := by
  unfold bit Nat.testBit
  show (!(Nat.beq (1 &&& m >>> i) 0)) = (1 &&& m >>> i != 0)
  generalize (1 &&& m >>> i) = x
  cases x with
  | zero => rfl
  | succ x => rfl
theorem bit_or (a b i : Nat) : bit (Nat.lor a b) i = (bit a i || bit b i) := by
  rw [bit_eq, bit_eq, bit_eq]
  exact Nat.testBit_or a b i
theorem bit_shl (k i : Nat) : bit (Nat.shiftLeft 1 k) i = decide (k = i) := by
  rw [bit_eq]
  have : Nat.shiftLeft 1 k = 2 ^ k := by
    show 1 <<< k = 2 ^ k
    rw [Nat.shiftLeft_eq, Nat.one_mul]
  rw [this, Nat.testBit_two_pow]
theorem ancOf_spec {acc : List Nat} : ∀ {es : List Edge} {j : Nat}, bit (ancOf acc es) j = true → ∃ e ∈ es, Region.binds .any e = true ∧ (j = e.on ∨ bit (nth 0 acc e.on) j = true)
  | [], j, h => by
    unfold ancOf at h
    rw [bit_eq, Nat.zero_testBit] at h; cases h
  | e :: l, j, h => by
    unfold ancOf at h
    split at h
    · rename_i hb
      rw [bit_or, bit_or, bit_shl] at h
      simp only [Bool.or_eq_true, decide_eq_true_eq] at h
      rcases h with (h | h) | h
      · exact ⟨e, by simp, hb, .inl h.symm⟩
      · exact ⟨e, by simp, hb, .inr h⟩
      · obtain ⟨e', he', h1, h2⟩ := ancOf_spec h
        exact ⟨e', by simp [he'], h1, h2⟩
    · obtain ⟨e', he', h1, h2⟩ := ancOf_spec h
      exact ⟨e', by simp [he'], h1, h2⟩
theorem edgesOk_spec {i : Nat} : ∀ {es : List Edge}, edgesOk i es = true → ∀ e ∈ es, Region.binds .any e = true → e.on < i
  | [], _, e, h => by cases h
  | e0 :: l, h, e, he => by
    unfold edgesOk at h
    split at h
    · cases h
    · rename_i hno
      intro hb
      rcases List.mem_cons.1 he with rfl | he
      · cases hlt : Nat.blt e.on i with
        | true => simpa [Nat.blt_eq] using hlt
        | false => exact (hno hb hlt).elim
      · exact edgesOk_spec h e he hb
/-- What the list of ancestors is. -/
structure Ancs (ops : List Oper) (ancs : List Nat) : Prop where
  up : ∀ i o j, ops[i]? = some o → bit (nth 0 ancs i) j = true → ∃ e ∈ o.after.toList, Region.binds .any e = true ∧ (j = e.on ∨ bit (nth 0 ancs e.on) j = true)
  lt : ∀ i o, ops[i]? = some o → ∀ e ∈ o.after.toList, Region.binds .any e = true → e.on < i
theorem ancsGo_spec : ∀ {r : List Oper} {acc ancs : List Nat} {ops : List Oper}, ancsGo r acc = some ancs → ops.drop acc.length = r → acc.length ≤ ops.length →
    (∀ i o j, i < acc.length → ops[i]? = some o → bit (nth 0 acc i) j = true → ∃ e ∈ o.after.toList, Region.binds .any e = true ∧ (j = e.on ∨ bit (nth 0 acc e.on) j = true)) →
    (∀ i o, i < acc.length → ops[i]? = some o → ∀ e ∈ o.after.toList, Region.binds .any e = true → e.on < i) → Ancs ops ancs
  | [], acc, ancs, ops, h, hr, hle, h1, h2 => by
    simp only [ancsGo, Option.some.injEq] at h
    subst h
    have hlen : ops.length = acc.length := by
      have := congrArg List.length hr
      simp at this
      omega
    refine ⟨fun i o j hi => h1 i o j ?_ hi, fun i o hi => h2 i o ?_ hi⟩ <;>
    · have := (List.getElem?_eq_some_iff.1 hi).1
      omega
  | o0 :: r, acc, ancs, ops, h, hr, hle, h1, h2 => by
    simp only [ancsGo] at h
    split at h
    · rename_i he
      rw [len_eq] at he
      have hat : ops[acc.length]? = some o0 := by
        have := congrArg (·[0]?) hr
        simpa using this
      have hlt := (List.getElem?_eq_some_iff.1 hat).1
      rw [app_eq] at h
      have old : ∀ i, i < acc.length → nth 0 (acc ++ [ancOf acc o0.after.toList]) i = nth 0 acc i := fun i hi => by
        rw [nth_eq, nth_eq]; simp [List.getElem?_append_left hi]
      have new : nth 0 (acc ++ [ancOf acc o0.after.toList]) acc.length = ancOf acc o0.after.toList := by
        rw [nth_eq]; simp
      have hedge := edgesOk_spec he
      refine ancsGo_spec h ?_ (by simp; omega) (fun i o j hi ho hb => ?_) (fun i o hi ho => ?_)
      · rw [List.length_append, ← List.drop_drop, hr]; rfl
      · by_cases hia : i < acc.length
        · rw [old i hia] at hb
          obtain ⟨e, he', hbd, hor⟩ := h1 i o j hia ho hb
          have : e.on < i := h2 i o hia ho e he' hbd
          refine ⟨e, he', hbd, ?_⟩
          rw [old e.on (by omega)]
          exact hor
        · have : i = acc.length := by simp at hi; omega
          subst this
          rw [new] at hb
          rw [hat] at ho
          injection ho with ho
          subst ho
          obtain ⟨e, he', hbd, hor⟩ := ancOf_spec hb
          refine ⟨e, he', hbd, ?_⟩
          rw [old e.on (hedge e he' hbd)]
          exact hor
      · by_cases hia : i < acc.length
        · exact h2 i o hia ho
        · have : i = acc.length := by simp at hi; omega
          subst this
          rw [hat] at ho
          injection ho with ho
          subst ho
          exact hedge
    · cases h
theorem ancs_of {ops : List Oper} {ancs : List Nat} (h : ancsGo ops [] = some ancs) : Ancs ops ancs :=
  ancsGo_spec h rfl (Nat.zero_le _) (fun i _ _ hi => by simp at hi) (fun i _ hi => by simp at hi)
theorem Ancs.bit_lt {ops : List Oper} {ancs : List Nat} (h : Ancs ops ancs) : ∀ (i : Nat) (o : Oper) (j : Nat), ops[i]? = some o → bit (nth 0 ancs i) j = true → j < i := by
  intro i
  induction i using Nat.strongRecOn with
  | _ i ih =>
    intro o j ho hb
    obtain ⟨e, he, hbd, hor⟩ := h.up i o j ho hb
    have hlt := h.lt i o ho e he hbd
    rcases hor with rfl | hb'
    · exact hlt
    · have hi := (List.getElem?_eq_some_iff.1 ho).1
      have := ih e.on hlt (ops[e.on]'(by omega)) j (List.getElem?_eq_getElem (by omega)) hb'
      omega
/-- A set of operations that holds all that stand before its members. -/
def Closed (ops : List Oper) (S : Nat → Bool) : Prop := ∀ i o, ops[i]? = some o → S i = true → ∀ e ∈ o.after.toList, Region.binds .any e = true → S e.on = true
theorem Ancs.closed {ops : List Oper} {ancs : List Nat} (h : Ancs ops ancs) {S : Nat → Bool} (hS : Closed ops S) : ∀ (i : Nat) (o : Oper) (j : Nat), ops[i]? = some o → (∀ e ∈ o.after.toList, Region.binds .any e = true → S e.on = true) → bit (nth 0 ancs i) j = true → S j = true := by
  intro i
  induction i using Nat.strongRecOn with
  | _ i ih =>
    intro o j ho hdep hb
    obtain ⟨e, he, hbd, hor⟩ := h.up i o j ho hb
    have hlt := h.lt i o ho e he hbd
    rcases hor with rfl | hb'
    · exact hdep e he hbd
    · have hi := (List.getElem?_eq_some_iff.1 ho).1
      have ho' : ops[e.on]? = some (ops[e.on]'(by omega)) := List.getElem?_eq_getElem (by omega)
      exact ih e.on hlt _ j ho' (hS e.on _ ho' (hdep e he hbd)) hb'
/-- An operation that may be next is in no order with those that are made though they stand behind it, and with those ahead of it that are not made. -/
theorem inc_of {ops : List Oper} {ancs : List Nat} (h : Ancs ops ancs) {S : Nat → Bool} (hS : Closed ops S) {i j : Nat} {o oj : Oper} (ho : ops[i]? = some o) (hoj : ops[j]? = some oj) (hi : S i = false) (hdep : ∀ e ∈ o.after.toList, Region.binds .any e = true → S e.on = true)
    (hor : (j < i ∧ S j = false) ∨ (i < j ∧ S j = true)) : isInc ancs i j = true ∧ isInc ancs j i = true := by
  have h1 : bit (nth 0 ancs i) j = false := by
    cases hb : bit (nth 0 ancs i) j with
    | false => rfl
    | true =>
      have := h.closed hS i o j ho hdep hb
      have hlt := h.bit_lt i o j ho hb
      rcases hor with ⟨_, h'⟩ | ⟨h', _⟩
      · rw [this] at h'; cases h'
      · omega
  have h2 : bit (nth 0 ancs j) i = false := by
    cases hb : bit (nth 0 ancs j) i with
    | false => rfl
    | true =>
      have hlt := h.bit_lt j oj i hoj hb
      rcases hor with ⟨h', _⟩ | ⟨_, h'⟩
      · omega
      · have := h.closed hS j oj i hoj (hS j oj hoj h') hb
        rw [this] at hi; cases hi
  have hne : (i == j) = false := by simp; rcases hor with h | h <;> omega
  have hne' : (j == i) = false := by simp; rcases hor with h | h <;> omega
  unfold isInc
  rw [hne, hne', h1, h2]
  exact ⟨rfl, rfl⟩

/-! ### What was made, in whatever order -/
structure SE where (ix : Nat) (dst : Option Tmp) (v : SV) (d : List (Nat × HB)) (n n' : Nat) (e : Env) (H : Heap) (ran : Bool)
noncomputable def envL (e0 : Env) (S : Nat → Bool) : List SE → Nat → SV
  | [], x => nth .u e0 x
  | l :: L, x => if S l.ix = true ∧ l.dst = some x then l.v else envL e0 S L x
def heapL (H0 : Nat → HB) (S : Nat → Bool) : List SE → Nat → HB
  | [] => H0
  | l :: L => if S l.ix = true then applyD (heapL H0 S L) l.d else heapL H0 S L
def usedL (n0 : Nat) (S : Nat → Bool) (L : List SE) (x : Nat) : Prop := x < n0 ∨ ∃ l ∈ L, S l.ix = true ∧ l.n ≤ x ∧ x < l.n'
def SV.le (a b : SV) : Prop := (∀ ρ v, DenV ρ b v → DenV ρ a v) ∧ ∀ U, b.wf U → a.wf U
theorem SV.le.refl (a : SV) : SV.le a a := ⟨fun _ _ h => h, fun _ h => h⟩
theorem SV.le.trans {a b c : SV} (h : SV.le a b) (h' : SV.le b c) : SV.le a c := ⟨fun ρ v hd => h.1 ρ v (h'.1 ρ v hd), fun U hw => h.2 U (h'.2 U hw)⟩
theorem SV.le.u (b : SV) : SV.le .u b := ⟨fun _ _ _ => trivial, fun _ _ _ h => h.elim⟩
theorem SV.le.lit {x y : Bool} (h : x = y) : SV.le (.w (.c (.l y))) (.w (.c (.b x))) := ⟨fun ρ v hd => by subst h; exact hd, fun _ _ _ h => h.elim⟩
theorem applyD_key : ∀ {d : List (Nat × HB)} {H H' : Nat → HB} {q : Nat}, (hasKey q d = false → applyD H d q = H q) ∧ (hasKey q d = true → applyD H d q = applyD H' d q)
  | [], H, H', q => ⟨fun _ => rfl, fun h => by cases h⟩
  | (a, b) :: d, H, H', q => by
    have ih := applyD_key (d := d) (H := Eng.upd H a b) (H' := Eng.upd H' a b) (q := q)
    simp only [applyD]
    unfold hasKey
    by_cases h : a = q
    · subst h
      simp only [beq_self_eq_true]
      refine ⟨fun h => by simp at h, fun _ => ?_⟩
      cases hk : hasKey a d with
      | true => exact ih.2 hk
      | false =>
        rw [ih.1 hk, (applyD_key (d := d) (H := Eng.upd H' a b) (H' := H) (q := a)).1 hk, upd_same, upd_same]
    · have hb : (a == q) = false := by simpa using h
      rw [hb]
      refine ⟨fun h' => ?_, fun h' => ih.2 h'⟩
      rw [ih.1 h', upd_ne _ _ (Ne.symm h)]
theorem applyD_congr {d : List (Nat × HB)} {H H' : Nat → HB} {q : Nat} (h : H q = H' q) : applyD H d q = applyD H' d q := by
  cases hk : hasKey q d with
  | true => exact (applyD_key (H := H) (H' := H')).2 hk
  | false => rw [(applyD_key (H := H) (H' := H)).1 hk, (applyD_key (H := H') (H' := H)).1 hk, h]
theorem applyD_comm {d1 d2 : List (Nat × HB)} {H : Nat → HB} (h : ∀ q, hasKey q d1 = true → hasKey q d2 = false) : applyD (applyD H d1) d2 = applyD (applyD H d2) d1 := by
  funext q
  cases h1 : hasKey q d1 with
  | true =>
    rw [(applyD_key (H := applyD H d1) (H' := H)).1 (h q h1)]
    exact (applyD_key (H := H) (H' := applyD H d2)).2 h1
  | false =>
    rw [(applyD_key (d := d1) (H := applyD H d2) (H' := H)).1 h1]
    exact applyD_congr ((applyD_key (H := H) (H' := H)).1 h1)

def allS : Nat → Bool := fun _ => true
section
variable {P : Program} {T : Tab} {B : Nat} {w0 : Base}

/-- What is known of an operation that the evaluation passed. -/
structure LC (T : Tab) (C : Cons) (ops : List Oper) (ancs : List Nat) (e0 : Env) (H0 : Nat → HB) (n0 : Nat) (L : List SE) (l : SE) (o : Oper) : Prop where
  op : ops[l.ix]? = some o
  dst : l.dst = o.dst
  elen : l.e.length = e0.length
  env : ∀ x, nth .u l.e x = .u ∨ ((∀ j oj, ops[j]? = some oj → isInc ancs l.ix j = true → oj.dst ≠ some x) ∧ SV.le (nth .u l.e x) (envL e0 allS L x))
  heap : l.ran = true → ∀ q, (hget l.H q).live = true → hget l.H q = heapL H0 allS L q ∧ ∀ l' ∈ L, isInc ancs l.ix l'.ix = true → hasKey q l'.d = false
  apart : ∀ l' ∈ L, isInc ancs l.ix l'.ix = true → ∀ q, hasKey q l.d = true → hasKey q l'.d = false ∧ (l'.ran = true → (hget l'.H q).live = false)
  dsts : ∀ j oj, ops[j]? = some oj → isInc ancs l.ix j = true → ∀ t, l.dst = some t → oj.dst ≠ some t
  le : l.n ≤ l.n'
  base : n0 ≤ l.n
  mono : ∀ l' ∈ L, l'.n' ≤ l.n
  guard : (o.guard = none ∧ l.ran = true) ∨ ∃ g want s, o.guard = some (g, want) ∧ opDst ops g = some s ∧ ((∃ x, nth .u l.e s = .w (.c (.l x)) ∧ (x == want) = l.ran) ∨ (nth .u l.e s = .t [] ∧ l.ran = false))
  run : l.ran = true → ∃ pre out, stepC T C l.e l.H l.n o.op = some ⟨pre, [(none, out)]⟩ ∧ holdsO pre ∧ l.v = out.v ∧ l.d = out.d ∧ l.n' = out.n
  skip : l.ran = false → l.v = .t [] ∧ l.d = [] ∧ l.n' = l.n
inductive LCs (T : Tab) (C : Cons) (ops : List Oper) (ancs : List Nat) (e0 : Env) (H0 : Nat → HB) (n0 : Nat) : List SE → Prop
  | nil : LCs T C ops ancs e0 H0 n0 []
  | cons {L : List SE} {l : SE} {o : Oper} (h : LC T C ops ancs e0 H0 n0 L l o) (hi : l.ix = L.length) (hL : LCs T C ops ancs e0 H0 n0 L) : LCs T C ops ancs e0 H0 n0 (l :: L)
def toLE : List SE → List LE
  | [] => []
  | l :: L => if l.ran = true then ⟨l.ix, l.H, l.d⟩ :: toLE L else toLE L
theorem mem_toLE : ∀ {L : List SE} {l : SE}, l ∈ L → l.ran = true → (⟨l.ix, l.H, l.d⟩ : LE) ∈ toLE L
  | [], _, h, _ => by cases h
  | l0 :: L, l, h, hr => by
    unfold toLE
    rcases List.mem_cons.1 h with rfl | h
    · rw [if_pos hr]; simp
    · have := mem_toLE h hr
      split
      · exact List.mem_cons_of_mem _ this
      · exact this
structure INV (e0 : Env) (H0 : Nat → HB) (n0 : Nat) (σ : St) (L : List SE) : Prop where
  len : σ.e.length = e0.length
  env : ∀ x, SV.le (nth .u σ.e x) (envL e0 allS L x)
  heap : hget σ.H = heapL H0 allS L
  n : n0 ≤ σ.n
  mono : ∀ l ∈ L, l.n' ≤ σ.n

theorem envL_cons {e0 : Env} {L : List SE} {l : SE} {x : Nat} : envL e0 allS (l :: L) x = if l.dst = some x then l.v else envL e0 allS L x := by simp [envL, allS]
theorem INV.put {e0 : Env} {H0 : Nat → HB} {n0 : Nat} {σ : St} {L : List SE} {l : SE} (h : INV e0 H0 n0 σ L) (hn : l.n = σ.n) (hle : l.n ≤ l.n') : INV e0 H0 n0 ⟨putD l.dst l.v σ.e, applyL σ.H l.d, l.n'⟩ (l :: L) := by
  refine ⟨by rw [putD_length]; exact h.len, fun x => ?_, ?_, Nat.le_trans h.n (hn ▸ hle), fun l' hl' => ?_⟩
  · rw [envL_cons]
    cases hd : l.dst with
    | none => simpa [putD, hd] using h.env x
    | some t =>
      simp only [putD]
      by_cases htx : t = x
      · subst htx
        rw [if_pos rfl]
        by_cases hlt : t < σ.e.length
        · rw [nth_put_same _ _ _ _ hlt]; exact .refl _
        · rw [nth_out _ _ _ (by rw [put_length]; exact Nat.le_of_not_lt hlt)]; exact .u _
      · rw [if_neg (by simpa using htx), nth_put_ne _ _ _ _ _ (fun e => htx e.symm)]
        exact h.env x
  · rw [hget_applyL, h.heap]
    simp [heapL, allS]
  · rcases List.mem_cons.1 hl' with rfl | hl'
    · exact Nat.le_refl _
    · exact Nat.le_trans (h.mono l' hl') (hn ▸ hle)
theorem INV.lit {e0 : Env} {H0 : Nat → HB} {n0 : Nat} {σ : St} {L : List SE} {s : Nat} {x y : Bool} (h : INV e0 H0 n0 σ L) (hs : nth .u σ.e s = .w (.c (.b x))) (hx : x = y) : INV e0 H0 n0 ⟨Eng.put (.w (.c (.l y))) σ.e s, σ.H, σ.n⟩ L := by
  refine ⟨by rw [put_length]; exact h.len, fun z => ?_, h.heap, h.n, h.mono⟩
  by_cases hz : z = s
  · subst hz
    have hlt : z < σ.e.length := by
      by_cases hh : z < σ.e.length
      · exact hh
      · rw [nth_out _ _ _ (by omega)] at hs; cases hs
    rw [nth_put_same _ _ _ _ hlt]
    have := h.env z
    rw [hs] at this
    exact (SV.le.lit hx).trans this
  · rw [nth_put_ne _ _ _ _ _ hz]; exact h.env z
end
end Go.Eng

/- Conditions are sound: operations in any order, put together. -/
set_option linter.unusedVariables false
set_option linter.unusedSimpArgs false
namespace Go.Eng
open Go Go.RowKit
section
variable {P : Program} {T : Tab} {B : Nat} {w0 : Base}

theorem stepC_le {C : Cons} {op : Op} {en : Env} {Hl : Heap} {n : Nat} {g : Got} (hs : stepC T C en Hl n op = some g) : ∀ h o, (h, o) ∈ g.alts → n ≤ o.n := by
  have hstep : ∀ {op : Op}, stepG T en Hl n op = some g → ∀ h o, (h, o) ∈ g.alts → n ≤ o.n := by
    intro op hs
    unfold stepG at hs
    split at hs
    · rename_i o ho
      split at hs
      · rename_i hle
        injection hs with hs
        subst hs
        intro h o' hm
        simp only [List.mem_singleton, Prod.mk.injEq] at hm
        rw [hm.2]
        exact Nat.le_of_ble_eq_true hle
      · cases hs
    · split at hs
      · rename_i o ho
        split at hs
        · rename_i hle
          injection hs with hs
          subst hs
          intro h o' hm
          simp only [List.mem_singleton, Prod.mk.injEq] at hm
          rw [hm.2]
          exact Nat.le_of_ble_eq_true hle
        · cases hs
      · split at hs
        · rename_i o ho
          split at hs
          · rename_i hle
            injection hs with hs
            subst hs
            intro h o' hm
            simp only [List.mem_singleton, Prod.mk.injEq] at hm
            rw [hm.2]
            exact Nat.le_of_ble_eq_true hle
          · cases hs
        · cases hs
  cases op with
  | call c =>
    simp only [stepC] at hs
    split at hs
    · split at hs
      · split at hs
        · split at hs
          · split at hs
            · rename_i l hl
              injection hs with hs
              subst hs
              exact gotAlts_le hl
            · split at hs
              · injection hs with hs
                subst hs
                exact gotV_le
              · cases hs
          · cases hs
        · cases hs
      · cases hs
    · exact hstep hs
  | _ => simp only [stepC] at hs; exact hstep hs

variable {C : Cons} {ops : List Oper} {ancs : List Nat} {e0 : Env} {H0 : Nat → HB} {n0 : Nat}
theorem LCs.split : ∀ {L : List SE} {l : SE}, LCs T C ops ancs e0 H0 n0 L → l ∈ L → ∃ L2 L1 o, L = L2 ++ l :: L1 ∧ LC T C ops ancs e0 H0 n0 L1 l o ∧ l.ix = L1.length ∧ LCs T C ops ancs e0 H0 n0 L1
  | _, l, .nil, h => by cases h
  | _, l, .cons (L := L) (l := l0) (o := o) hlc hix hLs, h => by
    rcases List.mem_cons.1 h with rfl | h
    · exact ⟨[], L, o, rfl, hlc, hix, hLs⟩
    · obtain ⟨L2, L1, o', e, h1, h2, h3⟩ := LCs.split hLs h
      exact ⟨l0 :: L2, L1, o', by rw [e]; rfl, h1, h2, h3⟩
theorem LCs.drop : ∀ {L2 L1 : List SE} {l : SE}, LCs T C ops ancs e0 H0 n0 (L2 ++ l :: L1) → ∃ o, LC T C ops ancs e0 H0 n0 L1 l o ∧ l.ix = L1.length ∧ LCs T C ops ancs e0 H0 n0 L1
  | [], L1, l, .cons hlc hix hLs => ⟨_, hlc, hix, hLs⟩
  | l2 :: L2, L1, l, .cons hlc hix hLs => LCs.drop (L2 := L2) hLs
theorem mono_lt {L : List SE} {l : SE} {o : Oper} (h : LC T C ops ancs e0 H0 n0 L l o) : ∀ l' ∈ L, l'.n' ≤ l.n := h.mono

theorem deadK_spec : ∀ {ks : List Nat} {H : Heap} {q : Nat}, (hget (deadK ks H) q).live = true → hget (deadK ks H) q = hget H q
  | [], H, q, _ => rfl
  | a :: l, H, q, h => by
    have e : deadK (a :: l) H = setAt (deadK l H) a .dead := rfl
    rw [e, hget_setAt] at h ⊢
    by_cases ha : q = a
    · subst ha
      rw [upd_same] at h; cases h
    · rw [upd_ne _ _ ha] at h ⊢
      exact deadK_spec h
theorem draw_log {k : St → Prop} {ks : Nat → Env → List Nat} : ∀ (m : Nat) (r : List Oper) (i : Nat) (σ : St) (L : List SE), m ≤ ops.length → (ops.take m).drop i = r → L.length = i → i ≤ m → INV e0 H0 n0 σ L → LCs T C ops ancs e0 H0 n0 L →
    vcDraw T C ops ancs ks r i σ (toLE L) k → ∃ σ' L', INV e0 H0 n0 σ' L' ∧ LCs T C ops ancs e0 H0 n0 L' ∧ L'.length = m ∧ k σ'
  | m, [], i, σ, L, hm, hr, hL, hi, hI, hC, h => by
    refine ⟨σ, L, hI, hC, ?_, h⟩
    have := congrArg List.length hr
    simp at this
    omega
  | m, o :: r, i, σ, L, hm, hr, hL, hi, hI, hC, h => by
    have hat0 : (ops.take m)[i]? = some o := by
      have := congrArg (·[0]?) hr
      simpa using this
    have hlt0 := (List.getElem?_eq_some_iff.1 hat0).1
    rw [List.length_take] at hlt0
    have hlt : i < m := by omega
    have hat : ops[i]? = some o := by rw [List.getElem?_take_of_lt hlt] at hat0; exact hat0
    have hr' : (ops.take m).drop (i + 1) = r := by rw [← List.drop_drop, hr]; rfl
    have inLE : ∀ l ∈ L, l.ran = true → (⟨l.ix, l.H, l.d⟩ : LE) ∈ toLE L := fun l hl hran => mem_toLE hl hran
    have skipd : ∀ l ∈ L, l.ran = false → l.d = [] := by
      intro l hl hran
      obtain ⟨L2, L1, o', _, hlc, _, _⟩ := hC.split hl
      exact (hlc.skip hran).2.1
    simp only [vcDraw] at h
    generalize hds : incDst ancs i 0 ops = ds at h
    split at h
    · cases h
    · rename_i hdok
      have hdsts : ∀ j oj, ops[j]? = some oj → isInc ancs i j = true → ∀ t, o.dst = some t → oj.dst ≠ some t := by
        intro j oj hj hinc t ht htj
        have hm := incDst_mem (k := 0) hj (by rw [Nat.zero_add]; exact hinc) htj
        rw [hds] at hm
        unfold dstOk at hdok
        rw [ht] at hdok
        simp at hdok
        exact hdok hm
      -- what may be read of the slots
      have henv : ∀ (σ : St), INV e0 H0 n0 σ L → ∀ e1 : Env, (∀ x, nth .u e1 x = .u ∨ (x ∉ ds ∧ SV.le (nth .u e1 x) (nth .u σ.e x))) → ∀ x, nth .u e1 x = .u ∨ ((∀ j oj, ops[j]? = some oj → isInc ancs i j = true → oj.dst ≠ some x) ∧ SV.le (nth .u e1 x) (envL e0 allS L x)) := by
        intro σ hI e1 he x
        rcases he x with h | ⟨h1, h2⟩
        · exact .inl h
        · refine .inr ⟨fun j oj hj hinc hd => h1 ?_, h2.trans (hI.env x)⟩
          have hm := incDst_mem (k := 0) hj (by rw [Nat.zero_add]; exact hinc) hd
          rw [hds] at hm
          exact hm
      have hmask : ∀ x, nth .u (maskE ds σ.e) x = .u ∨ (x ∉ ds ∧ SV.le (nth .u (maskE ds σ.e) x) (nth .u σ.e x)) := by
        intro x
        by_cases hx : x ∈ ds
        · exact .inl ((maskE_nth ds σ.e x).1 hx)
        · refine .inr ⟨hx, ?_⟩
          rw [(maskE_nth ds σ.e x).2 hx]
          exact .refl _
      -- one that is made
      have hrun : ∀ (σ1 : St) (e1 : Env), σ1.H = σ.H → σ1.n = σ.n → INV e0 H0 n0 σ1 L → e1.length = e0.length → (∀ x, nth .u e1 x = .u ∨ (x ∉ ds ∧ SV.le (nth .u e1 x) (nth .u σ1.e x))) →
          ((o.guard = none) ∨ ∃ g want s, o.guard = some (g, want) ∧ opDst ops g = some s ∧ ∃ x, nth .u e1 s = .w (.c (.l x)) ∧ (x == want) = true) →
          (match stepC T C e1 (deadK (ks i (maskE ds σ.e)) (maskH ancs i (toLE L) σ.H)) σ1.n o.op with
            | some ⟨pre, [(none, out)]⟩ => match apartL ancs i out.d (toLE L) with
              | true => conj pre (vcDraw T C ops ancs ks r (i + 1) (σ1.upd o.dst out) (⟨i, deadK (ks i (maskE ds σ.e)) (maskH ancs i (toLE L) σ.H), out.d⟩ :: toLE L) k)
              | false => Bad 8 Oper o
            | _ => Bad 9 Oper o) → ∃ σ' L', INV e0 H0 n0 σ' L' ∧ LCs T C ops ancs e0 H0 n0 L' ∧ L'.length = m ∧ k σ' := by
        intro σ1 e1 eH en hI1 hlen he hg h
        split at h
        · rename_i pre out hst
          split at h
          · rename_i hap
            obtain ⟨hp, h⟩ := conj_iff.1 h
            have hle := stepC_le hst none out (by simp)
            have hlc : LC T C ops ancs e0 H0 n0 L ⟨i, o.dst, out.v, out.d, σ1.n, out.n, e1, deadK (ks i (maskE ds σ.e)) (maskH ancs i (toLE L) σ.H), true⟩ o := by
              refine ⟨hat, rfl, hlen, henv σ1 hI1 e1 he, fun _ q hq => ?_, fun l' hl' hinc q hq => ?_, hdsts, hle, hI1.n, hI1.mono, ?_, fun _ => ⟨pre, out, hst, hp, rfl, rfl, rfl⟩, fun h => by cases h⟩
              · have hdk := deadK_spec hq
                have hq2 : (hget (deadK (ks i (maskE ds σ.e)) (maskH ancs i (toLE L) σ.H)) q).live = true := hq
                rw [hdk] at hq2
                obtain ⟨h1, h2⟩ := maskH_spec hq2
                refine ⟨?_, fun l' hl' hinc => ?_⟩
                · rw [← hI1.heap, eH]; exact hdk.trans h1
                · cases hran : l'.ran with
                  | true => exact h2 _ (inLE l' hl' hran) hinc
                  | false => rw [skipd l' hl' hran]; rfl
              · cases hran : l'.ran with
                | true =>
                  obtain ⟨h1, h2⟩ := apartL_spec hap _ (inLE l' hl' hran) hinc q hq
                  exact ⟨h1, fun _ => h2⟩
                | false => exact ⟨by rw [skipd l' hl' hran]; rfl, fun h => by cases h⟩
              · rcases hg with hg | ⟨g, want, s, h1, h2, x, h3, h4⟩
                · exact .inl ⟨hg, rfl⟩
                · exact .inr ⟨g, want, s, h1, h2, .inl ⟨x, h3, h4⟩⟩
            refine draw_log m r (i + 1) _ (⟨i, o.dst, out.v, out.d, σ1.n, out.n, e1, deadK (ks i (maskE ds σ.e)) (maskH ancs i (toLE L) σ.H), true⟩ :: L) hm hr' (by simp [hL]) hlt ?_ (.cons hlc hL.symm hC) (by simp only [toLE, if_true]; exact h)
            exact hI1.put (l := ⟨i, o.dst, out.v, out.d, σ1.n, out.n, e1, deadK (ks i (maskE ds σ.e)) (maskH ancs i (toLE L) σ.H), true⟩) rfl hle
          · cases h
        · cases h
      -- one that is not
      have hskip : ∀ (σ1 : St) (e1 : Env), INV e0 H0 n0 σ1 L → e1.length = e0.length → (∀ x, nth .u e1 x = .u ∨ (x ∉ ds ∧ SV.le (nth .u e1 x) (nth .u σ1.e x))) →
          (∃ g want s, o.guard = some (g, want) ∧ opDst ops g = some s ∧ ((∃ x, nth .u e1 s = .w (.c (.l x)) ∧ (x == want) = false) ∨ nth .u e1 s = .t [])) →
          vcDraw T C ops ancs ks r (i + 1) ⟨putD o.dst (.t []) σ1.e, σ1.H, σ1.n⟩ (toLE L) k → ∃ σ' L', INV e0 H0 n0 σ' L' ∧ LCs T C ops ancs e0 H0 n0 L' ∧ L'.length = m ∧ k σ' := by
        intro σ1 e1 hI1 hlen he hg h
        have hlc : LC T C ops ancs e0 H0 n0 L ⟨i, o.dst, .t [], [], σ1.n, σ1.n, e1, [], false⟩ o := by
          refine ⟨hat, rfl, hlen, henv σ1 hI1 e1 he, fun h => (by cases h), fun l' hl' hinc q hq => (by cases hq), hdsts, Nat.le_refl _, hI1.n, hI1.mono, ?_, fun h => (by cases h), fun _ => ⟨rfl, rfl, rfl⟩⟩
          obtain ⟨g, want, s, h1, h2, h3⟩ := hg
          rcases h3 with h3 | h3
          · exact .inr ⟨g, want, s, h1, h2, .inl h3⟩
          · exact .inr ⟨g, want, s, h1, h2, .inr ⟨h3, rfl⟩⟩
        refine draw_log m r (i + 1) _ (⟨i, o.dst, .t [], [], σ1.n, σ1.n, e1, [], false⟩ :: L) hm hr' (by simp [hL]) hlt ?_ (.cons hlc hL.symm hC) (by simp only [toLE, Bool.false_eq_true, if_false]; exact h)
        exact hI1.put (l := ⟨i, o.dst, .t [], [], σ1.n, σ1.n, e1, [], false⟩) rfl (Nat.le_refl _)
      have hml : (maskE ds σ.e).length = e0.length := by rw [maskE_length, hI.len]
      -- a truth that becomes known
      have hlit : ∀ {s : Nat} {x y : Bool}, nth .u (maskE ds σ.e) s = .w (.c (.b x)) → x = y → nth .u σ.e s = .w (.c (.b x)) ∧ s < σ.e.length ∧
          ∀ z, nth .u (put (.w (.c (.l y))) (maskE ds σ.e) s) z = .u ∨ (z ∉ ds ∧ SV.le (nth .u (put (.w (.c (.l y))) (maskE ds σ.e) s) z) (nth .u (put (.w (.c (.l y))) σ.e s) z)) := by
        intro s x y hs hx
        have hsd : s ∉ ds := by
          intro hm
          rw [(maskE_nth ds σ.e s).1 hm] at hs
          cases hs
        have hs' : nth .u σ.e s = .w (.c (.b x)) := by rw [← (maskE_nth ds σ.e s).2 hsd]; exact hs
        have hlt' : s < σ.e.length := by
          by_cases hh : s < σ.e.length
          · exact hh
          · rw [nth_out _ _ _ (Nat.le_of_not_lt hh)] at hs'; cases hs'
        refine ⟨hs', hlt', fun z => ?_⟩
        by_cases hz : z = s
        · subst hz
          refine .inr ⟨hsd, ?_⟩
          rw [nth_put_same _ _ _ _ (by rw [maskE_length]; exact hlt'), nth_put_same _ _ _ _ hlt']
          exact .refl _
        · rw [nth_put_ne _ _ _ _ _ hz, nth_put_ne _ _ _ _ _ hz]
          exact hmask z
      split at h
      · rename_i hg
        exact hrun σ _ rfl rfl hI hml hmask (.inl hg) h
      · rename_i g want hg
        split at h
        · cases h
        · rename_i s hs
          split at h
          · rename_i x hx
            split at h
            · rename_i hw
              exact hrun σ _ rfl rfl hI hml hmask (.inr ⟨g, want, s, hg, hs, x, hx, hw⟩) h
            · rename_i hw
              exact hskip σ _ hI hml hmask ⟨g, want, s, hg, hs, .inl ⟨x, hx, hw⟩⟩ h
          · rename_i hx
            exact hskip σ _ hI hml hmask ⟨g, want, s, hg, hs, .inr hx⟩ h
          · rename_i x hx
            by_cases hw : x = want
            · obtain ⟨h1, h2, h3⟩ := hlit hx hw
              refine hrun ⟨put (.w (.c (.l want))) σ.e s, σ.H, σ.n⟩ _ rfl rfl (hI.lit h1 hw) (by rw [put_length, hml]) h3 (.inr ⟨g, want, s, hg, hs, want, ?_, by simp⟩) (h.1 hw)
              exact nth_put_same _ _ _ _ (by rw [maskE_length]; exact h2)
            · have hw' : x = !want := by cases x <;> cases want <;> simp_all
              obtain ⟨h1, h2, h3⟩ := hlit hx hw'
              refine hskip ⟨put (.w (.c (.l (!want)))) σ.e s, σ.H, σ.n⟩ (put (.w (.c (.l (!want)))) (maskE ds σ.e) s) (hI.lit h1 hw') (by rw [put_length, hml]) h3 ⟨g, want, s, hg, hs, .inl ⟨!want, ?_, by simp⟩⟩ (h.2 hw')
              exact nth_put_same _ _ _ _ (by rw [maskE_length]; exact h2)
          · cases h
end
end Go.Eng

/- Conditions are sound: any order of a region's operations comes to the same. -/
set_option linter.unusedVariables false
set_option linter.unusedSimpArgs false
namespace Go.Eng
open Go Go.RowKit
section
variable {P : Program} {T : Tab} {B : Nat} {w0 : Base} {F : Fr} {C : Cons} {ops : List Oper} {ancs : List Nat} {e0 : Env} {H0 : Nat → HB} {n0 : Nat}

/-- An operation that may be next: what is in its way. -/
structure Next (ops : List Oper) (ancs : List Nat) (S : Nat → Bool) (i : Nat) : Prop where
  unmade : S i = false
  inc : ∀ j oj, ops[j]? = some oj → (j < i ∧ S j = false) ∨ (i < j ∧ S j = true) → isInc ancs i j = true ∧ isInc ancs j i = true

theorem env_early {S : Nat → Bool} {i x : Nat} (hN : Next ops ancs S i) (hx : ∀ j oj, ops[j]? = some oj → isInc ancs i j = true → oj.dst ≠ some x) : ∀ {L : List SE}, LCs T C ops ancs e0 H0 n0 L → L.length ≤ i → envL e0 S L x = envL e0 allS L x
  | _, .nil, _ => rfl
  | _, .cons (L := L) (l := l) (o := o) hlc hix hLs, hle => by
    simp only [List.length_cons] at hle
    have ih := env_early hN hx hLs (by omega)
    simp only [envL, allS]
    rw [ih]
    cases hS : S l.ix with
    | true => simp [allS]
    | false =>
      have hinc := (hN.inc l.ix o hlc.op (.inl ⟨by omega, hS⟩)).1
      have hd := hx l.ix o hlc.op hinc
      rw [← hlc.dst] at hd
      simp [hd, allS]
theorem env_at {S : Nat → Bool} {l : SE} {L1 : List SE} {x : Nat} (hN : Next ops ancs S l.ix) (hx : ∀ j oj, ops[j]? = some oj → isInc ancs l.ix j = true → oj.dst ≠ some x) : ∀ {L2 : List SE}, LCs T C ops ancs e0 H0 n0 (L2 ++ l :: L1) → envL e0 S (L2 ++ l :: L1) x = envL e0 allS L1 x
  | [], .cons hlc hix hLs => by
    show envL e0 S (l :: L1) x = _
    simp only [envL, hN.unmade, Bool.false_eq_true, false_and, if_false]
    exact env_early hN hx hLs (by omega)
  | l2 :: L2, .cons (o := o) hlc hix hLs => by
    have ih := env_at hN hx hLs
    show envL e0 S (l2 :: (L2 ++ l :: L1)) x = _
    simp only [envL]
    have hix : l2.ix = (L2 ++ l :: L1).length := hix
    obtain ⟨_, _, hil, _⟩ := hLs.drop
    cases hS : S l2.ix with
    | false => simp [ih]
    | true =>
      have hinc := (hN.inc l2.ix o hlc.op (.inr ⟨by rw [hix, List.length_append, List.length_cons]; omega, hS⟩)).1
      have hd := hx l2.ix o hlc.op hinc
      rw [← hlc.dst] at hd
      simp [hd, ih]
theorem heap_early {S : Nat → Bool} {i q : Nat} (hN : Next ops ancs S i) : ∀ {L : List SE}, LCs T C ops ancs e0 H0 n0 L → L.length ≤ i → (∀ l' ∈ L, isInc ancs i l'.ix = true → hasKey q l'.d = false) → heapL H0 S L q = heapL H0 allS L q
  | _, .nil, _, _ => rfl
  | _, .cons (L := L) (l := l) (o := o) hlc hix hLs, hle, hq => by
    simp only [List.length_cons] at hle
    have ih := heap_early hN hLs (by omega) (fun l' hl' => hq l' (List.mem_cons_of_mem _ hl'))
    simp only [heapL, allS, if_true]
    cases hS : S l.ix with
    | true =>
      simp only [if_true]
      exact applyD_congr ih
    | false =>
      have hinc := (hN.inc l.ix o hlc.op (.inl ⟨by omega, hS⟩)).1
      have hk := hq l (by simp) hinc
      simp only [Bool.false_eq_true, if_false]
      rw [ih]
      exact ((applyD_key (H := heapL H0 (fun _ => true) L) (H' := H0)).1 hk).symm
theorem heap_at {S : Nat → Bool} {l : SE} {o0 : Oper} {L1 : List SE} {q : Nat} (hN : Next ops ancs S l.ix) (hran : l.ran = true) (hl : LC T C ops ancs e0 H0 n0 L1 l o0) (hq : (hget l.H q).live = true) : ∀ {L2 : List SE}, LCs T C ops ancs e0 H0 n0 (L2 ++ l :: L1) → heapL H0 S (L2 ++ l :: L1) q = heapL H0 allS L1 q
  | [], .cons hlc hix hLs => by
    show heapL H0 S (l :: L1) q = _
    simp only [heapL, hN.unmade, Bool.false_eq_true, if_false]
    exact heap_early hN hLs (by omega) (hl.heap hran q hq).2
  | l2 :: L2, .cons (o := o) hlc hix hLs => by
    have ih := heap_at hN hran hl hq hLs
    show heapL H0 S (l2 :: (L2 ++ l :: L1)) q = _
    simp only [heapL]
    have hix : l2.ix = (L2 ++ l :: L1).length := hix
    obtain ⟨_, _, hil, _⟩ := hLs.drop
    cases hS : S l2.ix with
    | false => simpa using ih
    | true =>
      have hinc := (hN.inc l2.ix o hlc.op (.inr ⟨by rw [hix, List.length_append, List.length_cons]; omega, hS⟩)).2
      have hk : hasKey q l2.d = false := by
        cases hk : hasKey q l2.d with
        | false => rfl
        | true =>
          have := (hlc.apart l (by simp) hinc q hk).2 hran
          rw [hq] at this; cases this
      simp only [if_true]
      rw [(applyD_key (H := heapL H0 S (L2 ++ l :: L1)) (H' := H0)).1 hk]
      exact ih
def more (S : Nat → Bool) (i : Nat) : Nat → Bool := fun j => S j || j == i
theorem more_ne {S : Nat → Bool} {i j : Nat} (h : j ≠ i) : more S i j = S j := by simp [more, h]
theorem more_same {S : Nat → Bool} {i : Nat} : more S i i = true := by simp [more]
theorem env_low {S : Nat → Bool} {i : Nat} : ∀ {L : List SE}, LCs T C ops ancs e0 H0 n0 L → L.length ≤ i → envL e0 (more S i) L = envL e0 S L
  | _, .nil, _ => rfl
  | _, .cons (L := L) (l := l) hlc hix hLs, hle => by
    simp only [List.length_cons] at hle
    funext x
    have e := env_low (S := S) (i := i) hLs (by omega)
    simp only [envL, e]
    rw [more_ne (S := S) (i := i) (j := l.ix) (by omega)]
theorem heap_low {S : Nat → Bool} {i : Nat} : ∀ {L : List SE}, LCs T C ops ancs e0 H0 n0 L → L.length ≤ i → heapL H0 (more S i) L = heapL H0 S L
  | _, .nil, _ => rfl
  | _, .cons (L := L) (l := l) hlc hix hLs, hle => by
    simp only [List.length_cons] at hle
    have e := heap_low (S := S) (i := i) hLs (by omega)
    simp only [heapL, e]
    rw [more_ne (S := S) (i := i) (j := l.ix) (by omega)]
theorem env_more {S : Nat → Bool} {l : SE} {o0 : Oper} {L1 : List SE} {x : Nat} (hN : Next ops ancs S l.ix) (hl : LC T C ops ancs e0 H0 n0 L1 l o0) : ∀ {L2 : List SE}, LCs T C ops ancs e0 H0 n0 (L2 ++ l :: L1) → envL e0 (more S l.ix) (L2 ++ l :: L1) x = if l.dst = some x then l.v else envL e0 S (L2 ++ l :: L1) x
  | [], .cons hlc hix hLs => by
    show envL e0 _ (l :: L1) x = if l.dst = some x then l.v else envL e0 S (l :: L1) x
    simp only [envL, more_same, true_and, hN.unmade, Bool.false_eq_true, false_and, if_false]
    rw [env_low hLs (by omega)]
  | l2 :: L2, .cons (o := o) hlc hix hLs => by
    have ih := env_more (x := x) hN hl hLs
    show envL e0 _ (l2 :: (L2 ++ l :: L1)) x = if l.dst = some x then l.v else envL e0 S (l2 :: (L2 ++ l :: L1)) x
    have hix : l2.ix = (L2 ++ l :: L1).length := hix
    obtain ⟨_, _, hil, _⟩ := hLs.drop
    have hgt : l.ix < l2.ix := by rw [hix, hil, List.length_append, List.length_cons]; omega
    simp only [envL]
    rw [more_ne (by omega), ih]
    by_cases h2 : S l2.ix = true ∧ l2.dst = some x
    · rw [if_pos h2, if_pos h2]
      have hinc := (hN.inc l2.ix o hlc.op (.inr ⟨hgt, h2.1⟩)).1
      have hne : l.dst ≠ some x := by
        intro hd
        have := hl.dsts l2.ix o hlc.op hinc x hd
        rw [← hlc.dst] at this
        exact this h2.2
      rw [if_neg hne]
    · rw [if_neg h2, if_neg h2]
theorem heap_more {S : Nat → Bool} {l : SE} {L1 : List SE} (hN : Next ops ancs S l.ix) : ∀ {L2 : List SE}, LCs T C ops ancs e0 H0 n0 (L2 ++ l :: L1) → heapL H0 (more S l.ix) (L2 ++ l :: L1) = applyD (heapL H0 S (L2 ++ l :: L1)) l.d
  | [], .cons hlc hix hLs => by
    show heapL H0 _ (l :: L1) = applyD (heapL H0 S (l :: L1)) l.d
    simp only [heapL, more_same, if_true, hN.unmade, Bool.false_eq_true, if_false]
    rw [heap_low hLs (by omega)]
  | l2 :: L2, .cons (o := o) hlc hix hLs => by
    have ih := heap_more hN hLs
    show heapL H0 _ (l2 :: (L2 ++ l :: L1)) = applyD (heapL H0 S (l2 :: (L2 ++ l :: L1))) l.d
    have hix : l2.ix = (L2 ++ l :: L1).length := hix
    obtain ⟨_, _, hil, _⟩ := hLs.drop
    have hgt : l.ix < l2.ix := by rw [hix, hil, List.length_append, List.length_cons]; omega
    simp only [heapL]
    rw [more_ne (by omega), ih]
    cases hS : S l2.ix with
    | false => simp
    | true =>
      have hinc := (hN.inc l2.ix o hlc.op (.inr ⟨hgt, hS⟩)).2
      simp only [if_true]
      refine applyD_comm fun q hq => ?_
      cases hk : hasKey q l2.d with
      | false => rfl
      | true =>
        have := (hlc.apart l (by simp) hinc q hk).1
        rw [hq] at this; cases this

/-- What the walk knows when some operations are made. -/
structure SimS (B : Nat) (w0 : Base) (F : Fr) (e0 : Env) (H0 : Nat → HB) (n0 : Nat) (L : List SE) (S : Nat → Bool) (a : Act) (w : World) : Prop where
  defers : a.defers = []
  size : e0.length ≤ a.tmps.size
  mem : ∃ ρ φ, Mem B w0 ρ φ (usedL n0 S L) (heapL H0 S L) w ∧ (∀ t, t < e0.length → DenV ρ (envL e0 S L t) (a.tmps.getD t undef) ∧ (envL e0 S L t).wf (usedL n0 S L)) ∧ F.ok ρ (usedL n0 S L)

theorem used_more {S : Nat → Bool} {l : SE} {L : List SE} (hl : l ∈ L) (x : Nat) : U' (usedL n0 S L) l.n l.n' x → usedL n0 (more S l.ix) L x := by
  rintro (h | h)
  · rcases h with h | ⟨l', hl', hS, h1⟩
    · exact .inl h
    · exact .inr ⟨l', hl', by simp [more, hS], h1⟩
  · exact .inr ⟨l, hl, more_same, h⟩
theorem fresh_of {S : Nat → Bool} {l : SE} {o0 : Oper} {L1 : List SE} (hN : S l.ix = false) (hl : LC T C ops ancs e0 H0 n0 L1 l o0) : ∀ {L2 : List SE}, LCs T C ops ancs e0 H0 n0 (L2 ++ l :: L1) → ∀ q, l.n ≤ q → q < l.n' → ¬ usedL n0 S (L2 ++ l :: L1) q := by
  intro L2 hLs q h1 h2 hu
  rcases hu with hu | ⟨l', hl', hS, h3, h4⟩
  · have := hl.base; omega
  · rcases List.mem_append.1 hl' with hl' | hl'
    · -- a later one
      have key : ∀ {L2 : List SE}, LCs T C ops ancs e0 H0 n0 (L2 ++ l :: L1) → ∀ l' ∈ L2, l.n' ≤ l'.n := by
        intro L2
        induction L2 with
        | nil => intro _ l' h; cases h
        | cons l2 L2 ih =>
          intro hLs l' h
          cases hLs with
          | cons hlc hix hLs =>
            rcases List.mem_cons.1 h with rfl | h
            · exact hlc.mono l (by simp)
            · exact ih hLs l' h
      have := key hLs l' hl'
      omega
    · rcases List.mem_cons.1 hl' with rfl | hl'
      · rw [hN] at hS; cases hS
      · have := hl.mono l' hl'
        omega

theorem simS_step {S : Nat → Bool} {l : SE} {o : Oper} {L1 L2 : List SE} {a : Act} {w : World} {opsA : Array Oper} {K : Act → World → Prop} {Q : Exit → Act → World → Prop} (hT : TabOk P T) (hC : ConsOk P C) (hops : opsA.toList = ops) (hLs : LCs T C ops ancs e0 H0 n0 (L2 ++ l :: L1)) (hl : LC T C ops ancs e0 H0 n0 L1 l o) (hN : Next ops ancs S l.ix)
    (hS : SimS B w0 F e0 H0 n0 (L2 ++ l :: L1) S a w) (hK : ∀ a' w', SimS B w0 F e0 H0 n0 (L2 ++ l :: L1) (more S l.ix) a' w' → K a' w') : wpOp P opsA Q l.ix K a w := by
  obtain ⟨hdef, hsz, ρ, φ, hm, hd, hF⟩ := hS
  have hat : opsA[l.ix]? = some o := by
    have := hl.op
    rw [← hops] at this
    simpa using this
  have hin : l ∈ L2 ++ l :: L1 := by simp
  -- the slots as the operation sees them
  have hslot : ∀ x, DenV ρ (nth .u l.e x) (a.tmps.getD x undef) ∧ (nth .u l.e x).wf (usedL n0 S (L2 ++ l :: L1)) := by
    intro x
    by_cases hx : x < e0.length
    · rcases hl.env x with h | ⟨h1, h2⟩
      · rw [h]; exact ⟨trivial, fun _ h => h.elim⟩
      · have := hd x hx
        rw [env_at hN h1 hLs] at this
        exact ⟨h2.1 _ _ this.1, h2.2 _ this.2⟩
    · rw [nth_out _ _ _ (by rw [hl.elen]; omega)]
      exact ⟨trivial, fun _ h => h.elim⟩
  have hfin : ∀ (u : Value) (w' : World) (ρ' : Nat → Value) (φ' : Nat → Nat → Prop), Mem B w0 ρ' φ' (U' (usedL n0 S (L2 ++ l :: L1)) l.n l.n') (applyD (heapL H0 S (L2 ++ l :: L1)) l.d) w' → (∀ x, usedL n0 S (L2 ++ l :: L1) x → ρ' x = ρ x) → DenV ρ' l.v u → l.v.wf (U' (usedL n0 S (L2 ++ l :: L1)) l.n l.n') → K (a.put o.dst u) w' := by
    intro u w' ρ' φ' hm' hρ hv hw
    refine hK _ _ ⟨by rw [put_defers]; exact hdef, by rw [put_tmps_size]; exact hsz, ρ', φ', ?_, fun t ht => ?_, hF.next hρ fun x hx => used_more hin x (.inl hx)⟩
    · rw [heap_more hN hLs]
      exact hm'.mono (used_more hin)
    · rw [env_more hN hl hLs, hl.dst]
      cases hdst : o.dst with
      | none =>
        simp only [Act.put]
        rw [if_neg (by simp)]
        have := hd t ht
        exact ⟨this.1.anchors this.2 hρ, this.2.mono fun x hx => used_more hin x (.inl hx)⟩
      | some d =>
        rw [put_getD]
        by_cases hdt : d = t
        · subst hdt
          rw [if_pos rfl, if_pos ⟨rfl, by omega⟩]
          exact ⟨hv, hw.mono (used_more hin)⟩
        · rw [if_neg (by simpa using hdt), if_neg (by simp [hdt])]
          have := hd t ht
          exact ⟨this.1.anchors this.2 hρ, this.2.mono fun x hx => used_more hin x (.inl hx)⟩
  unfold wpOp
  simp only [hat]
  cases hran : l.ran with
  | true =>
    have hw : Region.wanted o (yielded opsA a.tmps) = true := by
      rcases hl.guard with ⟨hg, _⟩ | ⟨g, want, s, hg, hs, h⟩
      · exact wanted_none hg
      · rw [← hops] at hs
        rcases h with ⟨x, hx, hxw⟩ | ⟨_, h⟩
        · have hds := (hslot s).1
          rw [hx] at hds
          rw [wanted_bool hg hs (den_l hds), hxw, hran]
        · rw [hran] at h; cases h
    rw [if_pos hw]
    left
    obtain ⟨pre, out, hst, hp, h1, h2, h3⟩ := hl.run hran
    obtain ⟨dst, op, tt, pos, af, gd⟩ := o
    have hrun := stepC_sound hT hC (a := a.eval) (fun x => ev_den (fun t => (hslot t).1) x) (fun x => ev_wf (fun t => (hslot t).2) x) (H := heapL H0 S (L2 ++ l :: L1)) (fun q hq => by
        rw [heap_at hN hran hl hq hLs]
        exact (hl.heap hran q hq).1.symm) hm hst hp (fun h o' ho q hq hq' => by
          simp only [List.mem_singleton, Prod.mk.injEq] at ho
          rw [ho.2, ← h3] at hq'
          exact fresh_of hN.unmade hl hLs q hq hq') dst tt pos af gd
    refine hrun.1.wp fun u w' hf => ?_
    obtain ⟨h, o', ho, _, ρ', φ', hm', hρ, hv, hw'⟩ := hf
    simp only [List.mem_singleton, Prod.mk.injEq] at ho
    obtain ⟨rfl, rfl⟩ := ho
    rw [← h2, ← h3] at hm'
    rw [← h1] at hv hw'
    rw [← h3] at hw'
    exact hfin u w' ρ' φ' hm' hρ hv hw'
  | false =>
    have hw : Region.wanted o (yielded opsA a.tmps) = false := by
      rcases hl.guard with ⟨_, h⟩ | ⟨g, want, s, hg, hs, h⟩
      · rw [hran] at h; cases h
      · rw [← hops] at hs
        have hds := (hslot s).1
        rcases h with ⟨x, hx, hxw⟩ | ⟨hx, _⟩
        · rw [hx] at hds
          rw [wanted_bool hg hs (den_l hds), hxw, hran]
        · rw [hx] at hds
          obtain ⟨vs, hv, hsz', _⟩ := hds
          have : vs = #[] := by
            apply Array.eq_empty_of_size_eq_zero
            simpa using hsz'
          subst this
          exact wanted_not hg hs hv
    rw [if_neg (by rw [hw]; simp)]
    obtain ⟨h1, h2, h3⟩ := hl.skip hran
    refine hfin undef w ρ φ ?_ (fun _ _ => rfl) ?_ ?_
    · rw [h2, h3]
      exact hm.mono fun _ h => .inl h
    · rw [h1]
      exact ⟨#[], rfl, rfl, fun j c hc => by simp at hc⟩
    · rw [h1]
      exact fun c hc => by cases hc

theorem count_set : ∀ (l : List Bool) (i : Nat), l[i]? = some false → (l.set i true).count false + 1 = l.count false
  | [], i, h => by simp at h
  | x :: l, 0, h => by
    simp at h; subst h
    simp
  | x :: l, i + 1, h => by
    have := count_set l i (by simpa using h)
    simp only [List.set_cons_succ, List.count_cons]
    omega
theorem draw_any {opsA : Array Oper} {L : List SE} {σ' : St} {Q : Exit → Act → World → Prop} (hT : TabOk P T) (hC : ConsOk P C) (hops : opsA.toList = ops) (hA : Ancs ops ancs) (hLs : LCs T C ops ancs e0 H0 n0 L) (hlen : L.length ≤ ops.length) (hI : INV e0 H0 n0 σ' L)
    (hk : L.length = ops.length → ∀ a w, Sim B w0 F σ' a w → Q .normal a w) (hlast : ∀ i, L.length ≤ i → i < ops.length → i + 1 = ops.length ∧ (∀ j, j < i → bit (nth 0 ancs i) j = true) ∧ ∀ a w K, Sim B w0 F σ' a w → (∀ a' w', Q .normal a' w' → K a' w') → wpOp P opsA Q i K a w) :
    ∀ (fuel : Nat) (listed : Array Bool) (a : Act) (w : World), listed.size = opsA.size → (∀ i, L.length ≤ i → listed.getD i false = false) → Closed ops (fun i => listed.getD i false) → listed.toList.count false ≤ fuel →
      SimS B w0 F e0 H0 n0 L (fun i => listed.getD i false) a w → wpAny P .any opsA Q fuel listed a w := by
  intro fuel
  have hall0 : ∀ (listed : Array Bool), listed.size = opsA.size → Region.ready .any opsA listed = [] → ∀ i, i < opsA.size → listed.getD i false = true := by
    intro listed hsz hr
    intro i
    induction i using Nat.strongRecOn with
    | _ i ih =>
        intro hi
        cases hv : listed.getD i false with
        | true => rfl
        | false =>
          have hilt0 : i < opsA.size := hi
          have hat : opsA[i]? = some opsA[i] := by simp [hi]
          have hmem : i ∈ Region.ready .any opsA listed := by
            rw [mem_ready]
            refine ⟨?_, opsA[i], hat, fun e he hb => ?_⟩
            · have hlt : i < listed.size := by omega
              simp [hlt] at hv ⊢
              exact hv
            · have hlt := hA.lt i opsA[i] (by rw [← hops]; simp [hilt0]) e (by simpa using he) hb
              exact ih e.on hlt (by omega)
          rw [hr] at hmem
          cases hmem
  -- the first ones are made
  have done0 : ∀ (listed : Array Bool) (a : Act) (w : World), (∀ i, i < L.length → listed.getD i false = true) → SimS B w0 F e0 H0 n0 L (fun i => listed.getD i false) a w → Sim B w0 F σ' a w := by
    intro listed a w hall hS
    obtain ⟨hdef, hsz', ρ, φ, hm, hd, hF⟩ := hS
    have hix : ∀ {L : List SE}, LCs T C ops ancs e0 H0 n0 L → ∀ l ∈ L, l.ix < L.length := by
      intro L hLs l hl
      obtain ⟨L2, L1, o, e, _, h2, _⟩ := hLs.split hl
      rw [e, h2, List.length_append, List.length_cons]
      omega
    have hSall : ∀ l ∈ L, listed.getD l.ix false = true := fun l hl => hall _ (hix hLs l hl)
    have henv : ∀ x, envL e0 (fun i => listed.getD i false) L x = envL e0 allS L x := by
      intro x
      clear hm hd hF hlen hI hix hLs hall hk hlast
      induction L with
      | nil => rfl
      | cons l L ih =>
        simp only [envL, hSall l (by simp), allS, true_and]
        rw [ih (fun l' hl' => hSall l' (by simp [hl']))]
    have hheap : heapL H0 (fun i => listed.getD i false) L = heapL H0 allS L := by
      clear hm hd hF hlen hI hix hLs henv hall hk hlast
      induction L with
      | nil => rfl
      | cons l L ih =>
        simp only [heapL, hSall l (by simp), allS, if_true]
        rw [ih (fun l' hl' => hSall l' (by simp [hl']))]
    have hused : ∀ x, usedL n0 (fun i => listed.getD i false) L x → x < σ'.n := by
      rintro x (h | ⟨l, hl, _, _, h⟩)
      · exact Nat.lt_of_lt_of_le h hI.n
      · exact Nat.lt_of_lt_of_le h (hI.mono l hl)
    refine ⟨hdef, by rw [hI.len]; exact hsz', ρ, φ, ?_, fun t => ?_, hF.next (fun _ _ => rfl) hused⟩
    · rw [hI.heap, ← hheap]
      exact hm.mono hused
    · by_cases ht : t < e0.length
      · have h1 := hd t ht
        rw [henv] at h1
        have h2 := hI.env t
        exact ⟨h2.1 _ _ h1.1, (h2.2 _ h1.2).mono hused⟩
      · rw [nth_out _ _ _ (by rw [hI.len]; omega)]
        exact ⟨trivial, fun _ h => h.elim⟩
  have done : ∀ (listed : Array Bool) (a : Act) (w : World), listed.size = opsA.size → (∀ i, L.length ≤ i → listed.getD i false = false) → SimS B w0 F e0 H0 n0 L (fun i => listed.getD i false) a w → Region.ready .any opsA listed = [] → Q .normal a w := by
    intro listed a w hsz hun hS hr
    have hal := hall0 listed hsz hr
    have hsize : opsA.size = ops.length := by rw [← hops]; simp
    have hlen' : L.length = ops.length := by
      by_cases e : L.length = ops.length
      · exact e
      · have h1 := hal L.length (by omega)
        rw [hun _ (Nat.le_refl _)] at h1
        cases h1
    exact hk hlen' a w (done0 listed a w (fun i hi => hal i (by omega)) hS)
  -- the next one
  have next : ∀ (listed : Array Bool) (a : Act) (w : World) (i : Nat) (K : Act → World → Prop), i < L.length → listed.size = opsA.size → Closed ops (fun i => listed.getD i false) → SimS B w0 F e0 H0 n0 L (fun i => listed.getD i false) a w → i ∈ Region.ready .any opsA listed →
      (∀ a' w', Closed ops (fun j => (listed.setIfInBounds i true).getD j false) → SimS B w0 F e0 H0 n0 L (fun j => (listed.setIfInBounds i true).getD j false) a' w' → K a' w') → wpOp P opsA Q i K a w := by
    intro listed a w i K hil hsz hcl hS hi hK
    obtain ⟨hun, o, ho, hall⟩ := mem_ready.1 hi
    have ho' : ops[i]? = some o := by rw [← hops]; simpa using ho
    have hilt : i < opsA.size := (Array.getElem?_eq_some_iff.1 ho).1
    have hilt' : i < listed.size := by omega
    have hSi : listed.getD i false = false := by
      simp [hilt'] at hun ⊢
      exact hun
    have hdep : ∀ e ∈ o.after.toList, Region.binds .any e = true → (fun i => listed.getD i false) e.on = true := fun e he hb => hall e (by simpa using he) hb
    have hset : (fun j => (listed.setIfInBounds i true).getD j false) = more (fun i => listed.getD i false) i := by
      funext j
      by_cases hj : j = i
      · subst hj
        rw [more_same]
        simp [hilt']
      · rw [more_ne hj, getD_set_ne false (Ne.symm hj)]
    obtain ⟨L2, l, L1, rfl, hL1⟩ : ∃ L2 l L1, L = L2 ++ l :: L1 ∧ L1.length = i := by
      refine ⟨L.take (L.length - 1 - i), L[L.length - 1 - i]'(by omega), L.drop (L.length - 1 - i + 1), ?_, by simp; omega⟩
      rw [List.getElem_cons_drop, List.take_append_drop]
    obtain ⟨o1, hl, hix, _⟩ := hLs.drop
    rw [hL1] at hix
    subst hix
    have : o1 = o := by
      have := hl.op
      rw [ho'] at this
      injection this with this
      exact this.symm
    subst this
    have hN : Next ops ancs (fun i => listed.getD i false) l.ix := ⟨hSi, fun j oj hj hor => inc_of hA hcl ho' hj hSi hdep hor⟩
    refine simS_step hT hC hops hLs hl hN hS fun a' w' hS' => hK a' w' ?_ ?_
    · rw [hset]
      intro j oj hj hSj e he hb
      by_cases hji : j = l.ix
      · subst hji
        rw [ho'] at hj
        injection hj with hj
        subst hj
        have := hdep e he hb
        simp only [more]
        simp only at this
        rw [this]; rfl
      · rw [more_ne hji] at hSj
        have := hcl j oj hj hSj e he hb
        simp only [more]
        simp only at this
        rw [this]; rfl
    · rw [hset]; exact hS'
  -- the last one, behind all others
  have last : ∀ (listed : Array Bool) (a : Act) (w : World) (i : Nat) (K : Act → World → Prop), L.length ≤ i → listed.size = opsA.size → Closed ops (fun i => listed.getD i false) → SimS B w0 F e0 H0 n0 L (fun i => listed.getD i false) a w → i ∈ Region.ready .any opsA listed →
      (∀ a' w', Q .normal a' w' → (∀ j, j < ops.length → (listed.setIfInBounds i true).getD j false = true) → K a' w') → wpOp P opsA Q i K a w := by
    intro listed a w i K hil hsz hcl hS hi hK
    obtain ⟨hun, o, ho, hall⟩ := mem_ready.1 hi
    have ho' : ops[i]? = some o := by rw [← hops]; simpa using ho
    have hilt : i < opsA.size := (Array.getElem?_eq_some_iff.1 ho).1
    have hsize : opsA.size = ops.length := by rw [← hops]; simp
    obtain ⟨h1, h2, h3⟩ := hlast i hil (by omega)
    have hdep : ∀ e ∈ o.after.toList, Region.binds .any e = true → (fun i => listed.getD i false) e.on = true := fun e he hb => hall e (by simpa using he) hb
    have hbel : ∀ j, j < i → listed.getD j false = true := fun j hj => hA.closed hcl i o j ho' hdep (h2 j hj)
    refine h3 a w K (done0 listed a w (fun j hj => hbel j (by omega)) hS) fun a' w' hq => hK a' w' hq fun j hj => ?_
    by_cases e : j = i
    · subst e
      have : j < listed.size := by omega
      simp [this]
    · rw [getD_set_ne false (Ne.symm e)]
      exact hbel j (by omega)
  have hsetun : ∀ (listed : Array Bool) (i : Nat), i < L.length → (∀ j, L.length ≤ j → listed.getD j false = false) → ∀ j, L.length ≤ j → (listed.setIfInBounds i true).getD j false = false := by
    intro listed i hi hun j hj
    rw [getD_set_ne false (show i ≠ j by omega)]
    exact hun j hj
  have hnoready : ∀ (listed : Array Bool), listed.size = opsA.size → (∀ j, j < ops.length → listed.getD j false = true) → Region.ready .any opsA listed = [] := by
    intro listed hsz hal
    have hsize : opsA.size = ops.length := by rw [← hops]; simp
    cases hr : Region.ready .any opsA listed with
    | nil => rfl
    | cons i l =>
      have hi : i ∈ Region.ready .any opsA listed := by rw [hr]; simp
      obtain ⟨hun, o, ho, _⟩ := mem_ready.1 hi
      have hilt : i < opsA.size := (Array.getElem?_eq_some_iff.1 ho).1
      have h1 := hal i (by omega)
      have hilt' : i < listed.size := by omega
      simp [hilt'] at hun h1
      rw [hun] at h1; cases h1
  induction fuel with
  | zero =>
    intro listed a w hsz hunl hcl hcnt hS
    have hr : Region.ready .any opsA listed = [] := by
      cases hr : Region.ready .any opsA listed with
      | nil => rfl
      | cons i l =>
        have hi : i ∈ Region.ready .any opsA listed := by rw [hr]; simp
        obtain ⟨hun, o, ho, _⟩ := mem_ready.1 hi
        have hilt : i < opsA.size := (Array.getElem?_eq_some_iff.1 ho).1
        have hat : listed.toList[i]? = some false := by
          have hilt' : i < listed.size := by omega
          simp [hilt'] at hun ⊢
          exact hun
        have := count_set listed.toList i hat
        omega
    exact ⟨hr, done listed a w hsz hunl hS hr⟩
  | succ fuel ih =>
    intro listed a w hsz hunl hcl hcnt hS
    refine ⟨fun hr => done listed a w hsz hunl hS hr, fun i hi => ?_⟩
    obtain ⟨hun, o, ho, _⟩ := mem_ready.1 hi
    have hilt : i < opsA.size := (Array.getElem?_eq_some_iff.1 ho).1
    have hat : listed.toList[i]? = some false := by
      have hilt' : i < listed.size := by omega
      simp [hilt'] at hun ⊢
      exact hun
    have hc := count_set listed.toList i hat
    by_cases hil : i < L.length
    case neg =>
      refine last listed a w i _ (by omega) hsz hcl hS hi fun a' w' hq hal => ?_
      have hr := hnoready _ (by simpa using hsz) hal
      cases fuel with
      | zero => exact ⟨hr, hq⟩
      | succ fuel => exact ⟨fun _ => hq, fun i hi => by rw [hr] at hi; cases hi⟩
    refine next listed a w i _ hil hsz hcl hS hi fun a' w' hcl' hS' => ih _ a' w' (by simpa using hsz) (hsetun listed i hil hunl) hcl' ?_ hS'
    have : (listed.setIfInBounds i true).toList = listed.toList.set i true := by simp
    rw [this]
    omega

theorem vcDraw_sound {ops : Array Oper} {ancs : List Nat} {ks : Nat → Env → List Nat} {k : St → Prop} {σ : St} {a : Act} {w : World} {Q : Exit → Act → World → Prop} (hT : TabOk P T) (hC : ConsOk P C) (ha : ancsGo ops.toList [] = some ancs) (h : vcDraw T C ops.toList ancs ks ops.toList 0 σ [] k)
    (hS : Sim B w0 F σ a w) (hk : ∀ σ a w, k σ → Sim B w0 F σ a w → Q .normal a w) : wpAny P .any ops Q ops.size (Array.replicate ops.size false) a { w with drawn := w.drawn + 1 } := by
  obtain ⟨hdef, hsz, ρ, φ, hm, hd, hF⟩ := hS
  obtain ⟨σ', L, hI, hLs, hlen, hkσ⟩ := draw_log (e0 := σ.e) (H0 := hget σ.H) (n0 := σ.n) ops.toList.length ops.toList 0 σ [] (Nat.le_refl _) (by rw [List.take_length]; rfl) rfl (Nat.zero_le _) ⟨rfl, fun x => .refl _, rfl, Nat.le_refl _, fun l hl => by cases hl⟩ .nil h
  have hnone : ∀ i, (Array.replicate ops.size false).getD i false = false := by
    intro i
    by_cases hi : i < ops.size <;> simp [hi]
  have hSf : (fun i => (Array.replicate ops.size false).getD i false) = fun _ => false := funext hnone
  refine draw_any (B := B) (w0 := w0) (F := F) hT hC rfl (ancs_of ha) hLs (by omega) hI (fun _ a w hs => hk σ' a w hkσ hs) (fun i h1 h2 => by omega) ops.size _ a _ (by simp) (fun i _ => hnone i) ?_ ?_ ?_
  · rw [hSf]; intro i o ho hSi; cases hSi
  · have : (Array.replicate ops.size false).toList = List.replicate ops.size false := by simp
    rw [this]
    simp
  · rw [hSf]
    have hheap : heapL (hget σ.H) (fun _ => false) L = hget σ.H := by
      clear hLs hlen hI hkσ
      induction L with
      | nil => rfl
      | cons l L ih => simp only [heapL, Bool.false_eq_true, if_false]; exact ih
    have henv : ∀ x, envL σ.e (fun _ => false) L x = nth .u σ.e x := by
      intro x
      clear hLs hlen hI hheap hkσ
      induction L with
      | nil => rfl
      | cons l L ih => simp only [envL, Bool.false_eq_true, false_and, if_false]; exact ih
    have hm' : Mem B w0 ρ φ (· < σ.n) (hget σ.H) { w with drawn := w.drawn + 1 } := hm.next ⟨rfl, rfl, rfl, Nat.le_refl _, fun _ _ => rfl⟩
    refine ⟨hdef, hsz, ρ, φ, ?_, fun t _ => ?_, hF.next (fun _ _ => rfl) fun x hx => .inl hx⟩
    · rw [hheap]; exact hm'.mono fun x hx => .inl hx
    · rw [henv]; exact ⟨(hd t).1, (hd t).2.mono fun x hx => .inl hx⟩
theorem splitLast_spec : ∀ {l x : List Oper} {o : Oper}, splitLast l = some (x, o) → l = x ++ [o]
  | [], x, o, h => by cases h
  | [y], x, o, h => by
    simp only [splitLast, Option.some.injEq, Prod.mk.injEq] at h
    obtain ⟨rfl, rfl⟩ := h
    rfl
  | y :: z :: l, x, o, h => by
    simp only [splitLast] at h
    split at h
    · rename_i x' y' hs
      simp only [Option.some.injEq, Prod.mk.injEq] at h
      obtain ⟨rfl, rfl⟩ := h
      have := splitLast_spec (l := z :: l) (by simp only [splitLast]; exact hs)
      rw [this]; rfl
    · cases h
theorem allBelow_spec {m : Nat} : ∀ {n : Nat}, allBelow m n = true → ∀ j, j < n → bit m j = true
  | 0, _, j, hj => by omega
  | n + 1, h, j, hj => by
    simp only [allBelow] at h
    split at h
    · rename_i hb
      by_cases e : j = n
      · subst e; exact hb
      · exact allBelow_spec h j (by omega)
    · cases h
theorem lastWalk_spec {I : Inl} {ancs : List Nat} {ops A : List Oper} {o : Oper} (h : lastWalk I ancs ops = some (A, o)) : ops = A ++ [o] ∧ o.guard = none ∧ ∀ j, j < A.length → bit (nth 0 ancs A.length) j = true := by
  unfold lastWalk at h
  split at h
  · rename_i x o' hs
    split at h
    · rename_i hw hb
      simp only [Option.some.injEq, Prod.mk.injEq] at h
      obtain ⟨rfl, rfl⟩ := h
      refine ⟨splitLast_spec hs, ?_, fun j hj => ?_⟩
      · unfold isWalk at hw
        split at hw
        · rename_i hg _; exact hg
        · cases hw
      · rw [len_eq] at hb
        exact allBelow_spec hb j hj
    · cases h
  · cases h
theorem vcDrawLast_sound {ops : Array Oper} {A : List Oper} {o : Oper} {I : Inl} {ancs : List Nat} {ks : Nat → Env → List Nat} {k : St → Prop} {σ : St} {a : Act} {w : World} {Q : Exit → Act → World → Prop} (hT : TabOk P T) (hC : ConsOk P C) (hI' : InlOk P B w0 I) (ha : ancsGo ops.toList [] = some ancs) (hlw : lastWalk I ancs ops.toList = some (A, o)) (h : vcDraw T C ops.toList ancs ks A 0 σ [] (fun σ => runOp T C I F.x σ o k))
    (hS : Sim B w0 F σ a w) (hk : ∀ σ a w, k σ → Sim B w0 F σ a w → Q .normal a w) : wpAny P .any ops Q ops.size (Array.replicate ops.size false) a { w with drawn := w.drawn + 1 } := by
  obtain ⟨hdef, hsz, ρ, φ, hm, hd, hF⟩ := hS
  obtain ⟨hA, hg, hb⟩ := lastWalk_spec hlw
  have hAl : ops.toList.length = A.length + 1 := by rw [hA]; simp
  obtain ⟨σ', L, hI, hLs, hlen, hkσ⟩ := draw_log (e0 := σ.e) (H0 := hget σ.H) (n0 := σ.n) A.length A 0 σ [] (by omega) (by rw [hA]; simp) rfl (Nat.zero_le _) ⟨rfl, fun x => .refl _, rfl, Nat.le_refl _, fun l hl => by cases hl⟩ .nil h
  have hnone : ∀ i, (Array.replicate ops.size false).getD i false = false := by
    intro i
    by_cases hi : i < ops.size <;> simp [hi]
  have hSf : (fun i => (Array.replicate ops.size false).getD i false) = fun _ => false := funext hnone
  refine draw_any (B := B) (w0 := w0) (F := F) hT hC rfl (ancs_of ha) hLs (by omega) hI (fun h => absurd h (by omega)) (fun i h1 h2 => ?_) ops.size _ a _ (by simp) (fun i _ => hnone i) ?_ ?_ ?_
  · have hi : i = A.length := by omega
    subst hi
    refine ⟨by omega, hb, fun a w K hs hK => ?_⟩
    have hat : ops[A.length]? = some o := by
      have : ops.toList[A.length]? = some o := by rw [hA]; simp
      simpa using this
    unfold wpOp
    rw [hat]
    simp only [wanted_none hg, if_true]
    exact .inl (runOp_sound hT hC hI' hs hkσ fun σ' a' w' hk' hs' => hK a' w' (hk σ' a' w' hk' hs'))
  · rw [hSf]; intro i o ho hSi; cases hSi
  · have : (Array.replicate ops.size false).toList = List.replicate ops.size false := by simp
    rw [this]
    simp
  · rw [hSf]
    have hheap : heapL (hget σ.H) (fun _ => false) L = hget σ.H := by
      clear hLs hlen hI hkσ
      induction L with
      | nil => rfl
      | cons l L ih => simp only [heapL, Bool.false_eq_true, if_false]; exact ih
    have henv : ∀ x, envL σ.e (fun _ => false) L x = nth .u σ.e x := by
      intro x
      clear hLs hlen hI hheap hkσ
      induction L with
      | nil => rfl
      | cons l L ih => simp only [envL, Bool.false_eq_true, false_and, if_false]; exact ih
    have hm' : Mem B w0 ρ φ (· < σ.n) (hget σ.H) { w with drawn := w.drawn + 1 } := hm.next ⟨rfl, rfl, rfl, Nat.le_refl _, fun _ _ => rfl⟩
    refine ⟨hdef, hsz, ρ, φ, ?_, fun t _ => ?_, hF.next (fun _ _ => rfl) fun x hx => .inl hx⟩
    · rw [hheap]; exact hm'.mono fun x hx => .inl hx
    · rw [henv]; exact ⟨(hd t).1, (hd t).2.mono fun x hx => .inl hx⟩
end
end Go.Eng

/- A map's element raised by one: sound in whatever order. -/
set_option linter.unusedVariables false
set_option linter.unusedSimpArgs false
namespace Go.Eng
open Go Go.RowKit

section
variable {P : Program} {T : Tab} {B : Nat} {w0 : Base} {F : Fr}

/-- A region without order, by what is known when some of its operations are made. -/
theorem draw_gen {opsA : Array Oper} {Q : Exit → Act → World → Prop} (R : (Nat → Bool) → Act → World → Prop) (hlt : ∀ i o, opsA[i]? = some o → ∀ e ∈ o.after.toList, Region.binds .any e = true → e.on < i)
    (hstep : ∀ (S : Nat → Bool) i o a w, opsA[i]? = some o → S i = false → (∀ e ∈ o.after.toList, Region.binds .any e = true → S e.on = true) → R S a w → wpOp P opsA Q i (fun a' w' => R (more S i) a' w') a w)
    (hfin : ∀ (S : Nat → Bool) a w, (∀ i, i < opsA.size → S i = true) → R S a w → Q .normal a w) :
    ∀ (fuel : Nat) (listed : Array Bool) (a : Act) (w : World), listed.size = opsA.size → listed.toList.count false ≤ fuel → R (fun i => listed.getD i false) a w → wpAny P .any opsA Q fuel listed a w := by
  intro fuel
  have done : ∀ (listed : Array Bool) (a : Act) (w : World), listed.size = opsA.size → R (fun i => listed.getD i false) a w → Region.ready .any opsA listed = [] → Q .normal a w := by
    intro listed a w hsz hS hr
    refine hfin _ a w ?_ hS
    intro i
    induction i using Nat.strongRecOn with
    | _ i ih =>
      intro hi
      cases hv : listed.getD i false with
      | true => rfl
      | false =>
        have hat : opsA[i]? = some opsA[i] := by simp [hi]
        have hmem : i ∈ Region.ready .any opsA listed := by
          rw [mem_ready]
          refine ⟨?_, opsA[i], hat, fun e he hb => ?_⟩
          · have hlt : i < listed.size := by omega
            simp [hlt] at hv ⊢
            exact hv
          · have hl := hlt i opsA[i] hat e (by simpa using he) hb
            exact ih e.on hl (by omega)
        rw [hr] at hmem
        cases hmem
  have next : ∀ (listed : Array Bool) (a : Act) (w : World) (i : Nat) (K : Act → World → Prop), listed.size = opsA.size → R (fun i => listed.getD i false) a w → i ∈ Region.ready .any opsA listed →
      (∀ a' w', R (fun j => (listed.setIfInBounds i true).getD j false) a' w' → K a' w') → wpOp P opsA Q i K a w := by
    intro listed a w i K hsz hS hi hK
    obtain ⟨hun, o, ho, hall⟩ := mem_ready.1 hi
    have hilt : i < opsA.size := (Array.getElem?_eq_some_iff.1 ho).1
    have hilt' : i < listed.size := by omega
    have hSi : listed.getD i false = false := by
      simp [hilt'] at hun ⊢
      exact hun
    have hset : (fun j => (listed.setIfInBounds i true).getD j false) = more (fun i => listed.getD i false) i := by
      funext j
      by_cases hj : j = i
      · subst hj
        rw [more_same]
        simp [hilt']
      · rw [more_ne hj, getD_set_ne false (Ne.symm hj)]
    refine wpOp_mono (fun a' w' h => hK a' w' ?_) (hstep _ i o a w ho hSi (fun e he hb => hall e (by simpa using he) hb) hS)
    rw [hset]
    exact h
  induction fuel with
  | zero =>
    intro listed a w hsz hcnt hS
    have hr : Region.ready .any opsA listed = [] := by
      cases hr : Region.ready .any opsA listed with
      | nil => rfl
      | cons i l =>
        have hi : i ∈ Region.ready .any opsA listed := by rw [hr]; simp
        obtain ⟨hun, o, ho, _⟩ := mem_ready.1 hi
        have hilt : i < opsA.size := (Array.getElem?_eq_some_iff.1 ho).1
        have hat : listed.toList[i]? = some false := by
          have hilt' : i < listed.size := by omega
          simp [hilt'] at hun ⊢
          exact hun
        have := count_set listed.toList i hat
        omega
    exact ⟨hr, done listed a w hsz hS hr⟩
  | succ fuel ih =>
    intro listed a w hsz hcnt hS
    refine ⟨fun hr => done listed a w hsz hS hr, fun i hi => ?_⟩
    obtain ⟨hun, o, ho, _⟩ := mem_ready.1 hi
    have hilt : i < opsA.size := (Array.getElem?_eq_some_iff.1 ho).1
    have hat : listed.toList[i]? = some false := by
      have hilt' : i < listed.size := by omega
      simp [hilt'] at hun ⊢
      exact hun
    have hc := count_set listed.toList i hat
    refine next listed a w i _ hsz hS hi fun a' w' hS' => ih _ a' w' (by simpa using hsz) ?_ hS'
    have : (listed.setIfInBounds i true).toList = listed.toList.set i true := by simp
    rw [this]
    omega

theorem wpOp_value {opsA : Array Oper} {Q : Exit → Act → World → Prop} {K : Act → World → Prop} {i : Nat} {o : Oper} {a : Act} {w w' : World} {v : Value} (ho : opsA[i]? = some o) (hg : o.guard = none) (hr : (execOp a.eval o).run P w = .ok (.value v) w') (hK : K (a.put o.dst v) w') : wpOp P opsA Q i K a w := by
  unfold wpOp
  rw [ho]
  simp only [Region.wanted, hg, if_true]
  refine .inl ?_
  unfold Oper.wp
  rw [hr]
  exact hK
theorem wpOp_skip {opsA : Array Oper} {Q : Exit → Act → World → Prop} {K : Act → World → Prop} {i : Nat} {o : Oper} {a : Act} {w w' : World} (ho : opsA[i]? = some o) (hg : o.guard = none) (hr : (execOp a.eval o).run P w = .ok .skip w') (hK : K (a.put o.dst undef) w') : wpOp P opsA Q i K a w := by
  unfold wpOp
  rw [ho]
  simp only [Region.wanted, hg, if_true]
  refine .inl ?_
  unfold Oper.wp
  rw [hr]
  exact hK
theorem run_load_st {ρ : Nat → Value} {φ : Nat → Nat → Prop} {U : Nat → Prop} {H : Nat → HB} {w : World} {o : Bool} {t id off ty m : Nat} {l : List SC} {fs : List FD} {z : List SC} {eq : Bool} {x : Operand} {ev : Operand → Value} (hT : TabOk P T) (ht : look T t = some (.st m fs z eq)) (hm : Mem B w0 ρ φ U H w) (hH : H id = .cells o ty l) (ho : off + m ≤ l.length)
    (hd : DenV ρ (.w (.c (.p id off))) (ev x)) (dst) (tt) (pos) (af) (gd) : ∃ u, (execOp ev ⟨dst, .load t x, tt, pos, af, gd⟩).run P w = .ok (.value u) w ∧ DenV ρ (.w (.g (tk m (dr off l)))) u := by
  obtain ⟨g, cs, hg, hφ, hh, hl⟩ := mem_cells hm hH
  obtain ⟨i, F, v, hi, hu, hs, _⟩ := td_st hT ht
  have hv := den_p hd hg
  have hsz := hl.1
  have hrun : (loadCells (⟨g, off, none⟩ : Addr) m).run P w = .ok (cs.extract off (off + m)) w := by
    have := run_loadCells_list (P := P) w ⟨g, off, none⟩ (cs.extract off (off + m)).toList (fun j v hj => by
      rw [plain_addr, cell_of_row w g _ cs ty (0, 0) hh]
      rw [Array.getElem?_toList, Array.getElem?_extract] at hj
      split at hj
      · exact hj
      · cases hj)
    have hlen : (cs.extract off (off + m)).toList.length = m := by simp; omega
    rw [hlen, Array.toArray_toList] at this
    exact this
  refine ⟨.agg (cs.extract off (off + m)), ?_, ⟨_, rfl, hl.take_drop ho⟩⟩
  simp [execOp, hv, Instr.loadAt, Instr.sureAddr, loadVar, run_isAgg_st hu, run_sizeOf' hi, hs, hrun]

theorem depOk_spec {o : Oper} : ∀ {l : List Nat}, depOk o l = true → ∀ j ∈ l, ∃ e ∈ o.after.toList, Region.binds .any e = true ∧ e.on = j
  | [], _, j, hj => by cases hj
  | x :: l, h, j, hj => by
    unfold depOk at h
    split at h
    · rename_i hx
      rcases List.mem_cons.1 hj with rfl | hj
      · obtain ⟨e, he, hb⟩ := List.any_eq_true.1 hx
        rw [Bool.and_eq_true] at hb
        exact ⟨e, he, hb.1, Nat.eq_of_beq_eq_true hb.2⟩
      · exact depOk_spec h j hj
    · cases h
theorem edgesOk_lt {i : Nat} : ∀ {l : List Edge}, edgesOk i l = true → ∀ e ∈ l, Region.binds .any e = true → e.on < i
  | [], _, e, he, _ => by cases he
  | x :: l, h, e, he, hb => by
    unfold edgesOk at h
    split at h
    · cases h
    · rename_i hno
      rcases List.mem_cons.1 he with rfl | he
      · cases hl : Nat.blt e.on i with
        | true => exact Nat.blt_eq ▸ hl
        | false => exact absurd hl (fun hl => hno hb hl)
      · exact edgesOk_lt h e he hb
theorem edgesAll_lt : ∀ {l : List Oper} {k : Nat}, edgesAll k l = true → ∀ i o, l[i]? = some o → ∀ e ∈ o.after.toList, Region.binds .any e = true → e.on < k + i
  | [], k, _, i, o, h => by simp at h
  | x :: l, k, h, i, o, ho => by
    unfold edgesAll at h
    split at h
    · rename_i hx
      cases i with
      | zero =>
        simp only [List.getElem?_cons_zero, Option.some.injEq] at ho
        subst ho
        exact edgesOk_lt hx
      | succ i =>
        have := edgesAll_lt h i o (by simpa using ho)
        intro e he hb
        have := this e he hb
        omega
    · cases h
theorem asMove_spec {o : Oper} {d : Nat} {m : Operand} (h : asMove o = some (d, m)) : o.dst = some d ∧ o.op = .move m ∧ o.guard = none := by
  unfold asMove at h
  split at h
  · simp only [Option.some.injEq, Prod.mk.injEq] at h; obtain ⟨rfl, rfl⟩ := h; exact ⟨rfl, rfl, rfl⟩
  · cases h
theorem asLoad_spec {o : Oper} {d q t : Nat} (h : asLoad o = some (d, t, q)) : o.dst = some d ∧ o.op = .load t (.tmp q) ∧ o.guard = none := by
  unfold asLoad at h
  split at h
  · simp only [Option.some.injEq, Prod.mk.injEq] at h; obtain ⟨rfl, rfl, rfl⟩ := h; exact ⟨rfl, rfl, rfl⟩
  · cases h
theorem asLook_spec {o : Oper} {d x y t : Nat} (h : asLook o = some (d, t, x, y)) : o.dst = some d ∧ o.op = .lookup t (.tmp x) (.tmp y) false ∧ o.guard = none := by
  unfold asLook at h
  split at h
  · simp only [Option.some.injEq, Prod.mk.injEq] at h; obtain ⟨rfl, rfl, rfl, rfl⟩ := h; exact ⟨rfl, rfl, rfl⟩
  · cases h
theorem asInc_spec {o : Oper} {d x : Nat} (h : asInc o = some (d, x)) : o.dst = some d ∧ (∃ t yt, o.op = .binOp .add t (.tmp x) (.const (.int .i64 1)) yt) ∧ o.guard = none := by
  unfold asInc at h
  split at h
  · split at h
    · rename_i e _
      subst e
      simp only [Option.some.injEq, Prod.mk.injEq] at h; obtain ⟨rfl, rfl⟩ := h; exact ⟨rfl, ⟨_, _, rfl⟩, rfl⟩
    · cases h
  · cases h
theorem asEntry_spec {o : Oper} {d x y t : Nat} (h : asEntry o = some (d, t, x, y)) : o.dst = some d ∧ o.op = .mapEntry t (.tmp x) (.tmp y) ∧ o.guard = none := by
  unfold asEntry at h
  split at h
  · simp only [Option.some.injEq, Prod.mk.injEq] at h; obtain ⟨rfl, rfl, rfl, rfl⟩ := h; exact ⟨rfl, rfl, rfl⟩
  · cases h
theorem asStamp_spec {o : Oper} {d x : Nat} (h : asStamp o = some (d, x)) : o.dst = some d ∧ o.op = .extract (.tmp x) 1 ∧ o.guard = none := by
  unfold asStamp at h
  split at h
  · simp only [Option.some.injEq, Prod.mk.injEq] at h; obtain ⟨rfl, rfl⟩ := h; exact ⟨rfl, rfl, rfl⟩
  · cases h
theorem asEStore_spec {o : Oper} {x s v t : Nat} (h : asEStore o = some (t, x, s, v)) : o.dst = none ∧ o.op = .entryStore t (.tmp x) (.tmp s) (.tmp v) ∧ o.guard = none := by
  unfold asEStore at h
  split at h
  · simp only [Option.some.injEq, Prod.mk.injEq] at h; obtain ⟨rfl, rfl, rfl, rfl⟩ := h; exact ⟨rfl, rfl, rfl⟩
  · cases h
theorem run_exec {ev : Operand → Value} {o : Oper} {w : World} : (execOp ev o).run P w = (execOp ev ⟨o.dst, o.op, o.type, o.pos, o.after, o.guard⟩).run P w := rfl

structure Slots (m : Operand) (q d0 d1 d2 d3 d4 d5 : Nat) : Prop where
  m : ∀ t, m = .tmp t → t ∉ [d0, d1, d2, d3, d4, d5]
  q : q ∉ [d0, d1, d2, d3, d4, d5]
  n01 : d0 ≠ d1
  n02 : d0 ≠ d2
  n03 : d0 ≠ d3
  n04 : d0 ≠ d4
  n05 : d0 ≠ d5
  n12 : d1 ≠ d2
  n13 : d1 ≠ d3
  n14 : d1 ≠ d4
  n15 : d1 ≠ d5
  n23 : d2 ≠ d3
  n24 : d2 ≠ d4
  n25 : d2 ≠ d5
  n34 : d3 ≠ d4
  n35 : d3 ≠ d5
  n45 : d4 ≠ d5
theorem tmpsOk_spec {m : Operand} {q d0 d1 d2 d3 d4 d5 : Nat} (h : tmpsOk m q d0 d1 d2 d3 d4 d5 = true) : Slots m q d0 d1 d2 d3 d4 d5 := by
  unfold tmpsOk at h
  simp only [Bool.and_eq_true, Bool.not_eq_true'] at h
  obtain ⟨⟨⟨⟨⟨⟨hm, hq⟩, h0⟩, h1⟩, h2⟩, h3⟩, h4⟩ := h
  have no : ∀ {l : List Nat} {x : Nat}, l.contains x = false → x ∉ l := fun h hx => by
    rw [List.contains_iff_mem.2 hx] at h; cases h
  have k0 := no h0
  have k1 := no h1
  have k2 := no h2
  have k3 := no h3
  have k4 := no h4
  simp only [List.mem_cons, List.not_mem_nil, or_false, not_or] at k0 k1 k2 k3 k4
  refine ⟨fun t e => ?_, no hq, k0.1, k0.2.1, k0.2.2.1, k0.2.2.2.1, k0.2.2.2.2, k1.1, k1.2.1, k1.2.2.1, k1.2.2.2, k2.1, k2.2.1, k2.2.2, k3.1, k3.2, k4⟩
  subst e
  simp only [Bool.not_eq_true'] at hm
  exact no hm

theorem inc_main {opsA : Array Oper} {Q : Exit → Act → World → Prop} {σ : St} {a : Act} {w : World} {k : St → Prop} {o0 o1 o2 o3 o4 o5 o6 : Oper} {d0 d1 d2 d3 d4 d5 q : Nat} {m : Operand} {t t'' kt kt' et t0 t1 id j off ty n : Nat} {ow eq : Bool} {l zz : List SC} {fs : List FD} {f : Stop → Int} {y : Stop}
    (hT : TabOk P T) (hops : opsA.toList = [o0, o1, o2, o3, o4, o5, o6]) (s0 : asMove o0 = some (d0, m)) (s1 : asLoad o1 = some (d1, kt, q)) (s2 : asLook o2 = some (d2, t, d0, d1)) (s3 : asInc o3 = some (d3, d2))
    (s4 : asEntry o4 = some (d4, t, d0, d1)) (s5 : asStamp o5 = some (d5, d4)) (s6 : asEStore o6 = some (t'', d0, d5, d3)) (htm : tmpsOk m q d0 d1 d2 d3 d4 d5 = true)
    (hp2 : depOk o2 [0, 1] = true) (hp3 : depOk o3 [2] = true) (hp4 : depOk o4 [0, 1] = true) (hp5 : depOk o5 [4] = true) (hp6 : depOk o6 [0, 1, 2, 3, 4, 5] = true) (hed : edgesAll 0 [o0, o1, o2, o3, o4, o5, o6] = true)
    (hmt : look T t = some (.mp .stop kt' et t0 t1)) (hm0 : ev σ.e m = .w (.c (.m id))) (hq0 : nth .u σ.e q = .w (.c (.p j off))) (hhi : hget σ.H id = .map .stop f) (hhj : hget σ.H j = .cells ow ty l) (hkt : look T kt = some (.st n fs zz eq)) (hle : off + n ≤ len l)
    (hy : keyC .stop (.w (.g (tk n (dr off l)))) = some y) (hds : [d0, d1, d2, d3, d4, d5].all (fun d => Nat.blt d (len σ.e)) = true) (hk : k ⟨maskE [d0, d1, d2, d3, d4, d5] σ.e, setAt σ.H id (.map .stop (upF f y (wrap (f y + 1)))), σ.n⟩)
    (hS : Sim B w0 F σ a w) (hQ : ∀ σ a w, k σ → Sim B w0 F σ a w → Q .normal a w) : wpAny P .any opsA Q opsA.size (Array.replicate opsA.size false) a { w with drawn := w.drawn + 1 } := by
  obtain ⟨hdef, hsz, ρ, φ, hm, hd, hF⟩ := hS
  obtain ⟨hu, hz, hK⟩ := td_mp hT hmt
  obtain ⟨b, hρ, hφ, _⟩ := mem_map hm hhi
  obtain ⟨p0, q0, g0⟩ := asMove_spec s0
  obtain ⟨p1, q1, g1⟩ := asLoad_spec s1
  obtain ⟨p2, q2, g2⟩ := asLook_spec s2
  obtain ⟨p3, ⟨tt3, yt3, q3⟩, g3⟩ := asInc_spec s3
  obtain ⟨p4, q4, g4⟩ := asEntry_spec s4
  obtain ⟨p5, q5, g5⟩ := asStamp_spec s5
  obtain ⟨p6, q6, g6⟩ := asEStore_spec s6
  rw [len_eq] at hle
  simp only [List.all_cons, List.all_nil, Bool.and_true, Bool.and_eq_true, len_eq, Nat.blt_eq] at hds
  have sl := tmpsOk_spec htm
  obtain ⟨l0, l1, l2, l3, l4, l5⟩ := hds
  have hid : id < σ.n := hm.used id (by rw [hhi]; rfl)
  have size7 : opsA.size = 7 := by rw [← Array.length_toList, hops]; rfl
  have slot : ∀ (a' : Act) (d : Nat) (v : Value), a'.tmps.size = a.tmps.size → d < σ.e.length → ∀ t : Nat, (a'.put (some d) v).tmps.getD t undef = if d = t then v else a'.tmps.getD t undef := by
    intro a' d v h1 h2 t
    rw [put_getD]
    by_cases e : d = t
    · rw [if_pos ⟨e, by omega⟩, if_pos e]
    · rw [if_neg (by simp [e]), if_neg e]
  have turn : ∀ {w' : World} {f' g : Stop → Int} {H : Nat → HB} {o' : Obj}, Mem B w0 ρ φ (· < σ.n) H w' → H id = .map .stop f' → MapAt (setB w' b o') b .stop g → (∃ o, w'.heap[b]? = some o) → Mem B w0 ρ φ (· < σ.n) (upd H id (.map .stop g)) (setB w' b o') := by
    intro w' f' g H o' hM hH hA hb
    have := mem_turnMap hM hH hρ hφ hA hb
    rw [upd_self, upd_self] at this
    exact this.mono fun x hx => by
      rcases hx with hx | rfl
      · exact hx
      · exact hid
  have same : upd (hget σ.H) id (.map .stop f) = hget σ.H := by rw [← hhi]; exact upd_self _ _
  have mapAt : ∀ {w' : World}, Mem B w0 ρ φ (· < σ.n) (hget σ.H) w' → MapAt w' b .stop f := by
    intro w' hM
    obtain ⟨b', hρ', _, hA⟩ := mem_map hM hhi
    rw [hρ] at hρ'
    injection hρ' with hρ'
    injection hρ' with hρ'
    subst hρ'
    exact hA
  have hkq : ∀ {a' : Act}, (∀ t : Nat, t ∉ [d0, d1, d2, d3, d4, d5] → a'.tmps.getD t undef = a.tmps.getD t undef) → DenV ρ (.w (.c (.p j off))) (a'.eval (.tmp q)) ∧ a'.eval m = .map (some b) := by
    intro a' ha
    constructor
    · have h1 := (hd q).1
      rw [hq0] at h1
      have : a'.eval (.tmp q) = a.tmps.getD q undef := ha q sl.q
      rw [this]
      exact h1
    · have h1 := ev_den (fun t => (hd t).1) m
      rw [hm0] at h1
      have h2 : a.eval m = .map (some b) := h1.1.trans hρ
      rw [← h2]
      cases m with
      | tmp x => exact ha x (sl.m x rfl)
      | const v => rfl
      | func g => rfl
      | global g => rfl
  let R : (Nat → Bool) → Act → World → Prop := fun S a' w' => a'.defers = [] ∧ a'.tmps.size = a.tmps.size ∧ (∀ t : Nat, t ∉ [d0, d1, d2, d3, d4, d5] → a'.tmps.getD t undef = a.tmps.getD t undef) ∧
    (S 0 = true → a'.tmps.getD d0 undef = .map (some b)) ∧ (S 1 = true → a'.tmps.getD d1 undef = kval .stop y) ∧ (S 2 = true → a'.tmps.getD d2 undef = .int .i64 (f y)) ∧ (S 3 = true → a'.tmps.getD d3 undef = .int .i64 (wrap (f y + 1))) ∧
    (S 6 = false → Mem B w0 ρ φ (· < σ.n) (hget σ.H) w' ∧ (S 4 = true → ∃ st : Nat, a'.tmps.getD d4 undef = .tuple #[.int .i64 (f y), goInt (st : Nat)] ∧ EntAt w' b .stop y st ∧ (S 5 = true → a'.tmps.getD d5 undef = goInt (st : Nat))) ∧ (S 5 = true → S 4 = true)) ∧
    (S 6 = true → Mem B w0 ρ φ (· < σ.n) (upd (hget σ.H) id (.map .stop (upF f y (wrap (f y + 1))))) w' ∧ S 0 = true ∧ S 1 = true ∧ S 2 = true ∧ S 3 = true ∧ S 4 = true ∧ S 5 = true)
  refine draw_gen R ?_ ?_ ?_ opsA.size _ a _ (by simp) (by rw [show (Array.replicate opsA.size false).toList = List.replicate opsA.size false by simp]; simp) ?_
  · intro i o ho e he hb
    have := edgesAll_lt hed i o (by rw [← hops]; simpa using ho) e he hb
    omega
  · intro S i o a' w' ho hSi hdep hR
    obtain ⟨r1, r2, r3, r4, r5, r6, r7, r8, r9⟩ := hR
    have ho' : [o0, o1, o2, o3, o4, o5, o6][i]? = some o := by rw [← hops]; simpa using ho
    have dep : ∀ {l : List Nat}, depOk o l = true → ∀ j ∈ l, S j = true := by
      intro l hl j hj
      obtain ⟨e, he, hb, rfl⟩ := depOk_spec hl j hj
      exact hdep e he hb
    have h6 : i ≠ 6 → S 6 = false := by
      intro hi
      cases h : S 6 with
      | false => rfl
      | true =>
        obtain ⟨_, u0, u1, u2, u3, u4, u5⟩ := r9 h
        have hlt : i < 7 := by rw [← size7]; exact (Array.getElem?_eq_some_iff.1 ho).1
        match i, hlt with
        | 0, _ => rw [u0] at hSi; cases hSi
        | 1, _ => rw [u1] at hSi; cases hSi
        | 2, _ => rw [u2] at hSi; cases hSi
        | 3, _ => rw [u3] at hSi; cases hSi
        | 4, _ => rw [u4] at hSi; cases hSi
        | 5, _ => rw [u5] at hSi; cases hSi
        | 6, _ => exact absurd rfl hi
    obtain ⟨kq, km⟩ := hkq r3
    have hlt : i < 7 := by rw [← size7]; exact (Array.getElem?_eq_some_iff.1 ho).1
    match i, hlt with
    | 0, _ =>
      simp only [List.getElem?_cons_zero, Option.some.injEq] at ho'
      subst ho'
      obtain ⟨hM, hE, h54⟩ := r8 (h6 (by decide))
      refine wpOp_value ho g0 (v := .map (some b)) (w' := w') (by rw [run_exec, p0, q0]; simp [execOp, km]) ?_
      rw [p0]
      refine ⟨by rw [put_defers]; exact r1, by rw [put_tmps_size]; exact r2, fun t ht => ?_, fun _ => ?_, fun h => ?_, fun h => ?_, fun h => ?_, fun _ => ⟨hM, fun h => ?_, fun h => ?_⟩, fun h => ?_⟩
      · rw [slot _ _ _ r2 l0, if_neg (by rintro rfl; simp at ht)]; exact r3 t ht
      · rw [slot _ _ _ r2 l0, if_pos rfl]
      · rw [more_ne (by decide)] at h; rw [slot _ _ _ r2 l0, if_neg sl.n01]; exact r5 h
      · rw [more_ne (by decide)] at h; rw [slot _ _ _ r2 l0, if_neg sl.n02]; exact r6 h
      · rw [more_ne (by decide)] at h; rw [slot _ _ _ r2 l0, if_neg sl.n03]; exact r7 h
      · rw [more_ne (by decide)] at h
        obtain ⟨st, x1, x2, x3⟩ := hE h
        refine ⟨st, by rw [slot _ _ _ r2 l0, if_neg sl.n04]; exact x1, x2, fun h => ?_⟩
        rw [more_ne (by decide)] at h; rw [slot _ _ _ r2 l0, if_neg sl.n05]; exact x3 h
      · rw [more_ne (by decide)] at h ⊢; exact h54 h
      · rw [more_ne (by decide), h6 (by decide)] at h; cases h
    | 1, _ =>
      simp only [List.getElem?_cons_succ, List.getElem?_cons_zero, Option.some.injEq] at ho'
      subst ho'
      obtain ⟨hM, hE, h54⟩ := r8 (h6 (by decide))
      obtain ⟨u, hr, hu'⟩ := run_load_st (x := .tmp q) (ev := a'.eval) hT hkt hM hhj hle kq (some d1) o1.type o1.pos o1.after o1.guard
      have huv := keyC_den hy hu'
      refine wpOp_value ho g1 (v := u) (w' := w') (by rw [run_exec, p1, q1]; exact hr) ?_
      rw [p1]
      refine ⟨by rw [put_defers]; exact r1, by rw [put_tmps_size]; exact r2, fun t ht => ?_, fun h => ?_, fun _ => ?_, fun h => ?_, fun h => ?_, fun _ => ⟨hM, fun h => ?_, fun h => ?_⟩, fun h => ?_⟩
      · rw [slot _ _ _ r2 l1, if_neg (by rintro rfl; simp at ht)]; exact r3 t ht
      · rw [more_ne (by decide)] at h; rw [slot _ _ _ r2 l1, if_neg sl.n01.symm]; exact r4 h
      · rw [slot _ _ _ r2 l1, if_pos rfl]; exact huv
      · rw [more_ne (by decide)] at h; rw [slot _ _ _ r2 l1, if_neg sl.n12]; exact r6 h
      · rw [more_ne (by decide)] at h; rw [slot _ _ _ r2 l1, if_neg sl.n13]; exact r7 h
      · rw [more_ne (by decide)] at h
        obtain ⟨st, x1, x2, x3⟩ := hE h
        refine ⟨st, by rw [slot _ _ _ r2 l1, if_neg sl.n14]; exact x1, x2, fun h => ?_⟩
        rw [more_ne (by decide)] at h; rw [slot _ _ _ r2 l1, if_neg sl.n15]; exact x3 h
      · rw [more_ne (by decide)] at h ⊢; exact h54 h
      · rw [more_ne (by decide), h6 (by decide)] at h; cases h
    | 2, _ =>
      simp only [List.getElem?_cons_succ, List.getElem?_cons_zero, Option.some.injEq] at ho'
      subst ho'
      obtain ⟨hM, hE, h54⟩ := r8 (h6 (by decide))
      have hrun := look_run hu hz hK (mapAt hM) y
      have v0 : a'.eval (.tmp d0) = .map (some b) := r4 (dep hp2 0 (by simp))
      have v1 : a'.eval (.tmp d1) = kval .stop y := r5 (dep hp2 1 (by simp))
      refine wpOp_value ho g2 (v := .int .i64 (f y)) (w' := w') (by rw [run_exec, p2, q2]; simp only [execOp, v0, v1]; simp [hrun]) ?_
      rw [p2]
      refine ⟨by rw [put_defers]; exact r1, by rw [put_tmps_size]; exact r2, fun t ht => ?_, fun h => ?_, fun h => ?_, fun _ => ?_, fun h => ?_, fun _ => ⟨hM, fun h => ?_, fun h => ?_⟩, fun h => ?_⟩
      · rw [slot _ _ _ r2 l2, if_neg (by rintro rfl; simp at ht)]; exact r3 t ht
      · rw [more_ne (by decide)] at h; rw [slot _ _ _ r2 l2, if_neg sl.n02.symm]; exact r4 h
      · rw [more_ne (by decide)] at h; rw [slot _ _ _ r2 l2, if_neg sl.n12.symm]; exact r5 h
      · rw [slot _ _ _ r2 l2, if_pos rfl]
      · rw [more_ne (by decide)] at h; rw [slot _ _ _ r2 l2, if_neg sl.n23]; exact r7 h
      · rw [more_ne (by decide)] at h
        obtain ⟨st, x1, x2, x3⟩ := hE h
        refine ⟨st, by rw [slot _ _ _ r2 l2, if_neg sl.n24]; exact x1, x2, fun h => ?_⟩
        rw [more_ne (by decide)] at h; rw [slot _ _ _ r2 l2, if_neg sl.n25]; exact x3 h
      · rw [more_ne (by decide)] at h ⊢; exact h54 h
      · rw [more_ne (by decide), h6 (by decide)] at h; cases h
    | 3, _ =>
      simp only [List.getElem?_cons_succ, List.getElem?_cons_zero, Option.some.injEq] at ho'
      subst ho'
      obtain ⟨hM, hE, h54⟩ := r8 (h6 (by decide))
      have v2 : a'.eval (.tmp d2) = .int .i64 (f y) := r6 (dep hp3 2 (by simp))
      have v3 : a'.eval (.const (.int .i64 1)) = .int .i64 1 := rfl
      refine wpOp_value ho g3 (v := .int .i64 (wrap (f y + 1))) (w' := w') (by rw [run_exec, p3, q3]; simp only [execOp, v2, v3]; simp [eqGuard, binOp, Op.intArith, Op.intCmp, Op.intDiv, wrap]) ?_
      rw [p3]
      refine ⟨by rw [put_defers]; exact r1, by rw [put_tmps_size]; exact r2, fun t ht => ?_, fun h => ?_, fun h => ?_, fun h => ?_, fun _ => ?_, fun _ => ⟨hM, fun h => ?_, fun h => ?_⟩, fun h => ?_⟩
      · rw [slot _ _ _ r2 l3, if_neg (by rintro rfl; simp at ht)]; exact r3 t ht
      · rw [more_ne (by decide)] at h; rw [slot _ _ _ r2 l3, if_neg sl.n03.symm]; exact r4 h
      · rw [more_ne (by decide)] at h; rw [slot _ _ _ r2 l3, if_neg sl.n13.symm]; exact r5 h
      · rw [more_ne (by decide)] at h; rw [slot _ _ _ r2 l3, if_neg sl.n23.symm]; exact r6 h
      · rw [slot _ _ _ r2 l3, if_pos rfl]
      · rw [more_ne (by decide)] at h
        obtain ⟨st, x1, x2, x3⟩ := hE h
        refine ⟨st, by rw [slot _ _ _ r2 l3, if_neg sl.n34]; exact x1, x2, fun h => ?_⟩
        rw [more_ne (by decide)] at h; rw [slot _ _ _ r2 l3, if_neg sl.n35]; exact x3 h
      · rw [more_ne (by decide)] at h ⊢; exact h54 h
      · rw [more_ne (by decide), h6 (by decide)] at h; cases h
    | 4, _ =>
      simp only [List.getElem?_cons_succ, List.getElem?_cons_zero, Option.some.injEq] at ho'
      subst ho'
      obtain ⟨hM, hE, h54⟩ := r8 (h6 (by decide))
      have v0 : a'.eval (.tmp d0) = .map (some b) := r4 (dep hp4 0 (by simp))
      have v1 : a'.eval (.tmp d1) = kval .stop y := r5 (dep hp4 1 (by simp))
      obtain ⟨o, o', st, hbo, hrun, hA, hEnt⟩ := entry_run hu hz hK (mapAt hM) y
      have hM' := turn hM hhi hA ⟨o, hbo⟩
      rw [same] at hM'
      refine wpOp_value ho g4 (v := .tuple #[.int .i64 (f y), goInt (st : Nat)]) (w' := setB w' b o') (by rw [run_exec, p4, q4]; simp only [execOp, v0, v1]; simp [hrun]) ?_
      rw [p4]
      refine ⟨by rw [put_defers]; exact r1, by rw [put_tmps_size]; exact r2, fun t ht => ?_, fun h => ?_, fun h => ?_, fun h => ?_, fun h => ?_, fun _ => ⟨hM', fun _ => ⟨st, ?_, hEnt, fun h => ?_⟩, fun _ => more_same⟩, fun h => ?_⟩
      · rw [slot _ _ _ r2 l4, if_neg (by rintro rfl; simp at ht)]; exact r3 t ht
      · rw [more_ne (by decide)] at h; rw [slot _ _ _ r2 l4, if_neg sl.n04.symm]; exact r4 h
      · rw [more_ne (by decide)] at h; rw [slot _ _ _ r2 l4, if_neg sl.n14.symm]; exact r5 h
      · rw [more_ne (by decide)] at h; rw [slot _ _ _ r2 l4, if_neg sl.n24.symm]; exact r6 h
      · rw [more_ne (by decide)] at h; rw [slot _ _ _ r2 l4, if_neg sl.n34.symm]; exact r7 h
      · rw [slot _ _ _ r2 l4, if_pos rfl]
      · rw [more_ne (by decide)] at h
        have := h54 h
        rw [hSi] at this
        cases this
      · rw [more_ne (by decide), h6 (by decide)] at h; cases h
    | 5, _ =>
      simp only [List.getElem?_cons_succ, List.getElem?_cons_zero, Option.some.injEq] at ho'
      subst ho'
      obtain ⟨hM, hE, h54⟩ := r8 (h6 (by decide))
      obtain ⟨st, x1, x2, x3⟩ := hE (dep hp5 4 (by simp))
      have v4 : a'.eval (.tmp d4) = .tuple #[.int .i64 (f y), goInt (st : Nat)] := x1
      refine wpOp_value ho g5 (v := goInt (st : Nat)) (w' := w') (by rw [run_exec, p5, q5]; simp only [execOp, v4]; simp [Instr.extract]) ?_
      rw [p5]
      refine ⟨by rw [put_defers]; exact r1, by rw [put_tmps_size]; exact r2, fun t ht => ?_, fun h => ?_, fun h => ?_, fun h => ?_, fun h => ?_, fun _ => ⟨hM, fun h => ⟨st, ?_, x2, fun _ => ?_⟩, fun _ => ?_⟩, fun h => ?_⟩
      · rw [slot _ _ _ r2 l5, if_neg (by rintro rfl; simp at ht)]; exact r3 t ht
      · rw [more_ne (by decide)] at h; rw [slot _ _ _ r2 l5, if_neg sl.n05.symm]; exact r4 h
      · rw [more_ne (by decide)] at h; rw [slot _ _ _ r2 l5, if_neg sl.n15.symm]; exact r5 h
      · rw [more_ne (by decide)] at h; rw [slot _ _ _ r2 l5, if_neg sl.n25.symm]; exact r6 h
      · rw [more_ne (by decide)] at h; rw [slot _ _ _ r2 l5, if_neg sl.n35.symm]; exact r7 h
      · rw [slot _ _ _ r2 l5, if_neg sl.n45.symm]; exact x1
      · rw [slot _ _ _ r2 l5, if_pos rfl]
      · rw [more_ne (by decide)]; exact dep hp5 4 (by simp)
      · rw [more_ne (by decide), h6 (by decide)] at h; cases h
    | 6, _ =>
      simp only [List.getElem?_cons_succ, List.getElem?_cons_zero, Option.some.injEq] at ho'
      subst ho'
      obtain ⟨hM, hE, h54⟩ := r8 hSi
      have dep6 := fun j hj => dep hp6 j hj
      obtain ⟨st, x1, x2, x3⟩ := hE (dep6 4 (by simp))
      have v0 : a'.eval (.tmp d0) = .map (some b) := r4 (dep6 0 (by simp))
      have v5 : a'.eval (.tmp d5) = goInt (st : Nat) := x3 (dep6 5 (by simp))
      have v3 : a'.eval (.tmp d3) = .int .i64 (wrap (f y + 1)) := r7 (dep6 3 (by simp))
      obtain ⟨o, o', hbo, hrun, hA⟩ := estore_run (P := P) (t := t'') (mapAt hM) x2 (wrap (f y + 1))
      have hM' := turn hM hhi hA ⟨o, hbo⟩
      refine wpOp_skip ho g6 (w' := setB w' b o') (by rw [run_exec, p6, q6]; simp only [execOp, v0, v5, v3]; simp [hrun]) ?_
      rw [p6]
      refine ⟨r1, r2, r3, fun _ => r4 (dep6 0 (by simp)), fun _ => r5 (dep6 1 (by simp)), fun _ => r6 (dep6 2 (by simp)), fun _ => r7 (dep6 3 (by simp)), fun h => ?_, fun _ => ⟨hM', ?_, ?_, ?_, ?_, ?_, ?_⟩⟩
      · rw [more_same] at h; cases h
      · rw [more_ne (by decide)]; exact dep6 0 (by simp)
      · rw [more_ne (by decide)]; exact dep6 1 (by simp)
      · rw [more_ne (by decide)]; exact dep6 2 (by simp)
      · rw [more_ne (by decide)]; exact dep6 3 (by simp)
      · rw [more_ne (by decide)]; exact dep6 4 (by simp)
      · rw [more_ne (by decide)]; exact dep6 5 (by simp)
  · intro S a' w' hall hR
    obtain ⟨r1, r2, r3, _, _, _, _, _, r9⟩ := hR
    have hM := (r9 (hall 6 (by omega))).1
    refine hQ _ a' w' hk ⟨r1, by simp only [maskE_length]; omega, ρ, φ, ?_, fun t => ?_, hF⟩
    · have : hget (setAt σ.H id (.map .stop (upF f y (wrap (f y + 1))))) = upd (hget σ.H) id (.map .stop (upF f y (wrap (f y + 1)))) := hget_setAt _ _ _
      simp only
      rw [this]
      exact hM
    · by_cases ht : t ∈ [d0, d1, d2, d3, d4, d5]
      · rw [(maskE_nth _ _ _).1 ht]
        exact ⟨trivial, fun _ h => h.elim⟩
      · rw [(maskE_nth _ _ _).2 ht, r3 t ht]
        exact hd t
  · have hnone : ∀ i, (Array.replicate opsA.size false).getD i false = false := by
      intro i
      by_cases hi : i < opsA.size <;> simp [hi]
    have hm' : Mem B w0 ρ φ (· < σ.n) (hget σ.H) { w with drawn := w.drawn + 1 } := hm.next ⟨rfl, rfl, rfl, Nat.le_refl _, fun _ _ => rfl⟩
    exact ⟨hdef, rfl, fun _ _ => rfl, fun h => Bool.noConfusion (h.symm.trans (hnone _)), fun h => Bool.noConfusion (h.symm.trans (hnone _)), fun h => Bool.noConfusion (h.symm.trans (hnone _)), fun h => Bool.noConfusion (h.symm.trans (hnone _)), fun _ => ⟨hm', fun h => Bool.noConfusion (h.symm.trans (hnone _)), fun h => Bool.noConfusion (h.symm.trans (hnone _))⟩, fun h => Bool.noConfusion (h.symm.trans (hnone _))⟩

theorem inc_sound {opsA : Array Oper} {Q : Exit → Act → World → Prop} {σ σ' : St} {mi : MI} {a : Act} {w : World} {k : St → Prop} (hT : TabOk P T) (hmi : mapInc opsA.toList = some mi) (hst : incSt T σ mi = some σ') (hk : k σ') (hS : Sim B w0 F σ a w)
    (hQ : ∀ σ a w, k σ → Sim B w0 F σ a w → Q .normal a w) : wpAny P .any opsA Q opsA.size (Array.replicate opsA.size false) a { w with drawn := w.drawn + 1 } := by
  unfold mapInc at hmi
  split at hmi
  · rename_i o0 o1 o2 o3 o4 o5 o6 hops
    split at hmi
    · rename_i d0 m d1 kt q d2 t x0 x1 d3 x2 s0 s1 s2 s3
      split at hmi
      · rename_i d4 t' y0 y1 d5 y4 t'' z0 z5 z3 s4 s5 s6
        split at hmi
        · rename_i hb
          injection hmi with hmi
          subst hmi
          simp only [Bool.and_eq_true] at hb
          obtain ⟨⟨⟨⟨⟨⟨⟨hb, htm⟩, hp2⟩, hp3⟩, hp4⟩, hp5⟩, hp6⟩, hed⟩ := hb
          obtain ⟨⟨⟨⟨⟨⟨⟨⟨⟨e1, e2⟩, e3⟩, e4⟩, e5⟩, e6⟩, e7⟩, e8⟩, e9⟩, e10⟩ := hb
          obtain rfl := Nat.eq_of_beq_eq_true e1
          obtain rfl := Nat.eq_of_beq_eq_true e2
          obtain rfl := Nat.eq_of_beq_eq_true e3
          obtain rfl := Nat.eq_of_beq_eq_true e4
          obtain rfl := Nat.eq_of_beq_eq_true e5
          obtain rfl := Nat.eq_of_beq_eq_true e6
          obtain rfl := Nat.eq_of_beq_eq_true e7
          obtain rfl := Nat.eq_of_beq_eq_true e8
          obtain rfl := Nat.eq_of_beq_eq_true e9
          obtain rfl := Nat.eq_of_beq_eq_true e10
          unfold incSt at hst
          simp only at hst
          split at hst
          · rename_i kt' et t0 t1 id j off hmt hm0 hq0
            split at hst
            · rename_i f ow ty l n fs zz eq hhi hhj hkt
              split at hst
              · rename_i y hle hy hds
                injection hst with hst
                subst hst
                exact inc_main hT hops s0 s1 s2 s3 s4 s5 s6 htm hp2 hp3 hp4 hp5 hp6 hed hmt hm0 hq0 hhi hhj hkt (Nat.le_of_ble_eq_true hle) hy hds hk hS hQ
              · cases hst
            · cases hst
          · cases hst
        · cases hmi
      · cases hmi
    · cases hmi
  · cases hmi
end
end Go.Eng

/- Conditions are sound: code, loops. -/
set_option linter.unusedVariables false
set_option linter.unusedSimpArgs false
namespace Go.Eng
open Go Go.RowKit

def HV : List VS → Type
  | [] => Unit
  | v :: l => v.T × HV l
def appO {R : Type} : (vs : List VS) → Over R vs → HV vs → R
  | [], r, _ => r
  | _ :: vs, f, x => appO vs (f x.1) x.2
noncomputable def havs (τ : St) : (vs : List VS) → HV vs → St
  | [], _ => τ
  | v :: vs, x => havs (hav τ v x.1) vs x.2
theorem allV_spec {R : Type} {k : St → R → Prop} : ∀ {vs : List VS} {τ : St} {f : Over R vs}, allV τ vs f k → ∀ x, k (havs τ vs x) (appO vs f x)
  | [], _, _, h, _ => h
  | v :: vs, τ, f, h, x => allV_spec (vs := vs) (h x.1) x.2
theorem oneV_spec {R : Type} {k : St → R → Prop} : ∀ {vs : List VS} {τ σ : St} {f : Over R vs}, oneV τ σ vs f k → ∃ x, k (havs τ vs x) (appO vs f x)
  | [], _, _, _, h => ⟨(), h⟩
  | v :: vs, τ, σ, f, h => by
    unfold oneV at h
    split at h
    · rename_i x _
      obtain ⟨y, hy⟩ := oneV_spec (vs := vs) h
      exact ⟨(x, y), hy⟩
    · cases h
theorem appO_pair {R S : Type} : ∀ {vs : List VS} {f : Over R vs} {g : Over S vs} (x : HV vs), appO vs (pair vs f g) x = (appO vs f x, appO vs g x)
  | [], _, _, _ => rfl
  | _ :: vs, f, g, x => appO_pair (vs := vs) x.2
/-- The values at which a state is looked at do not depend on what is asked. -/
noncomputable def vals (σ : St) : (vs : List VS) → Option (HV vs)
  | [] => some ()
  | v :: vs => match ext σ v, vals σ vs with
    | some x, some y => some (x, y)
    | _, _ => none
theorem oneV_vals {R : Type} {k : St → R → Prop} : ∀ {vs : List VS} {τ σ : St} {f : Over R vs}, oneV τ σ vs f k → ∃ x, vals σ vs = some x ∧ k (havs τ vs x) (appO vs f x)
  | [], _, _, _, h => ⟨(), rfl, h⟩
  | v :: vs, τ, σ, f, h => by
    unfold oneV at h
    split at h
    · rename_i x hx
      obtain ⟨y, hv, hy⟩ := oneV_vals (vs := vs) h
      exact ⟨(x, y), by simp [vals, hx, hv], hy⟩
    · cases h
theorem exists_min {α : Type} (p : α → Prop) (f : α → Nat) (h : ∃ x, p x) : ∃ x, p x ∧ ∀ y, p y → f x ≤ f y := by
  obtain ⟨x, hx⟩ := h
  have key : ∀ n x, p x → f x = n → ∃ x, p x ∧ ∀ y, p y → f x ≤ f y := by
    intro n
    induction n using Nat.strongRecOn with
    | _ n ih =>
      intro x hx hn
      by_cases h : ∃ y, p y ∧ f y < n
      · obtain ⟨y, hy, hlt⟩ := h
        exact ih (f y) hlt y hy rfl
      · refine ⟨x, hx, fun y hy => ?_⟩
        by_cases hh : f x ≤ f y
        · exact hh
        · exact absurd ⟨y, hy, by omega⟩ h
  exact key _ x hx rfl

section
variable {P : Program} {T : Tab} {B : Nat} {w0 : Base} {F : Fr}

theorem loop_exists {c : Code} {Q : Exit → Act → World → Prop} {α : Type} (G : α → Act → World → Prop) (μ : α → Nat) {a : Act} {w : World} (h0 : ∃ x, G x a w)
    (round : ∀ x a w, G x a w → c.wp P (Exit.then (fun a' w' => ∃ x', G x' a' w' ∧ μ x' < μ x) Q) a w) : (Code.loop c).wp P Q a w := by
  classical
  let m : Act → World → Nat := fun a w => if h : ∃ x, G x a w then μ (Classical.choose (exists_min (fun x => G x a w) μ h)) else 0
  refine wp_loop (fun a w => ∃ x, G x a w) m h0 fun a w h => ?_
  have hs := Classical.choose_spec (exists_min (fun x => G x a w) μ h)
  refine wp_mono (round _ a w hs.1) fun e a' w' he => ?_
  cases e with
  | normal =>
    obtain ⟨x', hx', hlt⟩ := he
    refine ⟨⟨x', hx'⟩, ?_⟩
    have h' : ∃ x, G x a' w' := ⟨x', hx'⟩
    have hs' := Classical.choose_spec (exists_min (fun x => G x a' w') μ h')
    simp only [m, dif_pos h, dif_pos h']
    exact Nat.lt_of_le_of_lt (hs'.2 x' hx') hlt
  | _ => exact he

theorem okFit_spec {o : Option (Option Prop × Srcs)} {k : Srcs → Prop} (h : okFit o k) : ∃ p m, o = some (p, m) ∧ holdsO p ∧ k m := by
  unfold okFit at h
  split at h
  · rename_i p m
    obtain ⟨h1, h2⟩ := conj_iff.1 h
    exact ⟨p, m, rfl, h1, h2⟩
  · cases h

structure KOk (B : Nat) (w0 : Base) (F : Fr) (K : Kont) (Q : Exit → Act → World → Prop) : Prop where
  norm : ∀ σ a w, K.norm σ → Sim B w0 F σ a w → Q .normal a w
  ret : ∀ σ a w, K.ret σ → Sim B w0 F σ a w → Q .ret a w
  ex : ∀ i k, lk K.ex i = some k → ∀ σ a w, k σ → Sim B w0 F σ a w → Q (.exit i) a w

theorem cond_lit {σ : St} {a : Act} {w : World} {c : Operand} {x y : Bool} (hS : Sim B w0 F σ a w) (hc : ev σ.e c = .w (.c (.b x))) (hx : x = y) : Sim B w0 F (lit σ c y) a w := by
  cases c with
  | tmp t => exact hS.lit hc hx
  | const v => exact hS
  | func f => exact hS
  | global g => exact hS

theorem vcCode_sound {C : Cons} {I : Inl} {A : List (Nat × LA)} (hT : TabOk P T) (hC : ConsOk P C) (hI : InlOk P B w0 I) (hP : P.follows .mixedOrders = true) : ∀ (c : Code) (K : Kont) (Q : Exit → Act → World → Prop) (σ : St) (a : Act) (w : World),
    KOk B w0 F K Q → vcCode T C I A F.x c K σ → Sim B w0 F σ a w → c.wp P Q a w
  | .skip, K, Q, σ, a, w, hK, h, hS => wp_skip (hK.norm σ a w h hS)
  | .seq x y, K, Q, σ, a, w, hK, h, hS => by
    have plain : vcCode T C I A F.x x ⟨fun σ => vcCode T C I A F.x y K σ, K.ret, K.ex⟩ σ → (Code.seq x y).wp P Q a w := fun h => by
      refine wp_seq (vcCode_sound hT hC hI hP x ⟨fun σ => vcCode T C I A F.x y K σ, K.ret, K.ex⟩ _ σ a w ⟨?_, hK.ret, hK.ex⟩ h hS)
      exact fun σ a w h hS => vcCode_sound hT hC hI hP y K Q σ a w hK h hS
    simp only [vcCode] at h
    split at h
    · split at h
      · rename_i la _
        unfold joinVC at h
        simp only at h
        obtain ⟨inv, h⟩ := h
        generalize hτ : St.mk (keepE (app (varSlots la.vars) la.keep) 0 σ.e) σ.H σ.n = τ at h
        obtain ⟨x0, hv0, h⟩ := oneV_vals h
        split at h
        · rename_i p m hfit
          obtain ⟨h1, h2⟩ := h
          have hone := fun Q' hq => vcCode_sound hT hC hI hP x _ Q' σ a w hq h1 hS
          refine wp_seq (hone _ ⟨?_, hK.ret, hK.ex⟩)
          intro σ' a' w' hk hS'
          obtain ⟨x', hx'⟩ := oneV_spec hk
          obtain ⟨p', m', hfit', hp', hc'⟩ := okFit_spec hx'
          split at hc'
          · rename_i hcov
            exact vcCode_sound hT hC hI hP y K Q _ a' w' hK (allV_spec h2 x' hc') ((fit_sound hS' hfit' hp').heap fun i => (keepH_cover hcov i).symm)
          · cases hc'
        · cases h
      · exact plain h
    · exact plain h
  | .cond c x y, K, Q, σ, a, w, hK, h, hS => by
    obtain ⟨ρ, φ, hm, hd, _⟩ := hS.mem
    have hden := ev_den (fun t => (hd t).1) c
    simp only [vcCode] at h
    split at h
    · rename_i hc
      rw [hc] at hden
      exact wp_cond_true (den_l hden) (vcCode_sound hT hC hI hP x K Q σ a w hK h hS)
    · rename_i hc
      rw [hc] at hden
      exact wp_cond_false (den_l hden) (vcCode_sound hT hC hI hP y K Q σ a w hK h hS)
    · rename_i b hc
      rw [hc] at hden
      refine wp_cond_split (den_b hden) (fun hb => ?_) (fun hb => ?_)
      · exact vcCode_sound hT hC hI hP x K Q _ a w hK (h.1 hb) (cond_lit hS hc hb)
      · exact vcCode_sound hT hC hI hP y K Q _ a w hK (h.2 hb) (cond_lit hS hc hb)
    · cases h
  | .block i c, K, Q, σ, a, w, hK, h, hS => by
    refine wp_block (vcCode_sound hT hC hI hP c ⟨K.norm, K.ret, (i, K.norm) :: K.ex⟩ _ σ a w ⟨hK.norm, hK.ret, ?_⟩ h hS)
    intro i' k hk σ a w hk' hS'
    rw [lk_cons] at hk
    split at hk
    · rename_i e
      injection hk with hk
      subst e; subst hk
      simp only [Exit.inBlock, if_true]
      exact hK.norm σ a w hk' hS'
    · rename_i e
      simp only [Exit.inBlock, if_neg (Ne.symm e)]
      exact hK.ex i' k hk σ a w hk' hS'
  | .exit i, K, Q, σ, a, w, hK, h, hS => by
    simp only [vcCode] at h
    split at h
    · rename_i k hk
      exact wp_exit (hK.ex i k hk σ a w h hS)
    · cases h
  | .loop c, K, Q, σ, a, w, hK, h, hS => by
    simp only [vcCode] at h
    split at h
    · split at h
      · rename_i la _
        unfold loopVC at h
        simp only at h
        obtain ⟨inv, μ, h0, h1⟩ := h
        generalize hτ : St.mk (keepE (app (varSlots la.vars) la.keep) 0 σ.e) σ.H σ.n = τ at h0 h1
        obtain ⟨x0, hv0, h0⟩ := oneV_vals h0
        obtain ⟨x1, hv1, h1⟩ := oneV_vals h1
        rw [hv0] at hv1
        injection hv1 with hv1
        subst hv1
        obtain ⟨p, m, hfit, hp, hinv⟩ := okFit_spec h0
        rw [hfit] at h1
        simp only at h1
        refine loop_exists (fun x a w => appO la.vars inv x ∧ Sim B w0 F (cut m (havs τ la.vars x)) a w) (fun x => appO la.vars μ x) ⟨x0, hinv, fit_sound hS hfit hp⟩ fun x a w hx => ?_
        have hb := allV_spec h1 x
        rw [appO_pair] at hb
        refine vcCode_sound hT hC hI hP c _ _ _ a w ?_ (hb hx.1) hx.2
        refine ⟨fun σ' a' w' hk hS' => ?_, hK.ret, hK.ex⟩
        obtain ⟨x', hx'⟩ := oneV_spec hk
        obtain ⟨p', m', hfit', hp', hc'⟩ := okFit_spec hx'
        rw [appO_pair] at hc'
        split at hc'
        · rename_i hcov
          refine ⟨x', ⟨hc'.1, ?_⟩, hc'.2⟩
          exact (fit_sound hS' hfit' hp').heap fun i => (keepH_cover hcov i).symm
        · cases hc'
      · cases h
    · cases h
  | .ret, K, Q, σ, a, w, hK, h, hS => wp_ret (hK.ret σ a w h hS)
  | .region id ops false, K, Q, σ, a, w, hK, h, hS => by
    refine wp_region ?_
    simp only [vcCode] at h
    obtain ⟨σ, h, hS⟩ := ghostVC_sound h hS
    have post : ∀ σ a w, ghostVC A (id + 1000000) σ K.norm → Sim B w0 F σ a w → Q .normal a w := fun σ a w h hS => by
      obtain ⟨σ', h', hS'⟩ := ghostVC_sound h hS
      exact hK.norm σ' a w h' hS'
    have := vcSeq_sound (Q := Q) hT hC hI post ops.toList 0 σ a w rfl h hS
    rw [List.range_eq_range']
    simpa using this
  | .region id ops true, K, Q, σ, a, w, hK, h, hS => by
    simp only [vcCode] at h
    obtain ⟨σ, h, hS⟩ := ghostVC_sound h hS
    split at h
    · rename_i mi hmi
      split at h
      · rename_i σ' hst
        exact wp_region_any hP (inc_sound hT hmi hst h hS hK.norm)
      · cases h
    · split at h
      · rename_i ancs ha
        split at h
        · rename_i x o hlw
          exact wp_region_any hP (vcDrawLast_sound hT hC hI ha hlw h hS hK.norm)
        · split at h <;> exact wp_region_any hP (vcDraw_sound hT hC ha h hS hK.norm)
      · cases h
  | .rangeFunc _ _ _ _, _, _, _, _, _, _, h, _ => by simp [vcCode] at h; cases h
  | .scope _, _, _, _, _, _, _, h, _ => by simp [vcCode] at h; cases h
  | .label _, _, _, _, _, _, _, h, _ => by simp [vcCode] at h; cases h
  | .goto _, _, _, _, _, _, _, h, _ => by simp [vcCode] at h; cases h
  | .refuse _, _, _, _, _, _, _, h, _ => by simp [vcCode] at h; cases h
end
end Go.Eng

/- A function's conditions are sound: its arguments, its results. -/
set_option linter.unusedVariables false
set_option linter.unusedSimpArgs false
namespace Go.Eng
open Go Go.RowKit
section
variable {P : Program} {T : Tab} {B : Nat} {w0 : Base} {w : World} {fb : Nat → Prop} {ρ : Nat → Value} {φ : Nat → Nat → Prop} {U : Nat → Prop} {H : Nat → HB}

theorem ViewR.mono {R R' : CV → Value → Prop} {φ φ' : Nat → Prop} {α : Type} {enc : α → List CV} {sz : Nat} {v : Value} {xs : List α} (h : ViewR R w φ enc sz v xs) (hφ : ∀ b, φ b → φ' b) (hR : ∀ c u, R c u → R' c u) : ViewR R' w φ' enc sz v xs := by
  obtain ⟨A, c, hv, h1, h2, h3, h4⟩ := h
  refine ⟨A, c, hv, h1, h2, fun hne => ?_, fun a ha i x hx j cv hj => ?_⟩
  · obtain ⟨a, ha, hb⟩ := h3 hne
    exact ⟨a, ha, hφ _ hb⟩
  · obtain ⟨u, hu, hr⟩ := h4 a ha i x hx j cv hj
    exact ⟨u, hu, hR _ _ hr⟩
theorem View.mono {φ φ' : Nat → Prop} {k : K} {v : Value} {xs : List k.T} (h : View w φ k v xs) (hφ : ∀ b, φ b → φ' b) : View w φ' k v xs :=
  ViewR.mono h hφ fun c u hc => match c, hc with
    | .i _, h => h
    | .b _, h => h
    | .sl _ _, h => ViewR.mono h hφ fun _ _ h => h
/-- A cell of an argument's. -/
def AD (w : World) (fb : Nat → Prop) : AC → Value → Prop
  | .i n, v => v = .int .i64 n
  | .b x, v => v = .bool x
  | .fn f, v => v = .func (.func f) #[] #[]
  | .np, v => v = .pointer none
  | .a k xs, v => View w fb k v xs
  | .o _ _ _, _ => False
  | .od _ _ _, _ => False
  | .al _, _ => False
  | .pm ty m l, v => ∃ g u, v = .pointer (some ⟨g, 0, none⟩) ∧ fb g ∧ w.heap[g]? = some (.cells #[.int .i64 m, u] ty (0, 0)) ∧ View w fb (.f .int) u l

theorem view_nil {ψ : Nat → Prop} (k : K) : View w ψ k (.slice none 0 0) [] := ⟨none, 0, rfl, Nat.le_refl _, Nat.zero_le _, fun h => absurd rfl h, fun a ha => by cases ha⟩
theorem pre_view {q m c : Nat} {fk : FK} {ys : List fk.T} {v : Value} (hm : Mem B w0 ρ φ U H w) (hH : H q = .pre fk ys c) (hd : DenC ρ (.st q m) v) (hle : m ≤ ys.length) : View w (φ q) (.f fk) v (ys.take m) := by
  obtain ⟨h0, h1, e, cs, ho, hc⟩ := mem_pre hm hH
  obtain ⟨A, cc, hρ, hv, g1, g2⟩ := hd
  obtain ⟨A', cap, hρ2, _, _, hpos⟩ := own_slice0 ho
  rw [hρ] at hρ2
  injection hρ2 with e1 e2 e3
  subst e1 e2
  have hlen : (ys.take m).length = m := by rw [List.length_take]; omega
  refine ⟨A, cc, by rw [hlen]; exact hv, by rw [hlen]; exact g1, g2, fun hne => ?_, fun a ha i x hx j cv hj => ?_⟩
  · have hp : 0 < m := by
      cases m with
      | zero => simp at hne
      | succ m => omega
    obtain ⟨g, cur, rfl, hh, hsz, htk⟩ := hpos (by omega)
    exact ⟨_, rfl, h0 g (by rw [hρ]; rfl)⟩
  · have hi := (List.getElem?_eq_some_iff.1 hx).1
    rw [hlen] at hi
    obtain ⟨g, cur, hA, hh, hsz, htk⟩ := hpos (by omega)
    rw [hA] at ha
    injection ha with ha
    subst ha
    have hx' : ys[i]? = some x := by rwa [List.getElem?_take_of_lt hi] at hx
    have hcell := hc i x hx' j cv hj
    rw [← htk, List.getElem?_take] at hcell
    have e1 : (K.f fk).size = fk.size := rfl
    split at hcell
    · refine ⟨cvv cv, ?_, (CVat_flat (enc_at_flat hj)).2 rfl⟩
      rw [plain_addr, plain_addr, cell_of_row w g _ cur e (0, 0) hh, Nat.zero_add, e1]
      simpa using hcell
    · cases hcell
theorem absC_sound {Hl : Heap} (hH : ∀ id, (hget Hl id).live = true → H id = hget Hl id) (hm : Mem B w0 ρ φ U H w) (hf : ∀ id, (hget Hl id).live = true → ∀ b, φ id b → fb b) {k : CK} {s : SC} {x : AC} {p : Option Prop} {v : Value} (h : absC Hl k s = some (x, p)) (hp : holdsO p) (hd : DenC ρ s v) : AD w fb x v := by
  have vw : ∀ {id e : Nat} {k : K} {o : Bool} {xs : List k.T}, hget Hl id = .arr k e o xs → View w fb k (ρ id) xs := by
    intro id e k o xs hh
    have hid : H id = .arr k e o xs := live_arr hH hh
    exact (mem_view hm hid).mono fun b hb => hf id (by rw [hh]; rfl) b hb
  unfold absC at h
  split at h
  · simp only [Option.some.injEq, Prod.mk.injEq] at h; obtain ⟨rfl, rfl⟩ := h; exact hd
  · simp only [Option.some.injEq, Prod.mk.injEq] at h; obtain ⟨rfl, rfl⟩ := h; exact hd
  · simp only [Option.some.injEq, Prod.mk.injEq] at h; obtain ⟨rfl, rfl⟩ := h; exact hd
  · simp only [Option.some.injEq, Prod.mk.injEq] at h; obtain ⟨rfl, rfl⟩ := h; exact hd
  · rename_i ty id
    split at h
    · rename_i o ty' m c hh
      split at h
      · rename_i ht
        subst ht
        split at h
        · rename_i l hl
          simp only [Option.some.injEq, Prod.mk.injEq] at h
          obtain ⟨rfl, rfl⟩ := h
          have hid : H id = .cells o ty' [.i m, c] := live_cells hH hh
          have hhold := hm.holds id
          rw [hid] at hhold
          obtain ⟨g, cs, hρ, hφ, hheap, hsz, hden⟩ := hhold
          obtain ⟨g', hg1, hg2⟩ := hd
          rw [hρ] at hg1
          injection hg1 with hg1
          injection hg1 with hg1
          injection hg1 with hg1
          subst hg1
          obtain ⟨v0, hv0, hd0⟩ := hden 0 _ rfl
          obtain ⟨v1, hv1, hd1⟩ := hden 1 _ rfl
          have hd0 : v0 = .int .i64 m := hd0
          subst hd0
          have hcs : cs = #[.int .i64 m, v1] := by
            apply Array.ext_getElem?
            intro i
            match i with
            | 0 => simpa using hv0
            | 1 => simpa using hv1
            | i + 2 =>
              rw [Array.getElem?_eq_none (by rw [hsz]; simp), Array.getElem?_eq_none (by simp)]
          refine ⟨g, v1, hg2, hf id (by rw [hh]; rfl) g hφ, by rw [hheap, hcs], ?_⟩
          unfold absA at hl
          split at hl
          · injection hl with hl
            subst hl
            have hd1 : v1 = .slice none 0 0 := hd1
            subst hd1
            exact view_nil _
          · split at hl
            · rename_i hh2
              injection hl with hl
              subst hl
              have := vw hh2
              rw [← hd1.1] at this
              exact this
            · cases hl
          · cases hl
        · cases h
      · cases h
    · cases h
  · simp only [Option.some.injEq, Prod.mk.injEq] at h
    obtain ⟨rfl, rfl⟩ := h
    have hd : v = .slice none 0 0 := hd
    subst hd
    exact view_nil _
  · split at h
    · rename_i k' e o xs hh
      split at h
      · rename_i hk _
        subst hk
        simp only [Option.some.injEq, Prod.mk.injEq] at h
        obtain ⟨rfl, rfl⟩ := h
        have := vw hh
        rw [← hd.1] at this
        exact this
      · cases h
    · cases h
  · split at h
    · rename_i fk ys cc hh
      split at h
      · rename_i hk _
        subst hk
        simp only [Option.some.injEq, Prod.mk.injEq] at h
        obtain ⟨rfl, rfl⟩ := h
        have hid := live_pre hH hh
        exact (pre_view hm hid hd hp).mono fun b hb => hf _ (by rw [hh]; rfl) b hb
      · cases h
    · cases h
  · split at h
    · rename_i k' e o xs hh
      split at h
      · rename_i hk _
        subst hk
        split at h
        · rename_i hsz
          subst hsz
          simp only [Option.some.injEq, Prod.mk.injEq] at h
          obtain ⟨rfl, rfl⟩ := h
          exact view_part (vw hh) hp hd
        · cases h
      · cases h
    · cases h
  · cases h
theorem absL_sound {Hl : Heap} (hH : ∀ id, (hget Hl id).live = true → H id = hget Hl id) (hm : Mem B w0 ρ φ U H w) (hf : ∀ id, (hget Hl id).live = true → ∀ b, φ id b → fb b) : ∀ {ks : List CK} {l : List SC} {xs : List AC} {p : Option Prop} {vs : List Value}, absL Hl ks l = some (xs, p) → holdsO p → All2 (DenC ρ) l vs → All2 (AD w fb) xs vs
  | [], [], xs, p, vs, h, hp, hd => by
    simp only [absL, Option.some.injEq, Prod.mk.injEq] at h
    obtain ⟨rfl, rfl⟩ := h
    cases vs with
    | nil => trivial
    | cons v vs => exact hd.elim
  | k :: ks, c :: l, xs, p, vs, h, hp, hd => by
    simp only [absL] at h
    split at h
    · rename_i x p1 ys q1 h1 h2
      simp only [Option.some.injEq, Prod.mk.injEq] at h
      obtain ⟨rfl, rfl⟩ := h
      obtain ⟨hp1, hq1⟩ := andO_iff.1 hp
      cases vs with
      | nil => exact hd.elim
      | cons v vs => exact ⟨absC_sound hH hm hf h1 hp1 hd.1, absL_sound hH hm hf h2 hq1 hd.2⟩
    · cases h
  | [], _ :: _, _, _, _, h, _, _ => by simp [absL] at h
  | _ :: _, [], _, _, _, h, _, _ => by simp [absL] at h

/-- Arguments that were laid: what is known of their blocks. -/
def RO (w : World) (fb : Nat → Prop) (ρ : Nat → Value) (n : Nat) (h : List HB) : Prop := ∀ j hb, h[j]? = some hb → Holds ρ w fb hb (ρ (n + j)) ∧ hb.own = false ∧ hb.wf (fun i => n ≤ i ∧ i < n + h.length)
theorem conc_sound {x : AC} {v : Value} {n : Nat} {c : SC} {h : List HB} (hd : AD w fb x v) (hc : x.conc n = (c, h)) (ρ0 : Nat → Value) :
    ∃ ρ', (∀ i, i < n ∨ n + h.length ≤ i → ρ' i = ρ0 i) ∧ DenC ρ' c v ∧ RO w fb ρ' n h ∧ c.wf (fun i => n ≤ i ∧ i < n + h.length) := by
  cases x with
  | i m => simp only [AC.conc, Prod.mk.injEq] at hc; obtain ⟨rfl, rfl⟩ := hc; exact ⟨ρ0, fun _ _ => rfl, hd, fun j hb h => by simp at h, fun _ h => h.elim⟩
  | b m => simp only [AC.conc, Prod.mk.injEq] at hc; obtain ⟨rfl, rfl⟩ := hc; exact ⟨ρ0, fun _ _ => rfl, hd, fun j hb h => by simp at h, fun _ h => h.elim⟩
  | fn m => simp only [AC.conc, Prod.mk.injEq] at hc; obtain ⟨rfl, rfl⟩ := hc; exact ⟨ρ0, fun _ _ => rfl, hd, fun j hb h => by simp at h, fun _ h => h.elim⟩
  | np => simp only [AC.conc, Prod.mk.injEq] at hc; obtain ⟨rfl, rfl⟩ := hc; exact ⟨ρ0, fun _ _ => rfl, hd, fun j hb h => by simp at h, fun _ h => h.elim⟩
  | o fk e xs => exact hd.elim
  | od k e xs => exact hd.elim
  | al i => exact hd.elim
  | pm ty m l =>
    simp only [AC.conc, Prod.mk.injEq] at hc
    obtain ⟨rfl, rfl⟩ := hc
    obtain ⟨g, u, rfl, hlt, hheap, hv⟩ := hd
    have e0 : Eng.upd (Eng.upd ρ0 n (.pointer (some ⟨g, 0, none⟩))) (n + 1) u n = .pointer (some ⟨g, 0, none⟩) := by rw [upd_ne _ _ (by omega), upd_same]
    have e1 : Eng.upd (Eng.upd ρ0 n (.pointer (some ⟨g, 0, none⟩))) (n + 1) u (n + 1) = u := upd_same _ _ _
    refine ⟨Eng.upd (Eng.upd ρ0 n (.pointer (some ⟨g, 0, none⟩))) (n + 1) u, fun i hi => ?_, ⟨g, e0, rfl⟩, fun j hb hj => ?_, fun i hi => ?_⟩
    · simp only [List.length_cons, List.length_nil] at hi
      rw [upd_ne _ _ (by rcases hi with hi | hi <;> omega), upd_ne _ _ (by rcases hi with hi | hi <;> omega)]
    · match j, hj with
      | 0, hj =>
        simp at hj
        subst hj
        refine ⟨⟨g, _, by rw [Nat.add_zero]; exact e0, hlt, hheap, rfl, fun i c hi => ?_⟩, rfl, fun c hc => ?_⟩
        · match i, hi with
          | 0, hi => simp at hi; subst hi; exact ⟨_, rfl, rfl⟩
          | 1, hi =>
            simp at hi
            subst hi
            obtain ⟨A, c, hu, _⟩ := hv
            exact ⟨u, rfl, e1.symm, _, _, _, hu⟩
          | i + 2, hi => simp at hi
        · simp only [List.mem_cons, List.not_mem_nil, or_false] at hc
          rcases hc with rfl | rfl
          · exact fun _ h => h.elim
          · intro x hx
            simp only [SC.ids] at hx
            subst hx
            simp
      | 1, hj =>
        simp at hj
        subst hj
        refine ⟨?_, rfl, trivial⟩
        rw [e1]
        exact hv
      | j + 2, hj => simp at hj
    · simp only [SC.ids] at hi
      subst hi
      simp
  | a k xs =>
    simp only [AC.conc, Prod.mk.injEq] at hc
    obtain ⟨rfl, rfl⟩ := hc
    have hd : View w fb k v xs := hd
    refine ⟨Eng.upd ρ0 n v, fun i hi => upd_ne _ _ ?_, ⟨(upd_same _ _ _).symm, ?_⟩, fun j hb hj => ?_, fun i hi => ?_⟩
    · rintro rfl
      rcases hi with hi | hi
      · omega
      · simp at hi; omega
    · obtain ⟨A, c, hv, _⟩ := hd
      exact ⟨_, _, _, hv⟩
    · match j, hj with
      | 0, hj =>
        simp at hj
        subst hj
        refine ⟨?_, rfl, trivial⟩
        rw [Nat.add_zero, upd_same]
        exact hd
      | j + 1, hj => simp at hj
    · simp only [SC.ids] at hi
      subst hi
      simp
theorem RO.anchors {ρ ρ' : Nat → Value} {n : Nat} {h : List HB} (hr : RO w fb ρ n h) (hρ : ∀ i, n ≤ i → i < n + h.length → ρ' i = ρ i) : RO w fb ρ' n h := fun j hb hj => by
  obtain ⟨h1, h2, h3⟩ := hr j hb hj
  have hlt := (List.getElem?_eq_some_iff.1 hj).1
  refine ⟨?_, h2, h3⟩
  rw [hρ (n + j) (by omega) (by omega)]
  exact h1.anchors h3 fun i hi => hρ i hi.1 hi.2
theorem HB.wf.mono' {U U' : Nat → Prop} {c : HB} (h : c.wf U) (hU : ∀ x, U x → U' x) : c.wf U' := h.mono hU
theorem RO.app {ρ : Nat → Value} {n : Nat} {h h' : List HB} (h1 : RO w fb ρ n h) (h2 : RO w fb ρ (n + h.length) h') : RO w fb ρ n (h ++ h') := fun j hb hj => by
  by_cases hlt : j < h.length
  · rw [List.getElem?_append_left hlt] at hj
    obtain ⟨a, b, c⟩ := h1 j hb hj
    exact ⟨a, b, c.mono fun i hi => ⟨hi.1, by simp; omega⟩⟩
  · rw [List.getElem?_append_right (by omega)] at hj
    obtain ⟨a, b, c⟩ := h2 _ hb hj
    refine ⟨?_, b, c.mono fun i hi => ⟨by omega, by simp; omega⟩⟩
    have : n + h.length + (j - h.length) = n + j := by omega
    rwa [this] at a
theorem concL_sound : ∀ {xs : List AC} {vs : List Value} {n : Nat} {cs : List SC} {h : List HB}, All2 (AD w fb) xs vs → concL xs n = (cs, h) → ∀ (ρ0 : Nat → Value),
    ∃ ρ', (∀ i, i < n ∨ n + h.length ≤ i → ρ' i = ρ0 i) ∧ All2 (DenC ρ') cs vs ∧ RO w fb ρ' n h ∧ ∀ c ∈ cs, c.wf (fun i => n ≤ i ∧ i < n + h.length)
  | [], vs, n, cs, h, hd, hc, ρ0 => by
    simp only [concL, Prod.mk.injEq] at hc
    obtain ⟨rfl, rfl⟩ := hc
    cases vs with
    | nil => exact ⟨ρ0, fun _ _ => rfl, trivial, fun j hb h => by simp at h, fun c h => by cases h⟩
    | cons v vs => exact hd.elim
  | x :: xs, vs, n, cs, h, hd, hc, ρ0 => by
    cases vs with
    | nil => exact hd.elim
    | cons v vs =>
      simp only [concL] at hc
      generalize hx : x.conc n = r at hc
      obtain ⟨c, h1⟩ := r
      simp only at hc
      generalize hxs : concL xs (n + len h1) = r at hc
      obtain ⟨cs', h2⟩ := r
      simp only [Prod.mk.injEq] at hc
      obtain ⟨rfl, rfl⟩ := hc
      rw [len_eq] at hxs
      rw [app_eq]
      obtain ⟨ρ1, e1, d1, r1, w1⟩ := conc_sound hd.1 hx ρ0
      obtain ⟨ρ2, e2, d2, r2, w2⟩ := concL_sound hd.2 hxs ρ1
      have agree : ∀ i, n ≤ i → i < n + h1.length → ρ2 i = ρ1 i := fun i _ hi => e2 i (.inl hi)
      refine ⟨ρ2, fun i hi => ?_, ⟨d1.anchors fun i hi => agree i (w1 i hi).1 (w1 i hi).2, d2⟩, (r1.anchors agree).app r2, fun c' hc' => ?_⟩
      · rw [List.length_append] at hi
        rw [e2 i (by rcases hi with hi | hi <;> omega), e1 i (by rcases hi with hi | hi <;> omega)]
      · rcases List.mem_cons.1 hc' with rfl | hc'
        · exact w1.mono fun i hi => ⟨hi.1, by simp; omega⟩
        · exact (w2 c' hc').mono fun i hi => ⟨by omega, by simp; omega⟩

/-- A parameter's value. -/
def PD (w : World) (fb : Nat → Prop) : AV → Value → Prop
  | .c x, v => AD w fb x v
  | .r l, v => ∃ vs : Array Value, v = .agg vs ∧ All2 (AD w fb) l vs.toList
  | .p o ty l, v => o = false ∧ ∃ g cs, v = .pointer (some ⟨g, 0, none⟩) ∧ fb g ∧ w.heap[g]? = some (.cells cs ty (0, 0)) ∧ All2 (AD w fb) l cs.toList
theorem ofCK_enc {k : CK} {y : AC} {z : k.T} (h : AC.ofCK k y = some z) : k.enc z = y := by
  unfold AC.ofCK at h
  split at h
  · injection h with h; subst h; rfl
  · injection h with h; subst h; rfl
  · injection h with h; subst h; rfl
  · split at h
    · rename_i ht
      subst ht
      injection h with h
      subst h
      rfl
    · cases h
  · split at h
    · rename_i hk _
      subst hk
      injection h with h
      subst h
      rfl
    · cases h
  · cases h
theorem mem_cellsP {id ty : Nat} {o : Bool} {l : List SC} (hm : Mem B w0 ρ φ U H w) (h : H id = .cells o ty l) : ∃ g cs, ρ id = .pointer (some ⟨g, 0, none⟩) ∧ φ id g ∧ w.heap[g]? = some (.cells cs ty (0, 0)) ∧ DenL ρ l cs := by
  have := hm.holds id
  rw [h] at this
  exact this
theorem absP_sound {Hl : Heap} (hH : ∀ id, (hget Hl id).live = true → H id = hget Hl id) (hm : Mem B w0 ρ φ U H w) (hf : ∀ id, (hget Hl id).live = true → ∀ b, φ id b → fb b) {k : PK} {s : SV} {x : k.T} {p : Option Prop} {v : Value} (h : absP Hl k s = some (x, p)) (hp : holdsO p) (hd : DenV ρ s v) : PD w fb (k.enc x) v := by
  unfold absP at h
  split at h
  · split at h
    · rename_i y p1 h1
      split at h
      · rename_i z hz
        simp only [Option.some.injEq, Prod.mk.injEq] at h
        obtain ⟨rfl, rfl⟩ := h
        have := absC_sound hH hm hf h1 hp hd
        simp only [PK.enc, PD]
        rw [ofCK_enc hz]
        exact this
      · cases h
    · cases h
  · split at h
    · rename_i ys p1 h1
      split at h
      · rename_i z hz
        simp only [Option.some.injEq, Prod.mk.injEq] at h
        obtain ⟨rfl, rfl⟩ := h
        obtain ⟨vs, rfl, hl⟩ := hd
        refine ⟨vs, rfl, ?_⟩
        rw [SK.enc_dec hz]
        exact absL_sound hH hm hf h1 hp (denL_iff.1 hl)
      · cases h
    · cases h
  · split at h
    · rename_i o ty' l hh
      split at h
      · rename_i ht
        subst ht
        split at h
        · rename_i ys p1 h1
          split at h
          · rename_i z hz
            simp only [Option.some.injEq, Prod.mk.injEq] at h
            obtain ⟨rfl, rfl⟩ := h
            have hid := live_cells hH hh
            obtain ⟨g, cs, hρ, hφ, hheap, hl⟩ := mem_cellsP hm hid
            obtain ⟨g', hg1, hg2⟩ := hd
            rw [hρ] at hg1
            injection hg1 with hg1
            injection hg1 with hg1
            injection hg1 with hg1
            subst hg1
            refine ⟨rfl, g, cs, hg2, hf _ (by rw [hh]; rfl) g hφ, hheap, ?_⟩
            rw [SK.enc_dec hz]
            exact absL_sound hH hm hf h1 hp (denL_iff.1 hl)
          · cases h
        · cases h
      · cases h
    · cases h
  · simp only [Option.some.injEq, Prod.mk.injEq] at h
    obtain ⟨rfl, rfl⟩ := h
    exact hd
  · split at h
    · rename_i o ty' l hh
      split at h
      · rename_i ht
        subst ht
        split at h
        · rename_i ys p1 h1
          split at h
          · rename_i z hz
            simp only [Option.some.injEq, Prod.mk.injEq] at h
            obtain ⟨rfl, rfl⟩ := h
            have hid := live_cells hH hh
            obtain ⟨g, cs, hρ, hφ, hheap, hl⟩ := mem_cellsP hm hid
            obtain ⟨g', hg1, hg2⟩ := hd
            rw [hρ] at hg1
            injection hg1 with hg1
            injection hg1 with hg1
            injection hg1 with hg1
            subst hg1
            refine ⟨rfl, g, cs, hg2, hf _ (by rw [hh]; rfl) g hφ, hheap, ?_⟩
            rw [SK.enc_dec hz]
            exact absL_sound hH hm hf h1 hp (denL_iff.1 hl)
          · cases h
        · cases h
      · cases h
    · cases h
  · cases h
theorem overP_iff {p : PK} {f : p.T → Prop} : overP p f ↔ ∀ x, f x := by
  cases p with
  | q s ty => exact ⟨fun h x => match x with | none => h.1 | some x => h.2 x, fun h => ⟨h none, fun x => h (some x)⟩⟩
  | _ => exact Iff.rfl
theorem concP_sound {x : AV} {v : Value} {n : Nat} {s : SW} {h : List HB} (hd : PD w fb x v) (hc : x.conc n = (s, h)) (ρ0 : Nat → Value) :
    ∃ ρ', (∀ i, i < n ∨ n + h.length ≤ i → ρ' i = ρ0 i) ∧ DenW ρ' s v ∧ RO w fb ρ' n h ∧ s.wf (fun i => n ≤ i ∧ i < n + h.length) := by
  cases x with
  | c x =>
    simp only [AV.conc] at hc
    generalize hx : x.conc n = r at hc
    obtain ⟨c, h1⟩ := r
    simp only [Prod.mk.injEq] at hc
    obtain ⟨rfl, rfl⟩ := hc
    exact conc_sound hd hx ρ0
  | r l =>
    simp only [AV.conc] at hc
    generalize hx : concL l n = r at hc
    obtain ⟨c, h1⟩ := r
    simp only [Prod.mk.injEq] at hc
    obtain ⟨rfl, rfl⟩ := hc
    obtain ⟨vs, rfl, hl⟩ := hd
    obtain ⟨ρ', e, d, r, wf⟩ := concL_sound hl hx ρ0
    exact ⟨ρ', e, ⟨vs, rfl, denL_iff.2 d⟩, r, wf⟩
  | p o ty l =>
    simp only [AV.conc] at hc
    generalize hx : concL l (n + 1) = r at hc
    obtain ⟨c, h1⟩ := r
    simp only [Prod.mk.injEq] at hc
    obtain ⟨rfl, rfl⟩ := hc
    obtain ⟨rfl, g, cs, rfl, hlt, hheap, hl⟩ := hd
    obtain ⟨ρ1, e1, d1, r1, w1⟩ := concL_sound hl hx (Eng.upd ρ0 n (.pointer (some ⟨g, 0, none⟩)))
    have hn : ρ1 n = .pointer (some ⟨g, 0, none⟩) := by rw [e1 n (.inl (by omega)), upd_same]
    refine ⟨ρ1, fun i hi => ?_, ⟨g, hn, rfl⟩, fun j hb hj => ?_, fun i hi => ?_⟩
    · simp only [List.length_cons] at hi
      rw [e1 i (by rcases hi with hi | hi <;> omega), upd_ne _ _ (by rcases hi with hi | hi <;> omega)]
    · match j, hj with
      | 0, hj =>
        simp at hj
        subst hj
        refine ⟨⟨g, cs, by rw [Nat.add_zero, hn], hlt, hheap, denL_iff.2 d1⟩, rfl, fun c hc => (w1 c hc).mono fun i hi => ⟨by omega, by simp; omega⟩⟩
      | j + 1, hj =>
        obtain ⟨a, b, c⟩ := r1 j hb (by simpa using hj)
        refine ⟨?_, b, c.mono fun i hi => ⟨by omega, by simp; omega⟩⟩
        have : n + 1 + j = n + (j + 1) := by omega
        rwa [this] at a
    · simp only [SC.ids] at hi
      subst hi
      simp

/-- A call's start. -/
structure Start (fb : Nat → Prop) (e : Env) (H : Heap) (vs : List Value) (w : World) : Prop where
  lt : ∀ b, fb b → b < w.heap.size
  mem : ∃ ρ, RO w fb ρ 0 H ∧ All2 (DenV ρ) e vs ∧ ∀ s ∈ e, s.wf (· < H.length)
theorem All2.append {α β : Type} {R : α → β → Prop} : ∀ {l l' : List α} {m m' : List β}, All2 R l m → All2 R l' m' → All2 R (l ++ l') (m ++ m')
  | [], _, [], _, _, h => h
  | _ :: l, _, _ :: m, _, h, h' => ⟨h.1, All2.append h.2 h'⟩
  | [], _, _ :: _, _, h, _ => h.elim
  | _ :: _, _, [], _, h, _ => h.elim
theorem All2.imp {α β : Type} {R R' : α → β → Prop} : ∀ {l : List α} {m : List β}, (∀ a ∈ l, ∀ b, R a b → R' a b) → All2 R l m → All2 R' l m
  | [], [], _, _ => trivial
  | a :: l, b :: m, h, h' => ⟨h a (by simp) b h'.1, All2.imp (fun x hx => h x (by simp [hx])) h'.2⟩
  | [], _ :: _, _, h => h.elim
  | _ :: _, [], _, h => h.elim
theorem start_push {e : Env} {Hs : Heap} {vs : List Value} {x : AV} {v : Value} {s : SW} {h : List HB} (hs : Start fb e Hs vs w) (hd : PD w fb x v) (hc : x.conc (len Hs) = (s, h)) : Start fb (app e [.w s]) (app Hs h) (vs ++ [v]) w := by
  obtain ⟨hlt, ρ, hr, hl, hw⟩ := hs
  rw [len_eq] at hc
  obtain ⟨ρ', e1, d1, r1, w1⟩ := concP_sound hd hc ρ
  rw [app_eq, app_eq]
  have agree : ∀ i, i < Hs.length → ρ' i = ρ i := fun i hi => e1 i (.inl hi)
  refine ⟨hlt, ρ', RO.app (hr.anchors fun i _ hi => agree i (by omega)) (by rw [Nat.zero_add]; exact r1), All2.append (hl.imp fun a ha b hab => hab.anchors (hw a ha) fun i hi => agree i hi) ⟨d1, trivial⟩, fun s' hs' => ?_⟩
  rw [List.length_append]
  rcases List.mem_append.1 hs' with hs' | hs'
  · exact (hw s' hs').mono fun i hi => by omega
  · simp only [List.mem_singleton] at hs'
    subst hs'
    exact SW.wf.mono w1 fun i hi => hi.2
theorem start_nil (hlt : ∀ b, fb b → b < w.heap.size) : Start fb [] [] [] w := ⟨hlt, fun _ => undef, fun j hb h => by simp at h, trivial, fun s h => by cases h⟩
theorem view_len {ψ : Nat → Prop} {k : K} {v : Value} {xs : List k.T} (h : View w ψ k v xs) : LenOk xs.length := by
  obtain ⟨A, c, hv, h1, h2, _⟩ := h
  exact ⟨Nat.le_trans h1 h2⟩
theorem view_ok {ψ : Nat → Prop} {k : K} {v : Value} {xs : List k.T} (h : View w ψ k v xs) : k.ok xs := by
  have hl := view_len h
  obtain ⟨A, c, hv, h1, h2, h3, h4⟩ := h
  cases k with
  | f k => exact hl
  | route =>
    refine ⟨hl, fun r hr => ?_⟩
    obtain ⟨i, hi⟩ := List.getElem?_of_mem hr
    have hne : xs ≠ [] := by rintro rfl; cases hr
    obtain ⟨a, ha, _⟩ := h3 hne
    obtain ⟨u, _, hu⟩ := h4 a ha i r hi 2 (.sl .stop r.stops) rfl
    obtain ⟨A', c', _, g1, g2, _⟩ := hu
    exact ⟨Nat.le_trans g1 g2⟩
  | rows k =>
    refine ⟨hl, fun r hr => ?_⟩
    obtain ⟨i, hi⟩ := List.getElem?_of_mem hr
    have hne : xs ≠ [] := by rintro rfl; cases hr
    obtain ⟨a, ha, _⟩ := h3 hne
    obtain ⟨u, _, hu⟩ := h4 a ha i r hi 0 (.sl k r) rfl
    obtain ⟨A', c', _, g1, g2, _⟩ := hu
    exact ⟨Nat.le_trans g1 g2⟩
theorem all2_at {α β : Type} {R : α → β → Prop} {l : List α} {m : List β} (h : All2 R l m) (j : Nat) (a : α) (ha : l[j]? = some a) : ∃ b, R a b := by
  obtain ⟨b, _, hb⟩ := (all2_iff.1 h).2 j a ha
  exact ⟨b, hb⟩
theorem sk_ok {s : SK} {x : s.T} {vs : List Value} (h : All2 (AD w fb) (s.enc x) vs) : holdsO (s.ok x) := by
  cases s with
  | f k => trivial
  | route =>
    obtain ⟨v, hv⟩ := all2_at h 2 _ rfl
    exact view_len hv
  | world =>
    obtain ⟨v1, hv1⟩ := all2_at h 1 _ rfl
    obtain ⟨v2, hv2⟩ := all2_at h 2 _ rfl
    obtain ⟨v3, hv3⟩ := all2_at h 3 _ rfl
    obtain ⟨v4, hv4⟩ := all2_at h 4 _ rfl
    exact ⟨view_len hv1, view_len hv2, view_len hv3, view_ok (k := .route) hv4⟩
  | map =>
    obtain ⟨v, hv⟩ := all2_at h 1 _ rfl
    exact view_len hv
  | search ty =>
    obtain ⟨v0, g, u, _, _, _, hv0⟩ := all2_at h 0 _ rfl
    obtain ⟨v1, hv1⟩ := all2_at h 7 _ rfl
    obtain ⟨v2, hv2⟩ := all2_at h 8 _ rfl
    exact ⟨view_len hv0, view_len hv1, view_len hv2⟩
theorem pd_ok {p : PK} {x : p.T} {v : Value} (h : PD w fb (p.enc x) v) : holdsO (p.ok x) := by
  cases p with
  | c k =>
    cases k with
    | a k =>
      have h : View w fb k v x := h
      exact view_ok h
    | i => trivial
    | b => trivial
    | fn => trivial
    | pm ty =>
      obtain ⟨g, u, _, _, _, hv⟩ := h
      exact view_len hv
  | r s =>
    obtain ⟨vs, _, h⟩ := h
    exact sk_ok h
  | p s ty =>
    obtain ⟨_, g, cs, _, _, _, h⟩ := h
    exact sk_ok h
  | q s ty =>
    cases x with
    | none => trivial
    | some x =>
      obtain ⟨_, g, cs, _, _, _, h⟩ := h
      exact sk_ok h
theorem allArgs_run {R : Type} {Hl : Heap} (hH : ∀ id, (hget Hl id).live = true → H id = hget Hl id) (hm : Mem B w0 ρ φ U H w) (hf : ∀ id, (hget Hl id).live = true → ∀ b, φ id b → fb b) {k : Env → Heap → R → Prop} : ∀ {ps : List PK} {ss : List SV} {f : Fun ps R} {e : Env} {Hs : Heap} {vs0 vs : List Value} {r : R} {c : Option Prop},
    runArgs Hl ps ss f = some (r, c) → holdsO c → All2 (DenV ρ) ss vs → Start fb e Hs vs0 w → allArgs ps e Hs f k → ∃ e' Hs', k e' Hs' r ∧ Start fb e' Hs' (vs0 ++ vs) w
  | [], [], f, e, Hs, vs0, vs, r, c, h, hc, hd, hs, hk => by
    simp only [runArgs, Option.some.injEq, Prod.mk.injEq] at h
    obtain ⟨rfl, rfl⟩ := h
    cases vs with
    | nil => exact ⟨e, Hs, hk, by simpa using hs⟩
    | cons v vs => exact hd.elim
  | p :: ps, s :: ss, f, e, Hs, vs0, vs, r, c, h, hc, hd, hs, hk => by
    simp only [runArgs] at h
    split at h
    · rename_i x c1 h1
      split at h
      · rename_i r' c2 h2
        simp only [Option.some.injEq, Prod.mk.injEq] at h
        obtain ⟨rfl, rfl⟩ := h
        obtain ⟨hc1, hc2⟩ := andO_iff.1 hc
        cases vs with
        | nil => exact hd.elim
        | cons v vs =>
          have hpd := absP_sound hH hm hf h1 hc1 hd.1
          have hk' := imp_iff.1 (overP_iff.1 hk x) (pd_ok hpd)
          generalize hx : (p.enc x).conc (len Hs) = q at hk'
          obtain ⟨s', h'⟩ := q
          obtain ⟨e', Hs', h3, h4⟩ := allArgs_run hH hm hf h2 hc2 hd.2 (start_push hs hpd hx) hk'
          exact ⟨e', Hs', h3, by simpa using h4⟩
      · cases h
    · cases h
  | [], _ :: _, _, _, _, _, _, _, _, h, _, _, _, _ => by simp [runArgs] at h
  | _ :: _, [], _, _, _, _, _, _, _, h, _, _, _, _ => by simp [runArgs] at h
theorem allArgs_mono {R : Type} {k k' : Env → Heap → R → Prop} (hk : ∀ e H r, k e H r → k' e H r) : ∀ {ps : List PK} {f : Fun ps R} {e : Env} {Hs : Heap}, allArgs ps e Hs f k → allArgs ps e Hs f k'
  | [], _, _, _, h => hk _ _ _ h
  | p :: ps, f, e, Hs, h => overP_iff.2 fun x => imp_iff.2 fun ho => allArgs_mono hk (ps := ps) (imp_iff.1 (overP_iff.1 h x) ho)

/-- The start as symbolic memory. -/
theorem start_mem {e : Env} {Hs : Heap} {vs : List Value} (hs : Start fb e Hs vs w) : ∃ ρ φ, Mem w.heap.size ⟨w, fb⟩ ρ φ (· < Hs.length) (hget Hs) w ∧ All2 (DenV ρ) e vs ∧ ∀ s ∈ e, s.wf (· < Hs.length) := by
  obtain ⟨hlt, ρ, hr, hl, hw⟩ := hs
  have at' : ∀ i, (hget Hs i).live = true → Hs[i]? = some (hget Hs i) := fun i hi => nth_at (hget_out hi)
  refine ⟨ρ, fun _ => fb, ⟨Nat.le_refl _, Below.refl _ _, fun i hi => hget_out hi, fun i => ?_, fun i => ?_, fun i hi b hb => hlt b hb, fun i hi => ?_, fun i i' _ hi => ?_, fun i hi b hb _ => hb⟩, hl, hw⟩
  · by_cases hi : (hget Hs i).live = true
    · exact (hr i _ (at' i hi)).2.2.mono fun j hj => by omega
    · have : hget Hs i = .dead := by cases hh : hget Hs i <;> simp_all [HB.live]
      rw [this]; trivial
  · by_cases hi : (hget Hs i).live = true
    · have := (hr i _ (at' i hi)).1
      rwa [Nat.zero_add] at this
    · have : hget Hs i = .dead := by cases hh : hget Hs i <;> simp_all [HB.live]
      rw [this]; trivial
  · have := (hr i _ (at' i (HB.live_of_own hi))).2.1
    rw [hi] at this; cases this
  · have := (hr i _ (at' i (HB.live_of_own hi))).2.1
    rw [hi] at this; cases this
end
end Go.Eng

/- A function's conditions are sound: its results; its contract. -/
set_option linter.unusedVariables false
set_option linter.unusedSimpArgs false
namespace Go.Eng
open Go Go.RowKit
section
variable {P : Program} {T : Tab} {B : Nat} {w0 : Base} {fb : Nat → Prop} {w : World} {ρ : Nat → Value} {φ : Nat → Nat → Prop} {U : Nat → Prop} {H : Nat → HB}

/-! ### Names moved on -/
def shW (n : Nat) : SW → SW
  | .c x => .c (shC n x)
  | .g l => .g (l.map (shC n))
def shH (n : Nat) : HB → HB
  | .cells o t l => .cells o t (l.map (shC n))
  | .hole fk e xs ix c => .hole fk e xs ix (shC n c)
  | .room e rows ix c => .room e rows ix (shC n c)
  | h => h
theorem conc_shift (n j : Nat) (x : AC) : x.conc (n + j) = (shC n (x.conc j).1, (x.conc j).2.map (shH n)) := by cases x <;> rfl
theorem concL_shift (n : Nat) : ∀ (l : List AC) (j : Nat), concL l (n + j) = ((concL l j).1.map (shC n), (concL l j).2.map (shH n))
  | [], j => rfl
  | x :: l, j => by
    simp only [concL]
    rw [conc_shift]
    generalize x.conc j = r
    obtain ⟨c, h⟩ := r
    simp only
    have : n + j + len (h.map (shH n)) = n + (j + len h) := by rw [len_eq, len_eq, List.length_map]; omega
    rw [this, concL_shift n l]
    simp only [app_eq, List.map_cons, List.map_append]
theorem concA_shift (n j : Nat) (x : AV) : x.conc (n + j) = (shW n (x.conc j).1, (x.conc j).2.map (shH n)) := by
  cases x with
  | c x => simp only [AV.conc]; rw [conc_shift]; rfl
  | r l => simp only [AV.conc]; rw [concL_shift]; rfl
  | p o t l =>
    simp only [AV.conc]
    have : n + j + 1 = n + (j + 1) := by omega
    rw [this, concL_shift]
    rfl
theorem concV_shift (n : Nat) : ∀ (l : List AV) (j : Nat), concV l (n + j) = ((concV l j).1.map (shW n), (concV l j).2.map (shH n))
  | [], j => rfl
  | x :: l, j => by
    simp only [concV]
    rw [concA_shift]
    generalize x.conc j = r
    obtain ⟨c, h⟩ := r
    simp only
    have : n + j + len (h.map (shH n)) = n + (j + len h) := by rw [len_eq, len_eq, List.length_map]; omega
    rw [this, concV_shift n l]
    simp only [app_eq, List.map_cons, List.map_append]
theorem shC_den {ρ ρ' : Nat → Value} {n : Nat} {c : SC} {v : Value} (hρ : ∀ i, c.ids i → ρ' (n + i) = ρ i) (h : DenC ρ c v) : DenC ρ' (shC n c) v := by
  cases c <;> simp only [DenC, shC, SC.ids] at h hρ ⊢ <;> first
    | exact h
    | (rw [hρ _ rfl]; exact h)
theorem shC_wf {n : Nat} {c : SC} {k : Nat} (h : c.wf (· < k)) : (shC n c).wf (fun x => n ≤ x ∧ x < n + k) := by
  intro x hx
  cases c <;> simp only [SC.ids, shC] at hx
  all_goals first
    | exact hx.elim
    | (subst hx; exact ⟨by omega, by have := h _ rfl; omega⟩)
theorem shW_den {ρ ρ' : Nat → Value} {n k : Nat} {s : SW} {v : Value} (hρ : ∀ i, i < k → ρ' (n + i) = ρ i) (hw : s.wf (· < k)) (h : DenW ρ s v) : DenW ρ' (shW n s) v := by
  cases s with
  | c x => exact shC_den (fun i hi => hρ i (hw i hi)) h
  | g l =>
    obtain ⟨vs, rfl, hl⟩ := h
    refine ⟨vs, rfl, by simpa using hl.1, fun j c hc => ?_⟩
    rw [List.getElem?_map] at hc
    cases hj : l[j]? with
    | none => rw [hj] at hc; cases hc
    | some c0 =>
      rw [hj] at hc
      simp at hc
      subst hc
      obtain ⟨v, hv, hd⟩ := hl.2 j c0 hj
      exact ⟨v, hv, shC_den (fun i hi => hρ i (hw c0 (List.mem_of_getElem? hj) i hi)) hd⟩
theorem shW_wf {n k : Nat} {s : SW} (h : s.wf (· < k)) : (shW n s).wf (fun x => n ≤ x ∧ x < n + k) := by
  cases s with
  | c x => exact shC_wf h
  | g l =>
    intro c hc
    obtain ⟨c0, h0, rfl⟩ := List.mem_map.1 hc
    exact shC_wf (h c0 h0)
theorem shC_u {n : Nat} {c : SC} : shC n c = .u ↔ c = .u := by cases c <;> simp [shC]
theorem shH_holds {ρ ρ' : Nat → Value} {n k : Nat} {hb : HB} {v : Value} {ψ : Nat → Prop} (hρ : ∀ i, i < k → ρ' (n + i) = ρ i) (hw : hb.wf (· < k)) (h : Holds ρ w ψ hb v) : Holds ρ' w ψ (shH n hb) v := by
  match hb with
  | .dead => trivial
  | .arr _ _ true _ => exact h
  | .arr _ _ false _ => exact h
  | .map _ _ => exact h
  | .pre _ _ _ => exact h
  | .hole fk e xs ix c =>
    obtain ⟨h0, cs, u, ho, hu, hd, hc⟩ := h
    exact ⟨h0, cs, u, ho, hu, shC_den (fun i hi => hρ i (hw i hi)) hd, hc⟩
  | .room e rows ix c =>
    obtain ⟨h0, us, hl, hs, hp, hr, hd⟩ := h
    refine ⟨h0, us, hl, hs, hp, fun i x hi hx => hr i x (fun e => (shC_u.1 (hi e))) hx, fun hc => ?_⟩
    obtain ⟨u, hu, hdu⟩ := hd fun e => hc (shC_u.2 e)
    exact ⟨u, hu, shC_den (fun i hi => hρ i (hw i hi)) hdu⟩
  | .cells o t l =>
    obtain ⟨g, cs, h1, h2, h3, hl⟩ := h
    refine ⟨g, cs, h1, h2, h3, by simpa using hl.1, fun j c hc => ?_⟩
    rw [List.getElem?_map] at hc
    cases hj : l[j]? with
    | none => rw [hj] at hc; cases hc
    | some c0 =>
      rw [hj] at hc
      simp at hc
      subst hc
      obtain ⟨v, hv, hd⟩ := hl.2 j c0 hj
      exact ⟨v, hv, shC_den (fun i hi => hρ i (hw c0 (List.mem_of_getElem? hj) i hi)) hd⟩
theorem shH_own {n : Nat} {hb : HB} : (shH n hb).own = hb.own ∧ (shH n hb).live = hb.live := by cases hb <;> exact ⟨rfl, rfl⟩
theorem shH_wf {n k : Nat} {hb : HB} (h : hb.wf (· < k)) : (shH n hb).wf (fun x => n ≤ x ∧ x < n + k) := by
  cases hb with
  | dead => trivial
  | arr k e o xs => trivial
  | map k f => trivial
  | pre fk ys c => trivial
  | hole fk e xs ix c => exact shC_wf h
  | room e rows ix c => exact shC_wf h
  | cells o t l =>
    intro c hc
    obtain ⟨c0, h0, rfl⟩ := List.mem_map.1 hc
    exact shC_wf (h c0 h0)
theorem numb_get : ∀ (hs : List HB) (n : Nat) (H : Nat → HB) (i : Nat), applyD H (numb n hs) i = if n ≤ i ∧ i < n + hs.length then hget hs (i - n) else H i
  | [], n, H, i => by
    have : ¬ (n ≤ i ∧ i < n + ([] : List HB).length) := by rintro ⟨h1, h2⟩; simp at h2; omega
    rw [if_neg this]; rfl
  | h :: hs, n, H, i => by
    simp only [numb, applyD]
    rw [numb_get hs (n + 1)]
    by_cases h1 : i = n
    · subst h1
      rw [if_neg (by omega), if_pos (by simp), upd_same, Nat.sub_self]
      rfl
    · by_cases h2 : n + 1 ≤ i ∧ i < n + 1 + hs.length
      · rw [if_pos h2, if_pos (by simp; omega)]
        have : i - n = (i - (n + 1)) + 1 := by omega
        rw [this]
        rfl
      · rw [if_neg h2, if_neg (by simp; omega), upd_ne _ _ h1]
theorem ownH_get : ∀ {hs : List HB}, ownH hs = true → ∀ i, i < hs.length → (hget hs i).own = true
  | [], _, i, h => by simp at h
  | hb :: hs, h, i, hi => by
    unfold ownH at h
    split at h
    · rename_i ho
      cases i with
      | zero => exact ho
      | succ i => exact ownH_get h i (by simpa using hi)
    · cases h

/-- New blocks of a callee's join the caller's memory. -/
theorem Mem.join {w' : World} {ρR : Nat → Value} {φR : Nat → Nat → Prop} {hs : List HB} {n : Nat} (h : Mem B w0 ρ φ U H w) (hR : Mem w.heap.size ⟨w, fb⟩ ρR φR (· < hs.length) (hget hs) w') (ho : (∀ i, i < hs.length → (hget hs i).own = true) ∨ ∀ b, fb b → ∃ id, (H id).live = true ∧ (H id).own = false ∧ φ id b) (hU : ∀ q, n ≤ q → q < n + hs.length → ¬ U q) :
    ∃ ρ' φ', Mem B w0 ρ' φ' (U' U n (n + hs.length)) (applyD H (numb n (hs.map (shH n)))) w' ∧ (∀ i, U i → ρ' i = ρ i) ∧ ∀ i, i < hs.length → ρ' (n + i) = ρR i := by
  have hnx := h.next hR.below
  let ρ' : Nat → Value := fun i => if n ≤ i ∧ i < n + hs.length then ρR (i - n) else ρ i
  let φ' : Nat → Nat → Prop := fun i => if n ≤ i ∧ i < n + hs.length then φR (i - n) else φ i
  have nin : ∀ i, U i → ¬ (n ≤ i ∧ i < n + hs.length) := fun i hi hh => hU i hh.1 hh.2 hi
  have e1 : ∀ i, U i → ρ' i = ρ i := fun i hi => by simp only [ρ']; rw [if_neg (nin i hi)]
  have e2 : ∀ i, i < hs.length → ρ' (n + i) = ρR i := fun i hi => by simp only [ρ']; rw [if_pos (by omega), Nat.add_sub_cancel_left]
  have e3 : ∀ i, i < hs.length → φ' (n + i) = φR i := fun i hi => by simp only [φ']; rw [if_pos (by omega), Nat.add_sub_cancel_left]
  have e4 : ∀ i, U i → φ' i = φ i := fun i hi => by simp only [φ']; rw [if_neg (nin i hi)]
  have hlen : (hs.map (shH n)).length = hs.length := by simp
  have get : ∀ i, (∃ j, j < hs.length ∧ i = n + j ∧ applyD H (numb n (hs.map (shH n))) i = shH n (hget hs j)) ∨ ((∀ j, j < hs.length → i ≠ n + j) ∧ applyD H (numb n (hs.map (shH n))) i = H i) := by
    intro i
    rw [numb_get, hlen]
    by_cases hi : n ≤ i ∧ i < n + hs.length
    · refine .inl ⟨i - n, by omega, by omega, ?_⟩
      rw [if_pos hi]
      have h1 : i - n < hs.length := by omega
      simp only [hget, nth_eq]
      simp [h1]
    · exact .inr ⟨fun j hj => by omega, if_neg hi⟩
  have wfR : ∀ j, (hget hs j).wf (· < hs.length) := fun j => hR.wf j
  refine ⟨ρ', φ', ⟨hnx.base, hnx.below, fun i hi => ?_, fun i => ?_, fun i => ?_, fun i hi b hb => ?_, fun i hi b hb => ?_, fun i i' hne hi hi' b hb hb' => ?_, fun i hi b hb hB => ?_⟩, e1, e2⟩
  · rcases get i with ⟨j, hj, rfl, hg⟩ | ⟨_, hg⟩
    · exact .inr ⟨by omega, by omega⟩
    · rw [hg] at hi; exact .inl (h.used i hi)
  · rcases get i with ⟨j, hj, rfl, hg⟩ | ⟨_, hg⟩
    · rw [hg]; exact (shH_wf (hR.wf j)).mono fun x hx => .inr hx
    · rw [hg]; exact (h.wf i).mono fun x hx => .inl hx
  · rcases get i with ⟨j, hj, rfl, hg⟩ | ⟨_, hg⟩
    · rw [hg, e2 j hj, e3 j hj]
      exact shH_holds (k := hs.length) e2 (wfR j) (hR.holds j)
    · rw [hg]
      by_cases hl : (H i).live = true
      · have hu := h.used i hl
        rw [e4 i hu, e1 i hu]
        exact (hnx.holds i).anchors (h.wf i) e1
      · have : H i = .dead := by cases hh : H i <;> simp_all [HB.live]
        rw [this]; trivial
  · rcases get i with ⟨j, hj, rfl, hg⟩ | ⟨_, hg⟩
    · rw [hg, shH_own.2] at hi
      rw [e3 j hj] at hb
      exact hR.lt j hi b hb
    · rw [hg] at hi
      rw [e4 i (h.used i hi)] at hb
      exact hnx.lt i hi b hb
  · rcases get i with ⟨j, hj, rfl, hg⟩ | ⟨_, hg⟩
    · rw [hg, shH_own.1] at hi
      rw [e3 j hj] at hb
      exact Nat.le_trans h.base (hR.low j hi b hb)
    · rw [hg] at hi
      rw [e4 i (h.used i (HB.live_of_own hi))] at hb
      exact h.low i hi b hb
  · rcases get i with ⟨j, hj, rfl, hg⟩ | ⟨_, hg⟩
    · rw [hg, shH_own.1] at hi
      rw [e3 j hj] at hb
      rcases get i' with ⟨j', hj', rfl, hg'⟩ | ⟨_, hg'⟩
      · rw [hg', shH_own.2] at hi'
        rw [e3 j' hj'] at hb'
        exact hR.apart j j' (by omega) hi hi' b hb hb'
      · rw [hg'] at hi'
        rw [e4 i' (h.used i' hi')] at hb'
        have h1 := h.lt i' hi' b hb'
        have h2 := hR.low j hi b hb
        omega
    · rw [hg] at hi
      have hl := HB.live_of_own hi
      rw [e4 i (h.used i hl)] at hb
      rcases get i' with ⟨j', hj', rfl, hg'⟩ | ⟨_, hg'⟩
      · rw [hg', shH_own.2] at hi'
        rw [e3 j' hj'] at hb'
        have h1 := h.lt i hl b hb
        rcases ho with ho | ho
        · have h2 := hR.low j' (ho j' hj') b hb'
          omega
        · obtain ⟨id, g1, g2, g3⟩ := ho b (hR.foot j' hi' b hb' h1)
          exact h.apart i id (by rintro rfl; rw [hi] at g2; cases g2) hi g1 b hb g3
      · rw [hg'] at hi'
        rw [e4 i' (h.used i' hi')] at hb'
        exact h.apart i i' hne hi hi' b hb hb'
  · rcases get i with ⟨j, hj, rfl, hg⟩ | ⟨_, hg⟩
    · rw [hg, shH_own.2] at hi
      rw [e3 j hj] at hb
      have hBw := h.base
      rcases ho with ho | ho
      · have h2 := hR.low j (ho j hj) b hb
        omega
      · obtain ⟨id, g1, g2, g3⟩ := ho b (hR.foot j hi b hb (by show b < w.heap.size; omega))
        exact h.foot id g1 b g3 hB
    · rw [hg] at hi
      rw [e4 i (h.used i hi)] at hb
      exact h.foot i hi b hb hB

/-! ### A call's end -/
def RetAlt (fb : Nat → Prop) (w w' : World) (v : Value) (a : Alt) : Prop := holdsO a.h ∧ ∃ ρ φ, Mem w.heap.size ⟨w, fb⟩ ρ φ (· < (concV a.r 0).2.length) (hget (concV a.r 0).2) w' ∧ DenV ρ (resSV (concV a.r 0).1) v ∧ ∀ s ∈ (concV a.r 0).1, s.wf (· < (concV a.r 0).2.length)
/-- Where a result's variable holds an argument: it is that. -/
def AlOk (w' : World) (vs : List Value) (r : List AV) (v : Value) : Prop := ∀ o t l, r = [.p o t l] → ∀ g cs ty z, v = .pointer (some ⟨g, 0, none⟩) → w'.heap[g]? = some (.cells cs ty z) → ∀ (off i : Nat), l[off]? = some (.al i) → ∃ u, cs[off]? = some u ∧ vs[i]? = some u
theorem hasL_spec : ∀ {l : List AC}, hasL l = false → ∀ (off i : Nat), l[off]? ≠ some (.al i)
  | [], _, off, i => by simp
  | x :: l, h, 0, i => by
    intro e
    simp at e
    subst e
    simp [hasL] at h
  | x :: l, h, off + 1, i => by
    have : hasL l = false := by cases x <;> simp_all [hasL]
    simpa using hasL_spec this off i
theorem alL_spec {fx : Env} : ∀ {l : List AC} {cs : List SC}, alL fx l cs = true → ∀ (off i : Nat), l[off]? = some (.al i) → ∃ a, nth .u fx i = .w (.c (.p a 0)) ∧ cs[off]? = some (.p a 0)
  | [], _, _, off, i, h => by simp at h
  | x :: l, cs, h, 0, i, e => by
    simp at e
    subst e
    cases cs with
    | nil => simp [alL] at h
    | cons c cs =>
      simp only [alL] at h
      split at h
      · rename_i a b h1
        split at h
        · rename_i hb
          have := Nat.eq_of_beq_eq_true hb
          subst this
          exact ⟨a, h1, rfl⟩
        · cases h
      · cases h
  | x :: l, cs, h, off + 1, i, e => by
    have e' : l[off]? = some (.al i) := by simpa using e
    cases cs with
    | nil =>
      have : alL fx l [] = true := by cases x <;> simp_all [alL]
      obtain ⟨a, h1, h2⟩ := alL_spec this off i e'
      simp at h2
    | cons c cs =>
      have : alL fx l cs = true := by
        cases x with
        | al k =>
          simp only [alL] at h
          split at h
          · split at h
            · exact h
            · cases h
          · cases h
        | _ => exact h
      obtain ⟨a, h1, h2⟩ := alL_spec this off i e'
      exact ⟨a, h1, by simpa using h2⟩
noncomputable def argC (args : List SV) (i : Nat) : SC := match nth .u args i with | .w (.c (.p a 0)) => .p a 0 | _ => .u
theorem subL_length {args : List SV} : ∀ {l : List AC} {cs : List SC}, (subL args l cs).length = cs.length
  | [], cs => by simp [subL]
  | x :: l, [] => by cases x <;> simp [subL]
  | x :: l, c :: cs => by cases x <;> simp [subL, subL_length (l := l) (cs := cs)]
theorem subL_get {args : List SV} : ∀ {l : List AC} {cs : List SC} {j : Nat} {c : SC}, (subL args l cs)[j]? = some c → (∃ i, l[j]? = some (.al i) ∧ c = argC args i) ∨ cs[j]? = some c
  | [], cs, j, c, h => .inr (by simpa [subL] using h)
  | x :: l, [], j, c, h => by cases x <;> simp [subL] at h
  | x :: l, c0 :: cs, 0, c, h => by
    cases x with
    | al i =>
      simp only [subL, List.getElem?_cons_zero, Option.some.injEq] at h
      exact .inl ⟨i, rfl, h.symm⟩
    | _ => exact .inr (by simpa [subL] using h)
  | x :: l, c0 :: cs, j + 1, c, h => by
    have h' : (subL args l cs)[j]? = some c := by cases x <;> simpa [subL] using h
    rcases subL_get h' with ⟨i, h1, h2⟩ | h1
    · exact .inl ⟨i, by simpa using h1, h2⟩
    · exact .inr (by simpa using h1)
/-- A variable's cells are known otherwise. -/
theorem Mem.recell {id t : Nat} {cs cs' : List SC} (hm : Mem B w0 ρ φ U H w) (hH : H id = .cells true t cs) (hd : ∀ g arr, ρ id = .pointer (some ⟨g, 0, none⟩) → w.heap[g]? = some (.cells arr t (0, 0)) → DenL ρ cs arr → DenL ρ cs' arr) (hw : ∀ c ∈ cs', c.wf U) :
    Mem B w0 ρ φ U (Eng.upd H id (.cells true t cs')) w := by
  have hl : (H id).live = true := by rw [hH]; rfl
  have ho : (H id).own = true := by rw [hH]; rfl
  have hh := hm.holds id
  rw [hH] at hh
  obtain ⟨g, arr, h1, h2, h3, h4⟩ := hh
  have := hm.put (w' := w) id (.cells true t cs') (ρ id) (φ id) (fun _ => rfl) (fun b _ _ => rfl) rfl rfl rfl (Nat.le_refl _) (fun c hc => (hw c hc).mono fun _ h => .inl h) (by rw [upd_self]; exact ⟨g, arr, h1, h2, h3, hd g arr h1 h3 h4⟩) (fun _ b hb => hm.lt id hl b hb) (fun b hb => .inr (.inl ⟨ho, hb⟩))
  rw [upd_self, upd_self] at this
  exact this.mono fun x hx => by
    rcases hx with hx | rfl
    · exact hx
    · exact hm.used _ hl
def RetOk (fb : Nat → Prop) (alts : List Alt) (w : World) (vs : List Value) : Ending → World → Prop
  | .returned v, w' => ∃ a ∈ alts, RetAlt fb w w' v a ∧ AlOk w' vs a.r v
  | _, _ => False
theorem resSV_den {ρ : Nat → Value} {ws : List SW} {v : Value} : DenV ρ (resSV ws) v ↔ ∃ vs : List Value, All2 (DenW ρ) ws vs ∧ v = (if h : vs.toArray.size = 1 then vs.toArray[0] else .tuple vs.toArray) := by
  have many : ws.length ≠ 1 → (DenV ρ (.t ws) v ↔ ∃ vs : List Value, All2 (DenW ρ) ws vs ∧ v = (if h : vs.toArray.size = 1 then vs.toArray[0] else .tuple vs.toArray)) := by
    intro hne
    rw [denT_iff]
    constructor
    · rintro ⟨vs, rfl, h⟩
      refine ⟨vs.toList, h, ?_⟩
      rw [dif_neg]
      intro hs
      have := (all2_iff.1 h).1
      apply hne
      rw [← this]
      simpa using hs
    · rintro ⟨vs, h, rfl⟩
      have := (all2_iff.1 h).1
      rw [dif_neg]
      · exact ⟨vs.toArray, rfl, h⟩
      · intro hs
        apply hne
        rw [← this]
        simpa using hs
  match ws with
  | [x] =>
    constructor
    · intro h
      exact ⟨[v], ⟨h, trivial⟩, by simp⟩
    · rintro ⟨vs, h, rfl⟩
      match vs, h with
      | [y], h => exact h.1
  | [] => exact many (by simp)
  | x :: y :: l => exact many (by simp)
theorem val_load_sc {o : Bool} {t id off ty : Nat} {l : List SC} {k : Option (K × Nat)} {z : SC} {v0 : Value} (hT : TabOk P T) (ht : look T t = some (.sc k z)) (hm : Mem B w0 ρ φ U H w) (hH : H id = .cells o ty l) (ho : off < l.length)
    (hd : DenV ρ (.w (.c (.p id off))) v0) : ∃ u, (do loadVar t (← asAddr v0)).run P w = .ok u w ∧ DenC ρ (nth .u l off) u ∧ (nth .u l off).wf U := by
  obtain ⟨g, cs, hg, hφ, hh, hl⟩ := mem_cells hm hH
  obtain ⟨i, d, v, hi, hs, hu, hp, _⟩ := td_sc hT ht
  have hv := den_p hd hg
  have hc : l[off]? = some (nth .u l off) := by rw [nth_eq, List.getD_eq_getElem?_getD, List.getElem?_eq_getElem ho]; rfl
  obtain ⟨u, hu', hdu⟩ := hl.2 off _ hc
  refine ⟨u, ?_, hdu, wf_cells hm hH _ (nth_mem ho)⟩
  have hcell : w.cell? ⟨g, off, none⟩ = some u := by rw [cell_of_row w g off cs ty (0, 0) hh]; exact hu'
  simp [hv, asAddr, loadVar, run_isAgg_sc hu hp, hcell]
theorem val_load_st {o : Bool} {t id off ty m : Nat} {l : List SC} {fs : List FD} {z : List SC} {eq : Bool} {v0 : Value} (hT : TabOk P T) (ht : look T t = some (.st m fs z eq)) (hm : Mem B w0 ρ φ U H w) (hH : H id = .cells o ty l) (ho : off + m ≤ l.length)
    (hd : DenV ρ (.w (.c (.p id off))) v0) : ∃ u, (do loadVar t (← asAddr v0)).run P w = .ok u w ∧ DenW ρ (.g (tk m (dr off l))) u ∧ (SW.g (tk m (dr off l))).wf U := by
  obtain ⟨g, cs, hg, hφ, hh, hl⟩ := mem_cells hm hH
  obtain ⟨i, F, v, hi, hu, hs, _⟩ := td_st hT ht
  have hv := den_p hd hg
  have hsz := hl.1
  have hrun : (loadCells (⟨g, off, none⟩ : Addr) m).run P w = .ok (cs.extract off (off + m)) w := by
    have := run_loadCells_list (P := P) w ⟨g, off, none⟩ (cs.extract off (off + m)).toList (fun j v hj => by
      rw [plain_addr, cell_of_row w g _ cs ty (0, 0) hh]
      rw [Array.getElem?_toList, Array.getElem?_extract] at hj
      split at hj
      · exact hj
      · cases hj)
    have hlen : (cs.extract off (off + m)).toList.length = m := by simp; omega
    rw [hlen, Array.toArray_toList] at this
    exact this
  refine ⟨.agg (cs.extract off (off + m)), ?_, ⟨_, rfl, hl.take_drop ho⟩, ?_⟩
  · simp [hv, asAddr, loadVar, run_isAgg_st hu, run_sizeOf' hi, hs, hrun]
  · intro c hc
    rw [tk_eq, dr_eq] at hc
    exact wf_cells hm hH c (List.mem_of_mem_drop (List.mem_of_mem_take hc))
theorem loadW_sound {σ : St} {t id off : Nat} {x : SW} {v0 : Value} (hT : TabOk P T) (hm : Mem B w0 ρ φ U (hget σ.H) w) (h : loadW T t id off σ.H = some x) (hd : DenV ρ (.w (.c (.p id off))) v0) :
    ∃ u, (do loadVar t (← asAddr v0)).run P w = .ok u w ∧ DenW ρ x u ∧ x.wf U := by
  unfold loadW at h
  split at h
  · rename_i o ty l k z hh ht
    split at h
    · rename_i ho
      injection h with h
      subst h
      rw [len_eq] at ho
      exact val_load_sc hT ht hm hh ho hd
    · cases h
  · rename_i o ty l m fs z eq hh ht
    split at h
    · rename_i ho
      injection h with h
      subst h
      rw [len_eq] at ho
      exact val_load_st hT ht hm hh ho hd
    · cases h
  · cases h
theorem resWs_run {σ : St} {a : Act} {g : ResultVar → Sem Value} (hT : TabOk P T) (hm : Mem B w0 ρ φ U (hget σ.H) w) (hg : ∀ t, g (.tmp t) = pure (a.tmps.getD t undef)) (hg2 : ∀ b t, g (.cell b t) = (do loadVar t (← asAddr (a.tmps.getD b undef)))) (hd : ∀ t, DenV ρ (nth .u σ.e t) (a.tmps.getD t undef) ∧ (nth .u σ.e t).wf U) : ∀ {rs : List ResultVar} {ws : List SW}, resWs T σ rs = some ws →
    ∃ vs : List Value, (rs.mapM g).run P w = .ok vs w ∧ All2 (DenW ρ) ws vs ∧ ∀ s ∈ ws, s.wf U
  | [], ws, h => by
    simp only [resWs, Option.some.injEq] at h
    subst h
    exact ⟨[], by simp, trivial, fun s h => by cases h⟩
  | .tmp t :: rs, ws, h => by
    simp only [resWs] at h
    split at h
    · rename_i x r hx hr
      injection h with h
      subst h
      obtain ⟨vs, h1, h2, h3⟩ := resWs_run hT hm hg hg2 hd hr
      have hdt := hd t
      rw [hx] at hdt
      refine ⟨a.tmps.getD t undef :: vs, ?_, ⟨hdt.1, h2⟩, fun s hs => ?_⟩
      · rw [List.mapM_cons, hg]
        simp only [Sem.run_bind, Sem.run_pure, Result.andThen_ok, h1]
      · rcases List.mem_cons.1 hs with rfl | hs
        · exact hdt.2
        · exact h3 s hs
    · cases h
  | .cell b t :: rs, ws, h => by
    simp only [resWs] at h
    split at h
    · rename_i id off hx
      split at h
      · rename_i x r hlw hr
        injection h with h
        subst h
        obtain ⟨vs, h1, h2, h3⟩ := resWs_run hT hm hg hg2 hd hr
        have hdt := (hd b).1
        rw [hx] at hdt
        obtain ⟨u, hu, hdu, hwu⟩ := loadW_sound (P := P) hT hm hlw hdt
        refine ⟨u :: vs, ?_, ⟨hdu, h2⟩, fun s hs => ?_⟩
        · rw [List.mapM_cons, hg2]
          rw [Sem.run_bind, hu]
          simp only [Sem.run_bind, Sem.run_pure, Result.andThen_ok, h1]
        · rcases List.mem_cons.1 hs with rfl | hs
          · exact hwu
          · exact h3 s hs
      · cases h
    · cases h
theorem results_run {fn : Func} {σ : St} {a : Act} {ws : List SW} (hT : TabOk P T) (hm : Mem B w0 ρ φ U (hget σ.H) w) (hd : ∀ t, DenV ρ (nth .u σ.e t) (a.tmps.getD t undef) ∧ (nth .u σ.e t).wf U) (hws : resWs T σ fn.results.toList = some ws) :
    ∃ vs : List Value, (results fn a.tmps).run P w = .ok (if h : vs.toArray.size = 1 then vs.toArray[0] else .tuple vs.toArray) w ∧ All2 (DenW ρ) ws vs ∧ ∀ s ∈ ws, s.wf U := by
  have hres : results fn a.tmps = (do
      let vs ← fn.results.mapM (fun | ResultVar.tmp t => (pure (a.tmps.getD t undef) : Sem Value) | ResultVar.cell b t => do loadVar t (← asAddr (a.tmps.getD b undef)))
      pure (if h : vs.size = 1 then vs[0] else .tuple vs)) := by
    unfold results
    congr 1
  rw [hres, Array.mapM_eq_mapM_toList]
  generalize hgg : (fun x : ResultVar => match x with | ResultVar.tmp t => (pure (a.tmps.getD t undef) : Sem Value) | ResultVar.cell b t => do loadVar t (← asAddr (a.tmps.getD b undef))) = g
  obtain ⟨vs, hrun, hvs, hwf⟩ := resWs_run (P := P) (g := g) hT hm (fun t => by rw [← hgg]) (fun b t => by rw [← hgg]) hd hws
  refine ⟨vs, ?_, hvs, hwf⟩
  simp only [Sem.run_bind, Sem.run_map, hrun, Result.andThen_ok, Sem.run_pure]
theorem fitR_sound {σ : St} {a : Act} {ws : List SW} {r : List AV} {p : Option Prop} {vs : List Value} {w' : World} (hm : Mem B w0 ρ φ (· < σ.n) (hget σ.H) w') (hd : All2 (DenW ρ) ws vs) (hw : ∀ s ∈ ws, s.wf (· < σ.n)) (h : fitR σ ws r = some p) (hp : holdsO p) :
    ∃ ρ φ, Mem B w0 ρ φ (· < (concV r 0).2.length) (hget (concV r 0).2) w' ∧ All2 (DenW ρ) (concV r 0).1 vs ∧ ∀ s ∈ (concV r 0).1, s.wf (· < (concV r 0).2.length) := by
  unfold fitR at h
  generalize concV r 0 = q at *
  obtain ⟨ts, HR⟩ := q
  simp only at h ⊢
  split at h
  · rename_i m1 p1 he
    split at h
    · rename_i m2 q2 d hx
      split at h
      · rename_i r2 hM hi hws hwh hcov
        simp only [Option.some.injEq] at h
        subst h
        obtain ⟨hp1, hp2⟩ := andO_iff.1 hp
        obtain ⟨hq2, hr2⟩ := andO_iff.1 hp2
        obtain ⟨τ1, _, hg1, hd1⟩ := fitWs_sound (good_nil (ρ := ρ) (U := (· < σ.n)) (τ := ρ)) he hp1 hd hw
        obtain ⟨τ2, he2, hg2, hf2⟩ := fitX_sound rfl hm hg1 hx hq2
        have hM' := fitM_sound rfl hm hg2 hM hr2
        rw [len_eq] at hws hwh
        have hmem := fit_mem (τ := τ2) hm ?_ hi hwh (Nat.le_refl _)
        · have hk : hget (keepH m2 0 HR) = hget HR := funext (keepH_cover hcov)
          rw [hk] at hmem
          exact ⟨τ2, _, hmem, hd1 m2 τ2 he2, wfWs_wf hws⟩
        · intro i c hic
          rcases hM' i c (lk_mem hic) with hid | ⟨c', hc', hf⟩
          · obtain ⟨_, j, hj, hf⟩ := hf2 m2 τ2 (.refl _ _) hg2 i hid
            rw [hj] at hic
            injection hic with hic
            subst hic
            rw [Nat.sub_zero] at hf
            exact hf
          · rw [hc'] at hic
            injection hic with hic
            subst hic
            exact hf
      · cases h
    · cases h
  · cases h
theorem anyAlt_spec {fx : Env} {σ : St} {ws : List SW} : ∀ {as : List Alt}, anyAlt fx σ ws as → ∃ a ∈ as, altOk fx σ ws a
  | [], h => h.elim
  | [a], h => ⟨a, by simp, h⟩
  | a :: b :: l, h => by
    rcases h with h | h
    · exact ⟨a, by simp, h⟩
    · obtain ⟨x, hx, h⟩ := anyAlt_spec (as := b :: l) h
      exact ⟨x, by simp [List.mem_cons.1 hx], h⟩
theorem retK_sound {F : Fr} {fn : Func} {as : List Alt} {σ : St} {a : Act} {w' : World} (hT : TabOk P T) (hS : Sim w.heap.size ⟨w, fb⟩ F σ a w') (h : retK T F.x fn.results.toList as σ) {args : List Value} (hF : ∀ i b, nth .u F.x i = .w (.c (.p b 0)) → args[i]? = some (F.v i)) : ∃ v, (results fn a.tmps).run P w' = .ok v w' ∧ RetOk fb as w args (.returned v) w' := by
  unfold retK at h
  split at h
  · rename_i ws hws
    obtain ⟨al, hal, ha⟩ := anyAlt_spec h
    unfold altOk at ha
    split at ha
    · rename_i p hp hch
      obtain ⟨h1, h2⟩ := andO_iff.1 ha
      obtain ⟨ρ, φ, hm, hd, hFr⟩ := hS.mem
      obtain ⟨vs, hrun, hvs, hwf⟩ := results_run (fn := fn) (a := a) hT hm hd hws
      obtain ⟨ρ', φ', hm', hd', hw'⟩ := fitR_sound (a := a) hm hvs hwf hp h2
      refine ⟨_, hrun, al, hal, ⟨h1, ρ', φ', hm', resSV_den.2 ⟨vs, hd', rfl⟩, hw'⟩, ?_⟩
      intro o t l hr g cs ty z hv hheap off i hal
      rw [hr] at hch
      simp only [alChk] at hch
      split at hch
      · rename_i hno
        exact absurd hal (hasL_spec hno off i)
      · split at hch
        · rename_i id
          split at hch
          · rename_i o2 t2 cs2 hH2
            obtain ⟨a0, ha0, hc0⟩ := alL_spec hch off i hal
            match vs, hvs with
            | [v1], hvs =>
              have hv1 : v1 = .pointer (some ⟨g, 0, none⟩) := by simpa using hv
              subst hv1
              obtain ⟨g', hρ', hg'⟩ := hvs.1
              injection hg' with hg'
              injection hg' with hg'
              injection hg' with hg'
              subst hg'
              have hh := hm.holds id
              rw [hH2] at hh
              obtain ⟨g2, arr, hρ2, _, hheap2, hL⟩ := hh
              rw [hρ'] at hρ2
              injection hρ2 with e
              injection e with e
              injection e with e
              subst e
              rw [hheap] at hheap2
              injection hheap2 with e
              injection e with e
              subst e
              obtain ⟨u, hu, g3, hg3, hu3⟩ := hL.2 off _ hc0
              refine ⟨u, hu, ?_⟩
              rw [hF i a0 ha0]
              have := (hFr i).1
              rw [ha0] at this
              obtain ⟨g4, hg4, hv4⟩ := this
              rw [hg3] at hg4
              injection hg4 with e
              injection e with e
              injection e with e
              subst e
              rw [hv4, hu3]
          · cases hch
        · cases hch
    · cases ha
  · cases h

/-! ### Contracts -/
def ConOk (P : Program) (f : Nat) (con : Con) : Prop := allArgs con.ps [] [] con.run fun e H r => ∀ (fb : Nat → Prop) (w : World) (vs : List Value), Start fb e H vs w → holdsO r.pre → Calls P f vs.toArray w (RetOk fb r.alts w vs)
theorem pad_eq (n : Nat) : pad n = List.replicate n .u := by induction n with
  | zero => rfl
  | succ n ih => rw [pad, ih]; rfl
theorem nth_pad {e : Env} {n t : Nat} : nth .u (app e (pad n)) t = nth .u e t := by
  rw [app_eq, pad_eq, nth_eq, nth_eq]
  by_cases h : t < e.length
  · simp [h, List.getElem?_append_left]
  · simp only [List.getD_eq_getElem?_getD]
    rw [List.getElem?_append_right (by omega), List.getElem?_eq_none (by omega : e.length ≤ t)]
    cases hr : (List.replicate n SV.u)[t - e.length]? with
    | none => rfl
    | some x =>
      have := List.mem_of_getElem? hr
      rw [List.mem_replicate] at this
      rw [this.2]; rfl
/-- A call's slots: its arguments, then nothing. -/
theorem args_slots {ss : List SV} {vs : List Value} {n : Nat} (hl : All2 (DenV ρ) ss vs) (hw : ∀ s ∈ ss, s.wf U) (t : Nat) :
    DenV ρ (nth .u (app ss (pad n)) t) ((vs.toArray ++ Array.replicate n undef).getD t undef) ∧ (nth .u (app ss (pad n)) t).wf U := by
  have hlen : vs.length = ss.length := (all2_iff.1 hl).1
  rw [nth_pad]
  by_cases ht : t < ss.length
  · have he : ss[t]? = some (nth .u ss t) := nth_at ht
    obtain ⟨v, hv, hd⟩ := (all2_iff.1 hl).2 t _ he
    refine ⟨?_, hw _ (List.mem_of_getElem? he)⟩
    have : (vs.toArray ++ Array.replicate n undef).getD t undef = v := by
      have h1 : t < vs.length := by omega
      have h2 : vs[t] = v := by
        have := List.getElem?_eq_getElem h1
        rw [this] at hv
        injection hv
      simp [Array.getElem?_append, h1, h2]
    rw [this]
    exact hd
  · rw [nth_out _ _ _ (by omega)]
    exact ⟨trivial, fun _ h => h.elim⟩

/-! ### Functions that are walked where they are called -/
def InlsOk (P : Program) (Is : Inls) : Prop := ∀ g en, (g, en) ∈ Is → P.funcs[g]? = some en.fn ∧ (en.fn.name == "runtime.NumGoroutine") = false
theorem inlsOk_nil : InlsOk P [] := fun _ _ h => by cases h
theorem inlsOk_cons {Is : Inls} {g : Nat} {en : InlE} (h : P.funcs[g]? = some en.fn) (hn : (en.fn.name == "runtime.NumGoroutine") = false) (hI : InlsOk P Is) : InlsOk P ((g, en) :: Is) := fun g' en' hm => by
  rcases List.mem_cons.1 hm with e | hm
  · simp only [Prod.mk.injEq] at e
    obtain ⟨rfl, rfl⟩ := e
    exact ⟨h, hn⟩
  · exact hI g' en' hm
theorem maskX_nth : ∀ (e : Env) (t : Nat), nth .u (maskX e) t = .u ∨ nth .u (maskX e) t = nth .u e t
  | [], t => .inl rfl
  | c :: l, 0 => by
    show (match keptV c with | true => c | false => .u) = .u ∨ (match keptV c with | true => c | false => .u) = c
    cases keptV c <;> simp
  | c :: l, t + 1 => maskX_nth l t
theorem maskX_length : ∀ (e : Env), (maskX e).length = e.length
  | [] => rfl
  | c :: l => by simp [maskX, maskX_length l]
theorem nth_app (a b : Env) (t : Nat) : nth .u (app a b) t = if t < a.length then nth .u a t else nth .u b (t - a.length) := by
  rw [app_eq, nth_eq, nth_eq, nth_eq]
  by_cases h : t < a.length
  · simp [h, List.getElem?_append_left]
  · simp only [if_neg h, List.getD_eq_getElem?_getD]
    rw [List.getElem?_append_right (by omega)]
theorem inl_ok {C : Cons} {Is : Inls} (hT : TabOk P T) (hC : ConsOk P C) (hP : P.follows .mixedOrders = true) (hIs : InlsOk P Is) : ∀ d, InlOk P B w0 (vcLev T C Is d)
  | 0 => fun g r h => by cases h
  | d + 1 => fun g r hg F σ a w o args k hc hr hS => by
    simp only [vcLev] at hg
    split at hg
    · rename_i en hen
      injection hg with hg
      subst hg
      obtain ⟨hfn, hname⟩ := hIs g en (lk_mem hen)
      have hname' : en.fn.name ≠ "runtime.NumGoroutine" := by simpa using hname
      unfold enter at hr
      split at hr
      · rename_i code hbody
        simp only at hr
        obtain ⟨hdef, hsz, ρ, φ, hm, hd, hF⟩ := hS
        obtain ⟨dst, op, tt, pos, af, gd⟩ := o
        simp only at hc
        unfold callee at hc
        split at hc
        · rename_i c
          split at hc
          · rename_i f hcal
            split at hc
            · rename_i g' hev
              simp only [Option.some.injEq, Prod.mk.injEq] at hc
              obtain ⟨rfl, rfl⟩ := hc
              have hden := fun x => ev_den (fun t => (hd t).1) x
              have hwf := fun x => ev_wf (fun t => (hd t).2) x
              have hf := hden f
              rw [hev] at hf
              have hf : a.eval f = .func (.func g') #[] #[] := hf
              have hargs : All2 (DenV ρ) (evs σ.e c.args.toList) (c.args.toList.map a.eval) ∧ ∀ s ∈ evs σ.e c.args.toList, s.wf (· < σ.n) := by
                generalize c.args.toList = l
                induction l with
                | nil => exact ⟨trivial, fun s h => by cases h⟩
                | cons x l ih => exact ⟨⟨hden x, ih.1⟩, fun s h => by
                    rcases List.mem_cons.1 h with rfl | h
                    · exact hwf x
                    · exact ih.2 s h⟩
              have hexec : (execOp a.eval ⟨dst, .call c, tt, pos, af, gd⟩).run P w = .ok (.enter g' (c.args.map a.eval)) w := by
                simp [execOp, resolve, hcal, hf, Deferred.ofValue, invoke, callFunc, hfn, hname', hbody]
              rw [hexec]
              show Calls P g' (c.args.map a.eval) w _
              have hargs' : (c.args.toList.map a.eval).toArray = c.args.map a.eval := by apply Array.ext'; simp [Array.toList_map]
              rw [← hargs']
              have hlen : (c.args.toList.map a.eval).length = (evs σ.e c.args.toList).length := (all2_iff.1 hargs.1).1
              have hat : ∀ t, nth .u (maskX σ.e) t = .u ∨ nth .u (maskX σ.e) t = nth .u σ.e t := maskX_nth σ.e
              have hmask : ∀ t, DenV ρ (nth .u (maskX σ.e) t) (a.tmps.getD t undef) ∧ (nth .u (maskX σ.e) t).wf (· < σ.n) := fun t => by
                rcases hat t with h | h
                · rw [h]; exact ⟨trivial, fun _ h => h.elim⟩
                · rw [h]; exact hd t
              let F' : Fr := ⟨app (maskX σ.e) F.x, fun j => if j < σ.e.length then a.tmps.getD j undef else F.v (j - σ.e.length)⟩
              have hF' : F'.ok ρ (· < σ.n) := fun j => by
                show DenV ρ (nth .u (app (maskX σ.e) F.x) j) (if j < σ.e.length then a.tmps.getD j undef else F.v (j - σ.e.length)) ∧ (nth .u (app (maskX σ.e) F.x) j).wf _
                rw [nth_app, maskX_length]
                by_cases hj : j < σ.e.length
                · rw [if_pos hj, if_pos hj]; exact hmask j
                · rw [if_neg hj, if_neg hj]; exact hF _
              refine calls_of_wp hfn hbody ?_
              have hend : ∀ σ' a' w', (match resWs T σ' en.fn.results.toList with | some ws => k (resSV ws) ⟨maskX σ.e, σ'.H, σ'.n⟩ | none => Bad 21 Nat 0) → Sim B w0 F' σ' a' w' →
                  a'.defers = [] ∧ ∃ v, (results en.fn a'.tmps).run P w' = .ok v w' ∧ (∃ s σ'', k s σ'' ∧ SimV B w0 F σ'' a w' s v) := by
                intro σ' a' w' hk hS'
                split at hk
                · rename_i ws hws
                  obtain ⟨hdef', hsz', ρ', φ', hm', hd', hF''⟩ := hS'
                  obtain ⟨vs, hrun, hvs, hwfs⟩ := results_run (fn := en.fn) (a := a') hT hm' hd' hws
                  refine ⟨hdef', _, hrun, _, _, hk, hdef, by rw [maskX_length]; exact hsz, ρ', φ', hm', fun t => ?_, fun j => ?_, resSV_den.2 ⟨vs, hvs, rfl⟩, ?_⟩
                  · by_cases ht : t < σ.e.length
                    · have := hF'' t
                      simp only [F', nth_app, maskX_length, if_pos ht] at this
                      exact this
                    · rw [nth_out _ _ _ (by rw [maskX_length]; omega)]
                      exact ⟨trivial, fun _ h => h.elim⟩
                  · have := hF'' (σ.e.length + j)
                    simp only [F', nth_app, maskX_length] at this
                    rw [if_neg (by omega), if_neg (by omega), Nat.add_sub_cancel_left] at this
                    exact this
                  · unfold resSV
                    split
                    · exact hwfs _ (by simp)
                    · exact hwfs
                · cases hk
              refine vcCode_sound (F := F') hT hC (inl_ok hT hC hP hIs d) hP code _ _ _ _ w ⟨fun σ' a' w' hk hS' => hend σ' a' w' hk hS', fun σ' a' w' hk hS' => hend σ' a' w' hk hS', fun i k hk => by cases hk⟩ hr ⟨rfl, ?_, ρ, φ, hm, fun t => ?_, hF'⟩
              · rw [app_eq, pad_eq, len_eq]
                simp
                simp at hlen
                omega
              · have := args_slots (n := en.fn.ntmps - len (evs σ.e c.args.toList)) hargs.1 hargs.2 t
                rw [len_eq, ← hlen] at this
                rw [len_eq, ← hlen]
                simpa using this
            · cases hc
          · cases hc
        · cases hc
      · cases hr
    · cases hg
theorem fn_ok {C : Cons} {Is : Inls} {A : List (Nat × LA)} {f : Nat} {fn : Func} {con : Con} (hT : TabOk P T) (hC : ConsOk P C) (hIs : InlsOk P Is) (hP : P.follows .mixedOrders = true) (hf : P.funcs[f]? = some fn) (h : vcFnI T C Is A fn con) : ConOk P f con := by
  unfold vcFnI at h
  split at h
  · rename_i c hb
    refine allArgs_mono (fun e H r hk fb w vs hs hpre => ?_) h
    have hk := imp_iff.1 hk hpre
    refine calls_of_wp hf hb ?_
    obtain ⟨ρ, φ, hm, hl, hw⟩ := start_mem hs
    have hlen : vs.length = e.length := (all2_iff.1 hl).1
    have hat : ∀ j, (nth .u (fxOf r.alts e) j = .u) ∨ (∃ v, e[j]? = some (nth .u (fxOf r.alts e) j) ∧ vs[j]? = some v ∧ DenV ρ (nth .u (fxOf r.alts e) j) v) := by
      intro j
      unfold fxOf
      split
      · by_cases hj : j < e.length
        · have h1 : e[j]? = some (nth .u e j) := nth_at hj
          obtain ⟨v, hv, hdv⟩ := (all2_iff.1 hl).2 j _ h1
          exact .inr ⟨v, h1, hv, hdv⟩
        · exact .inl (nth_out _ _ _ (by omega))
      · exact .inl (nth_nil _ _)
    have hFv : ∀ i b, nth .u (fxOf r.alts e) i = .w (.c (.p b 0)) → vs[i]? = some ((fun j => vs.getD j undef) i) := by
      intro i b hi
      rcases hat i with h0 | ⟨v, _, hv, _⟩
      · rw [hi] at h0; cases h0
      · rw [hv]; simp [List.getD, hv]
    have hK : KOk w.heap.size ⟨w, fb⟩ ⟨fxOf r.alts e, fun j => vs.getD j undef⟩ ⟨retK T (fxOf r.alts e) fn.results.toList r.alts, retK T (fxOf r.alts e) fn.results.toList r.alts, []⟩ (bodyPost P fn (RetOk fb r.alts w vs)) := by
      refine ⟨fun σ a w' hk hS => ?_, fun σ a w' hk hS => ?_, fun i k hk => by cases hk⟩
      · obtain ⟨v, h1, h2⟩ := retK_sound (P := P) (F := ⟨fxOf r.alts e, fun j => vs.getD j undef⟩) hT hS hk hFv
        exact ⟨hS.defers, v, h1, h2⟩
      · obtain ⟨v, h1, h2⟩ := retK_sound (P := P) (F := ⟨fxOf r.alts e, fun j => vs.getD j undef⟩) hT hS hk hFv
        exact ⟨hS.defers, v, h1, h2⟩
    refine vcCode_sound (F := ⟨fxOf r.alts e, fun j => vs.getD j undef⟩) hT hC (inl_ok hT hC hP hIs 4) hP c _ _ _ _ w hK hk ⟨rfl, ?_, ρ, φ, by show Mem _ _ ρ φ (· < len H) (hget H) w; rw [len_eq]; exact hm, fun t => ?_, fun j => ?_⟩
    · rw [app_eq, pad_eq, len_eq]
      simp
      omega
    · have := args_slots (n := fn.ntmps - len e) hl hw t
      rw [len_eq, ← hlen] at this
      rw [len_eq H, len_eq e, ← hlen]
      simpa using this
    · show DenV ρ (nth .u (fxOf r.alts e) j) (vs.getD j undef) ∧ (nth .u (fxOf r.alts e) j).wf (· < len H)
      rcases hat j with h0 | ⟨v, h1, hv, hdv⟩
      · rw [h0]; exact ⟨trivial, fun _ h => h.elim⟩
      · refine ⟨by simpa [List.getD, hv] using hdv, ?_⟩
        rw [len_eq]
        exact hw _ (List.mem_of_getElem? h1)
  · cases h

theorem gotAlts_mem {n : Nat} {args : List SV} : ∀ {as : List Alt} {l : List (Option Prop × Out)}, gotAlts n args as = some l → ∀ a ∈ as, ∃ ws hs hs', concV a.r n = (ws, hs) ∧ ownH hs = true ∧ (hs' = hs ∨ (hasR a.r = true ∧ hs' = subA args a.r hs)) ∧ (a.h, ⟨resSV ws, numb n hs', n + len hs, none⟩) ∈ l
  | [], l, hs => fun a h => by cases h
  | a :: as, l, hs => by
    simp only [gotAlts] at hs
    split at hs
    · rename_i ws hh r hc hr
      split at hs
      · rename_i ho
        split at hs
        · rename_i hR
          injection hs with hs
          subst hs
          intro x hx
          rcases List.mem_cons.1 hx with rfl | hx
          · exact ⟨ws, hh, _, hc, ho, .inr ⟨hR, rfl⟩, by simp⟩
          · obtain ⟨ws', hs', hs'', h1, h2, h3, h4⟩ := gotAlts_mem hr x hx
            exact ⟨ws', hs', hs'', h1, h2, h3, by simp [h4]⟩
        · injection hs with hs
          subst hs
          intro x hx
          rcases List.mem_cons.1 hx with rfl | hx
          · exact ⟨ws, hh, hh, hc, ho, .inl rfl, by simp⟩
          · obtain ⟨ws', hs', hs'', h1, h2, h3, h4⟩ := gotAlts_mem hr x hx
            exact ⟨ws', hs', hs'', h1, h2, h3, by simp [h4]⟩
      · cases hs
    · cases hs
theorem evs_at {en : Env} : ∀ (l : List Operand) (i : Nat), nth .u (evs en l) i = .u ∨ ∃ x, l[i]? = some x ∧ nth .u (evs en l) i = ev en x
  | [], i => .inl (nth_nil _ _)
  | x :: l, 0 => .inr ⟨x, rfl, rfl⟩
  | x :: l, i + 1 => by
    rcases evs_at (en := en) l i with h | ⟨y, hy, h⟩
    · exact .inl h
    · exact .inr ⟨y, by simpa using hy, h⟩
theorem gotV_mem {n : Nat} : ∀ {as : List Alt} {a : Alt}, a ∈ as → (a.h, (⟨resSV (concV a.r n).1, numb n (concV a.r n).2, n + len (concV a.r n).2, none⟩ : Out)) ∈ gotV n as
  | x :: as, a, h => by
    simp only [gotV]
    rcases List.mem_cons.1 h with rfl | h
    · exact List.mem_cons_self ..
    · exact List.mem_cons_of_mem _ (gotV_mem h)
/-- All that is told holds. -/
theorem consOk_of {C : Cons} (h : ∀ f con, (f, con) ∈ C → ConOk P f con ∧ ∃ fn c, P.funcs[f]? = some fn ∧ (fn.name == "runtime.NumGoroutine") = false ∧ fn.body = some c) : ConsOk P C := by
  intro en Hl n c f g con r p l hcal hev' hcon hrun hgot B w0 w ρ φ U H a dst tt pos af gd hev hwf hH hm hU hp hpre
  obtain ⟨hok, fn, code, hfn, hname, hbody⟩ := h g con (lk_mem hcon)
  have hname' : fn.name ≠ "runtime.NumGoroutine" := by simpa using hname
  have hf := hev f
  rw [hev'] at hf
  have hf : a f = .func (.func g) #[] #[] := hf
  have hargs : All2 (DenV ρ) (evs en c.args.toList) (c.args.toList.map a) := by
    generalize c.args.toList = l
    induction l with
    | nil => trivial
    | cons x l ih => exact ⟨hev x, ih⟩
  let fb : Nat → Prop := fun b => ∃ id, (hget Hl id).live = true ∧ φ id b
  have hfb : ∀ id, (hget Hl id).live = true → ∀ b, φ id b → fb b := fun id hl b hb => ⟨id, hl, hb⟩
  have hfl : ∀ b, fb b → b < w.heap.size := fun b hb => by
    obtain ⟨id, hl, hb⟩ := hb
    exact hm.lt id (by rw [hH id hl]; exact hl) b hb
  obtain ⟨e, Hs, hk, hst⟩ := allArgs_run hH hm hfb hrun hp hargs (start_nil hfl) hok
  have hcalls := hk fb w _ hst hpre
  have hexec : (execOp a ⟨dst, .call c, tt, pos, af, gd⟩).run P w = .ok (.enter g (c.args.map a)) w := by
    simp [execOp, resolve, hcal, hf, Deferred.ofValue, invoke, callFunc, hfn, hname', hbody]
  rw [hexec]
  show Calls P g (c.args.map a) w _
  have hargs' : (c.args.toList.map a).toArray = c.args.map a := by apply Array.ext'; simp [Array.toList_map]
  rw [← hargs']
  rw [List.nil_append] at hcalls
  refine Calls.mono hcalls fun en' w' hret => ?_
  cases en' with
  | panicked ch => exact hret.elim
  | outgrown => exact hret.elim
  | returned v =>
    obtain ⟨al, hal, ⟨hh, ρR, φR, hmR, hdR, hwR⟩, hAl⟩ := hret
    have hgot2 : ∃ ws hs hs', concV al.r n = (ws, hs) ∧ (ownH hs = true ∨ ∀ id, (hget Hl id).own = false) ∧ (hs' = hs ∨ (ownH hs = true ∧ hasR al.r = true ∧ hs' = subA (evs en c.args.toList) al.r hs)) ∧ (al.h, (⟨resSV ws, numb n hs', n + len hs, none⟩ : Out)) ∈ l := by
      rcases hgot with hgot | ⟨hno, rfl⟩
      · obtain ⟨ws, hs, hs', hc, ho, hsub, hmem⟩ := gotAlts_mem hgot al hal
        exact ⟨ws, hs, hs', hc, .inl ho, hsub.imp id fun q => ⟨ho, q⟩, hmem⟩
      · exact ⟨(concV al.r n).1, (concV al.r n).2, _, rfl, .inr hno, .inl rfl, gotV_mem hal⟩
    obtain ⟨ws, hs, hs', hc, ho, hsub, hmem⟩ := hgot2
    have hsh := concV_shift n al.r 0
    rw [Nat.add_zero, hc] at hsh
    simp only [Prod.mk.injEq] at hsh
    obtain ⟨rfl, rfl⟩ := hsh
    have hoR0 : ownH ((concV al.r 0).2.map (shH n)) = true → ∀ i, i < (concV al.r 0).2.length → (hget (concV al.r 0).2 i).own = true := by
      intro ho i hi
      have := ownH_get ho i (by simpa using hi)
      have hg : hget ((concV al.r 0).2.map (shH n)) i = shH n (hget (concV al.r 0).2 i) := by
        simp only [hget, nth_eq]
        simp [hi]
      rw [hg, shH_own.1] at this
      exact this
    have hoJ : (∀ i, i < (concV al.r 0).2.length → (hget (concV al.r 0).2 i).own = true) ∨ ∀ b, fb b → ∃ id, (H id).live = true ∧ (H id).own = false ∧ φ id b := by
      rcases ho with ho | ho
      · exact .inl (hoR0 ho)
      · refine .inr fun b hb => ?_
        obtain ⟨id, hl, hb⟩ := hb
        exact ⟨id, by rw [hH id hl]; exact hl, by rw [hH id hl]; exact ho id, hb⟩
    obtain ⟨ρ', φ', hm', h1, h2⟩ := hm.join hmR hoJ (fun q hq hq' => hU _ _ hmem q hq (by simpa [len_eq] using hq'))
    refine ⟨al.h, _, hmem, hh, ρ', φ', ?_, h1, ?_, ?_⟩
    · show Mem B w0 ρ' φ' (U' U n (n + len ((concV al.r 0).2.map (shH n)))) _ w'
      rw [len_eq, List.length_map]
      rcases hsub with rfl | ⟨ho, hR, rfl⟩
      · exact hm'
      · have hr : ∃ o t l, al.r = [.p o t l] := by
          revert hR
          unfold hasR
          split
          · rename_i o t l hr
            exact fun _ => ⟨o, t, l, hr⟩
          · intro h; cases h
        obtain ⟨o, t, l, hr⟩ := hr
        have hcv : concV al.r 0 = ([.c (.p 0 0)], .cells o t (concL l 1).1 :: (concL l 1).2) := by
          rw [hr]
          simp only [concV, AV.conc, app_eq, List.append_nil]
        have hoR := hoR0 ho
        rw [hcv] at hm' hdR h2 hoR ⊢
        have ho' : o = true := hoR 0 (Nat.succ_pos _)
        subst ho'
        rw [hr]
        show Mem B w0 ρ' φ' _ (applyD H (numb n (.cells true t (subL (evs en c.args.toList) l ((concL l 1).1.map (shC n))) :: (concL l 1).2.map (shH n)))) w'
        have hfun : applyD H (numb n (.cells true t (subL (evs en c.args.toList) l ((concL l 1).1.map (shC n))) :: (concL l 1).2.map (shH n))) =
            Eng.upd (applyD H (numb n ((HB.cells true t (concL l 1).1 :: (concL l 1).2).map (shH n)))) n (.cells true t (subL (evs en c.args.toList) l ((concL l 1).1.map (shC n)))) := by
          funext i
          by_cases hi : i = n
          · subst hi
            rw [upd_same, numb_get, if_pos (by simp), Nat.sub_self]
            rfl
          · rw [upd_ne _ _ hi, numb_get, numb_get]
            simp only [List.map_cons, List.length_cons]
            by_cases hc2 : n ≤ i ∧ i < n + (((concL l 1).2.map (shH n)).length + 1)
            · rw [if_pos hc2, if_pos hc2]
              have : i - n = (i - n - 1) + 1 := by omega
              rw [this]
              rfl
            · rw [if_neg hc2, if_neg hc2]
        rw [hfun]
        have hHn : applyD H (numb n ((HB.cells true t (concL l 1).1 :: (concL l 1).2).map (shH n))) n = .cells true t ((concL l 1).1.map (shC n)) := by
          rw [numb_get, if_pos (by simp), Nat.sub_self]
          rfl
        refine Mem.recell hm' hHn (fun g arr hρ harr hL => ⟨by rw [subL_length]; exact hL.1, fun j cj hj => ?_⟩) (fun cj hj => ?_)
        · rcases subL_get hj with ⟨i, hi, rfl⟩ | hj
          · have hv : v = .pointer (some ⟨g, 0, none⟩) := by
              have hdR' : DenW ρR (.c (.p 0 0)) v := hdR
              obtain ⟨g0, e1, e2⟩ := hdR'
              have := h2 0 (Nat.succ_pos _)
              rw [Nat.add_zero, hρ, e1] at this
              injection this with e
              injection e with e
              injection e with e
              subst e
              exact e2
            obtain ⟨u, hu, hui⟩ := hAl true t l hr g arr t (0, 0) hv harr j i hi
            refine ⟨u, hu, ?_⟩
            unfold argC
            split
            · rename_i a0 h0
              rcases evs_at (en := en) c.args.toList i with e | ⟨x, hx, e⟩
              · rw [e] at h0; cases h0
              · rw [e] at h0
                have hd1 := hev x
                have hw1 := hwf x
                rw [h0] at hd1 hw1
                rw [List.getElem?_map, hx] at hui
                have hux : u = a x := by simpa using hui.symm
                rw [hux]
                exact DenC.anchors hd1 fun y hy => h1 y (hw1 y hy)
            · trivial
          · exact hL.2 j cj hj
        · obtain ⟨j, hj⟩ := List.getElem?_of_mem hj
          rcases subL_get hj with ⟨i, hi, rfl⟩ | hj
          · unfold argC
            split
            · rename_i a0 h0
              rcases evs_at (en := en) c.args.toList i with e | ⟨x, hx, e⟩
              · rw [e] at h0; cases h0
              · rw [e] at h0
                have hw1 := hwf x
                rw [h0] at hw1
                exact fun y hy => .inl (hw1 y hy)
            · exact fun _ h => h.elim
          · have := hm'.wf n
            rw [hHn] at this
            exact this cj (List.mem_of_getElem? hj)
    · obtain ⟨vs, hvs, rfl⟩ := resSV_den.1 hdR
      refine resSV_den.2 ⟨vs, ?_, rfl⟩
      generalize (concV al.r 0).1 = ws0 at hvs hwR
      clear hmem hc hdR hAl
      induction ws0 generalizing vs with
      | nil => cases vs with
        | nil => trivial
        | cons _ _ => exact hvs.elim
      | cons x l ih => cases vs with
        | nil => exact hvs.elim
        | cons v vs => exact ⟨shW_den (fun i hi => h2 i hi) (hwR x (by simp)) hvs.1, ih vs hvs.2 (fun s hs => hwR s (by simp [hs]))⟩
    · have hall : ∀ s ∈ (concV al.r 0).1.map (shW n), s.wf (U' U n (n + len ((concV al.r 0).2.map (shH n)))) := by
        intro s hs
        obtain ⟨s0, hs0, rfl⟩ := List.mem_map.1 hs
        refine (shW_wf (hwR s0 hs0)).mono fun x hx => .inr ?_
        rw [len_eq, List.length_map]
        exact hx
      show (resSV _).wf _
      unfold resSV
      split
      · rename_i x hx
        exact hall x (by rw [hx]; simp)
      · exact hall
/-- What is told of a function holds, and it may be called. -/
def Told (P : Program) (f : Nat) (con : Con) : Prop := ConOk P f con ∧ ∃ fn c, P.funcs[f]? = some fn ∧ (fn.name == "runtime.NumGoroutine") = false ∧ fn.body = some c
def CsOk (P : Program) (C : Cons) : Prop := ∀ f con, (f, con) ∈ C → Told P f con
theorem csOk_nil : CsOk P [] := fun _ _ h => by cases h
theorem csOk_cons {C : Cons} {f : Nat} {con : Con} (h : Told P f con) (hC : CsOk P C) : CsOk P ((f, con) :: C) := fun g c hm => by
  rcases List.mem_cons.1 hm with e | hm
  · simp only [Prod.mk.injEq] at e
    obtain ⟨rfl, rfl⟩ := e
    exact h
  · exact hC g c hm
theorem toldI0 {C : Cons} {Is : Inls} {A : List (Nat × LA)} {f : Nat} {fn : Func} {con : Con} (hT : TabOk P T) (hP : P.follows .mixedOrders = true) (hC : CsOk P C) (hIs : InlsOk P Is) (hf : P.funcs[f]? = some fn) (hn : (fn.name == "runtime.NumGoroutine") = false) {p : Prop} (e : vcFnI T C Is A fn con = p) (h : p) : Told P f con := by
  subst e
  refine ⟨fn_ok hT (consOk_of hC) hIs hP hf h, fn, ?_⟩
  unfold vcFnI at h
  split at h
  · rename_i c hb
    exact ⟨c, hf, hn, hb⟩
  · cases h
end
end Go.Eng
