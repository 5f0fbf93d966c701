/- Conditions are sound: operations in any order. -/
import Derived.Test.YtadblcopmoiaaaaEFit2
set_option linter.unusedVariables false
set_option linter.unusedSimpArgs false
namespace Go.Eng
open Go Go.RowKit

/-! ### What the lists tell -/
theorem maskE_nth : ∀ (ds : List Tmp) (e : Env) (x : Nat), (x ∈ ds → nth .u (maskE ds e) x = .u) ∧ (x ∉ ds → nth .u (maskE ds e) x = nth .u e x)
  | [], e, x => ⟨fun h => (by cases h), fun _ => rfl⟩
  | d :: l, e, x => by
    have ih := maskE_nth l e x
    have hl : (maskE (d :: l) e) = put .u (maskE l e) d := rfl
    rw [hl]
    by_cases hd : x = d
    · subst hd
      refine ⟨fun _ => ?_, fun h => absurd (List.mem_cons_self ..) h⟩
      by_cases hx : x < (maskE l e).length
      · exact nth_put_same _ _ _ _ hx
      · rw [nth_out _ _ _ (by rw [put_length]; omega)]
    · rw [nth_put_ne _ _ _ _ _ hd]
      refine ⟨fun h => ih.1 ?_, fun h => ih.2 fun h' => h (List.mem_cons_of_mem _ h')⟩
      rcases List.mem_cons.1 h with h | h
      · exact absurd h hd
      · exact h
theorem maskE_length : ∀ (ds : List Tmp) (e : Env), (maskE ds e).length = e.length
  | [], _ => rfl
  | d :: l, e => by
    have hl : (maskE (d :: l) e) = put .u (maskE l e) d := rfl
    rw [hl, put_length, maskE_length l e]
theorem incDst_mem {ancs : List Nat} {i : Nat} : ∀ {l : List Oper} {k j : Nat} {o : Oper} {x : Nat}, l[j]? = some o → isInc ancs i (k + j) = true → o.dst = some x → x ∈ incDst ancs i k l
  | [], _, _, _, _, h, _, _ => by simp at h
  | o0 :: l, k, 0, o, x, h, hi, hd => by
    simp at h; subst h
    unfold incDst
    rw [Nat.add_zero] at hi
    rw [hi, hd]
    simp
  | o0 :: l, k, j + 1, o, x, h, hi, hd => by
    have h' : l[j]? = some o := by simpa using h
    have := incDst_mem (k := k + 1) h' (by rw [show k + 1 + j = k + (j + 1) by omega]; exact hi) hd
    unfold incDst
    split
    · exact List.mem_cons_of_mem _ this
    · exact this
theorem hasKey_dead : ∀ {d : List (Nat × HB)} {H : Heap} {q : Nat}, (hasKey q d = true → hget (deadL d H) q = .dead) ∧ (hasKey q d = false → hget (deadL d H) q = hget H q)
  | [], H, q => ⟨fun h => (by cases h), fun _ => rfl⟩
  | (a, b) :: d, H, q => by
    have ih := hasKey_dead (d := d) (H := H) (q := q)
    have e : deadL ((a, b) :: d) H = setAt (deadL d H) a .dead := rfl
    rw [e, hget_setAt]
    unfold hasKey
    by_cases h : a = q
    · subst h
      simp [upd_same]
    · have hb : (a == q) = false := by simpa using h
      rw [hb, upd_ne _ _ (Ne.symm h)]
      exact ih
theorem maskH_spec {ancs : List Nat} {i : Nat} : ∀ {L : List LE} {H : Heap} {q : Nat}, (hget (maskH ancs i L H) q).live = true → hget (maskH ancs i L H) q = hget H q ∧ ∀ l ∈ L, isInc ancs i l.ix = true → hasKey q l.d = false
  | [], H, q, h => ⟨rfl, fun l hl => by cases hl⟩
  | l :: L, H, q, h => by
    unfold maskH at h ⊢
    split at h
    · rename_i hi
      cases hk : hasKey q l.d with
      | true => rw [hasKey_dead.1 hk] at h; cases h
      | false =>
        rw [hasKey_dead.2 hk] at h
        obtain ⟨h1, h2⟩ := maskH_spec h
        refine ⟨(hasKey_dead.2 hk).trans h1, fun l' hl' hi' => ?_⟩
        rcases List.mem_cons.1 hl' with rfl | hl'
        · exact hk
        · exact h2 l' hl' hi'
    · rename_i hi
      obtain ⟨h1, h2⟩ := maskH_spec h
      refine ⟨h1, fun l' hl' hi' => ?_⟩
      rcases List.mem_cons.1 hl' with rfl | hl'
      · rw [hi] at hi'; cases hi'
      · exact h2 l' hl' hi'
theorem hasKey_mem {q : Nat} : ∀ {d : List (Nat × HB)}, hasKey q d = true ↔ ∃ b, (q, b) ∈ d
  | [] => by simp [hasKey]
  | (a, b) :: d => by
    unfold hasKey
    by_cases h : a = q
    · subst h
      simp only [beq_self_eq_true]
      exact ⟨fun _ => ⟨b, by simp⟩, fun _ => trivial⟩
    · have hb : (a == q) = false := by simpa using h
      rw [hb]
      rw [hasKey_mem (d := d)]
      constructor
      · rintro ⟨b', hb'⟩; exact ⟨b', by simp [hb']⟩
      · rintro ⟨b', hb'⟩
        rcases List.mem_cons.1 hb' with e | e
        · simp only [Prod.mk.injEq] at e; exact absurd e.1.symm h
        · exact ⟨b', e⟩
theorem freeOf_spec {l : LE} : ∀ {d : List (Nat × HB)}, freeOf l d = true → ∀ q, hasKey q d = true → hasKey q l.d = false ∧ (hget l.H q).live = false
  | [], _, q, h => by cases h
  | (a, b) :: d, h, q, hq => by
    unfold freeOf at h
    split at h
    · rename_i h1 h2
      unfold hasKey at hq
      split at hq
      · rename_i e
        have e : a = q := by simpa using e
        subst e
        exact ⟨h1, h2⟩
      · exact freeOf_spec h q hq
    · cases h
theorem apartL_spec {ancs : List Nat} {i : Nat} {d : List (Nat × HB)} : ∀ {L : List LE}, apartL ancs i d L = true → ∀ l ∈ L, isInc ancs i l.ix = true → ∀ q, hasKey q d = true → hasKey q l.d = false ∧ (hget l.H q).live = false
  | [], _, l, hl => by cases hl
  | l0 :: L, h, l, hl => by
    unfold apartL at h
    split at h
    · split at h
      · rename_i hf
        intro hi q hq
        rcases List.mem_cons.1 hl with rfl | hl
        · exact freeOf_spec hf q hq
        · exact apartL_spec h l hl hi q hq
      · cases h
    · rename_i hi0
      intro hi q hq
      rcases List.mem_cons.1 hl with rfl | hl
      · rw [hi0] at hi; cases hi
      · exact apartL_spec h l hl hi q hq

/-! ### Who stands before whom -/
theorem bit_eq (m i : Nat) : bit m i = Nat.testBit m i := by
  unfold bit Nat.testBit
  show (!(Nat.beq (1 &&& m >>> i) 0)) = (1 &&& m >>> i != 0)
  generalize (1 &&& m >>> i) = x
  cases x with
  | zero => rfl
  | succ x => rfl
theorem bit_or (a b i : Nat) : bit (Nat.lor a b) i = (bit a i || bit b i) := by
  rw [bit_eq, bit_eq, bit_eq]
  exact Nat.testBit_or a b i
theorem bit_shl (k i : Nat) : bit (Nat.shiftLeft 1 k) i = decide (k = i) := by
  rw [bit_eq]
  have : Nat.shiftLeft 1 k = 2 ^ k := by
    show 1 <<< k = 2 ^ k
    rw [Nat.shiftLeft_eq, Nat.one_mul]
  rw [this, Nat.testBit_two_pow]
theorem ancOf_spec {acc : List Nat} : ∀ {es : List Edge} {j : Nat}, bit (ancOf acc es) j = true → ∃ e ∈ es, Region.binds .any e = true ∧ (j = e.on ∨ bit (nth 0 acc e.on) j = true)
  | [], j, h => by
    unfold ancOf at h
    rw [bit_eq, Nat.zero_testBit] at h; cases h
  | e :: l, j, h => by
    unfold ancOf at h
    split at h
    · rename_i hb
      rw [bit_or, bit_or, bit_shl] at h
      simp only [Bool.or_eq_true, decide_eq_true_eq] at h
      rcases h with (h | h) | h
      · exact ⟨e, by simp, hb, .inl h.symm⟩
      · exact ⟨e, by simp, hb, .inr h⟩
      · obtain ⟨e', he', h1, h2⟩ := ancOf_spec h
        exact ⟨e', by simp [he'], h1, h2⟩
    · obtain ⟨e', he', h1, h2⟩ := ancOf_spec h
      exact ⟨e', by simp [he'], h1, h2⟩
theorem edgesOk_spec {i : Nat} : ∀ {es : List Edge}, edgesOk i es = true → ∀ e ∈ es, Region.binds .any e = true → e.on < i
  | [], _, e, h => by cases h
  | e0 :: l, h, e, he => by
    unfold edgesOk at h
    split at h
    · cases h
    · rename_i hno
      intro hb
      rcases List.mem_cons.1 he with rfl | he
      · cases hlt : Nat.blt e.on i with
        | true => simpa [Nat.blt_eq] using hlt
        | false => exact (hno hb hlt).elim
      · exact edgesOk_spec h e he hb
/-- What the list of ancestors is. -/
structure Ancs (ops : List Oper) (ancs : List Nat) : Prop where
  up : ∀ i o j, ops[i]? = some o → bit (nth 0 ancs i) j = true → ∃ e ∈ o.after.toList, Region.binds .any e = true ∧ (j = e.on ∨ bit (nth 0 ancs e.on) j = true)
  lt : ∀ i o, ops[i]? = some o → ∀ e ∈ o.after.toList, Region.binds .any e = true → e.on < i
theorem ancsGo_spec : ∀ {r : List Oper} {acc ancs : List Nat} {ops : List Oper}, ancsGo r acc = some ancs → ops.drop acc.length = r → acc.length ≤ ops.length →
    (∀ i o j, i < acc.length → ops[i]? = some o → bit (nth 0 acc i) j = true → ∃ e ∈ o.after.toList, Region.binds .any e = true ∧ (j = e.on ∨ bit (nth 0 acc e.on) j = true)) →
    (∀ i o, i < acc.length → ops[i]? = some o → ∀ e ∈ o.after.toList, Region.binds .any e = true → e.on < i) → Ancs ops ancs
  | [], acc, ancs, ops, h, hr, hle, h1, h2 => by
    simp only [ancsGo, Option.some.injEq] at h
    subst h
    have hlen : ops.length = acc.length := by
      have := congrArg List.length hr
      simp at this
      omega
    refine ⟨fun i o j hi => h1 i o j ?_ hi, fun i o hi => h2 i o ?_ hi⟩ <;>
    · have := (List.getElem?_eq_some_iff.1 hi).1
      omega
  | o0 :: r, acc, ancs, ops, h, hr, hle, h1, h2 => by
    simp only [ancsGo] at h
    split at h
    · rename_i he
      rw [len_eq] at he
      have hat : ops[acc.length]? = some o0 := by
        have := congrArg (·[0]?) hr
        simpa using this
      have hlt := (List.getElem?_eq_some_iff.1 hat).1
      rw [app_eq] at h
      have old : ∀ i, i < acc.length → nth 0 (acc ++ [ancOf acc o0.after.toList]) i = nth 0 acc i := fun i hi => by
        rw [nth_eq, nth_eq]; simp [List.getElem?_append_left hi]
      have new : nth 0 (acc ++ [ancOf acc o0.after.toList]) acc.length = ancOf acc o0.after.toList := by
        rw [nth_eq]; simp
      have hedge := edgesOk_spec he
      refine ancsGo_spec h ?_ (by simp; omega) (fun i o j hi ho hb => ?_) (fun i o hi ho => ?_)
      · rw [List.length_append, ← List.drop_drop, hr]; rfl
      · by_cases hia : i < acc.length
        · rw [old i hia] at hb
          obtain ⟨e, he', hbd, hor⟩ := h1 i o j hia ho hb
          have : e.on < i := h2 i o hia ho e he' hbd
          refine ⟨e, he', hbd, ?_⟩
          rw [old e.on (by omega)]
          exact hor
        · have : i = acc.length := by simp at hi; omega
          subst this
          rw [new] at hb
          rw [hat] at ho
          injection ho with ho
          subst ho
          obtain ⟨e, he', hbd, hor⟩ := ancOf_spec hb
          refine ⟨e, he', hbd, ?_⟩
          rw [old e.on (hedge e he' hbd)]
          exact hor
      · by_cases hia : i < acc.length
        · exact h2 i o hia ho
        · have : i = acc.length := by simp at hi; omega
          subst this
          rw [hat] at ho
          injection ho with ho
          subst ho
          exact hedge
    · cases h
theorem ancs_of {ops : List Oper} {ancs : List Nat} (h : ancsGo ops [] = some ancs) : Ancs ops ancs :=
  ancsGo_spec h rfl (Nat.zero_le _) (fun i _ _ hi => by simp at hi) (fun i _ hi => by simp at hi)
theorem Ancs.bit_lt {ops : List Oper} {ancs : List Nat} (h : Ancs ops ancs) : ∀ (i : Nat) (o : Oper) (j : Nat), ops[i]? = some o → bit (nth 0 ancs i) j = true → j < i := by
  intro i
  induction i using Nat.strongRecOn with
  | _ i ih =>
    intro o j ho hb
    obtain ⟨e, he, hbd, hor⟩ := h.up i o j ho hb
    have hlt := h.lt i o ho e he hbd
    rcases hor with rfl | hb'
    · exact hlt
    · have hi := (List.getElem?_eq_some_iff.1 ho).1
      have := ih e.on hlt (ops[e.on]'(by omega)) j (List.getElem?_eq_getElem (by omega)) hb'
      omega
/-- A set of operations that holds all that stand before its members. -/
def Closed (ops : List Oper) (S : Nat → Bool) : Prop := ∀ i o, ops[i]? = some o → S i = true → ∀ e ∈ o.after.toList, Region.binds .any e = true → S e.on = true
theorem Ancs.closed {ops : List Oper} {ancs : List Nat} (h : Ancs ops ancs) {S : Nat → Bool} (hS : Closed ops S) : ∀ (i : Nat) (o : Oper) (j : Nat), ops[i]? = some o → (∀ e ∈ o.after.toList, Region.binds .any e = true → S e.on = true) → bit (nth 0 ancs i) j = true → S j = true := by
  intro i
  induction i using Nat.strongRecOn with
  | _ i ih =>
    intro o j ho hdep hb
    obtain ⟨e, he, hbd, hor⟩ := h.up i o j ho hb
    have hlt := h.lt i o ho e he hbd
    rcases hor with rfl | hb'
    · exact hdep e he hbd
    · have hi := (List.getElem?_eq_some_iff.1 ho).1
      have ho' : ops[e.on]? = some (ops[e.on]'(by omega)) := List.getElem?_eq_getElem (by omega)
      exact ih e.on hlt _ j ho' (hS e.on _ ho' (hdep e he hbd)) hb'
/-- An operation that may be next is in no order with those that are made though they stand behind it, and with those ahead of it that are not made. -/
theorem inc_of {ops : List Oper} {ancs : List Nat} (h : Ancs ops ancs) {S : Nat → Bool} (hS : Closed ops S) {i j : Nat} {o oj : Oper} (ho : ops[i]? = some o) (hoj : ops[j]? = some oj) (hi : S i = false) (hdep : ∀ e ∈ o.after.toList, Region.binds .any e = true → S e.on = true)
    (hor : (j < i ∧ S j = false) ∨ (i < j ∧ S j = true)) : isInc ancs i j = true ∧ isInc ancs j i = true := by
  have h1 : bit (nth 0 ancs i) j = false := by
    cases hb : bit (nth 0 ancs i) j with
    | false => rfl
    | true =>
      have := h.closed hS i o j ho hdep hb
      have hlt := h.bit_lt i o j ho hb
      rcases hor with ⟨_, h'⟩ | ⟨h', _⟩
      · rw [this] at h'; cases h'
      · omega
  have h2 : bit (nth 0 ancs j) i = false := by
    cases hb : bit (nth 0 ancs j) i with
    | false => rfl
    | true =>
      have hlt := h.bit_lt j oj i hoj hb
      rcases hor with ⟨h', _⟩ | ⟨_, h'⟩
      · omega
      · have := h.closed hS j oj i hoj (hS j oj hoj h') hb
        rw [this] at hi; cases hi
  have hne : (i == j) = false := by simp; rcases hor with h | h <;> omega
  have hne' : (j == i) = false := by simp; rcases hor with h | h <;> omega
  unfold isInc
  rw [hne, hne', h1, h2]
  exact ⟨rfl, rfl⟩

/-! ### What was made, in whatever order -/
structure SE where (ix : Nat) (dst : Option Tmp) (v : SV) (d : List (Nat × HB)) (n n' : Nat) (e : Env) (H : Heap) (ran : Bool)
noncomputable def envL (e0 : Env) (S : Nat → Bool) : List SE → Nat → SV
  | [], x => nth .u e0 x
  | l :: L, x => if S l.ix = true ∧ l.dst = some x then l.v else envL e0 S L x
def heapL (H0 : Nat → HB) (S : Nat → Bool) : List SE → Nat → HB
  | [] => H0
  | l :: L => if S l.ix = true then applyD (heapL H0 S L) l.d else heapL H0 S L
def usedL (n0 : Nat) (S : Nat → Bool) (L : List SE) (x : Nat) : Prop := x < n0 ∨ ∃ l ∈ L, S l.ix = true ∧ l.n ≤ x ∧ x < l.n'
def SV.le (a b : SV) : Prop := (∀ ρ v, DenV ρ b v → DenV ρ a v) ∧ ∀ U, b.wf U → a.wf U
theorem SV.le.refl (a : SV) : SV.le a a := ⟨fun _ _ h => h, fun _ h => h⟩
theorem SV.le.trans {a b c : SV} (h : SV.le a b) (h' : SV.le b c) : SV.le a c := ⟨fun ρ v hd => h.1 ρ v (h'.1 ρ v hd), fun U hw => h.2 U (h'.2 U hw)⟩
theorem SV.le.u (b : SV) : SV.le .u b := ⟨fun _ _ _ => trivial, fun _ _ _ h => h.elim⟩
theorem SV.le.lit {x y : Bool} (h : x = y) : SV.le (.w (.c (.l y))) (.w (.c (.b x))) := ⟨fun ρ v hd => by subst h; exact hd, fun _ _ _ h => h.elim⟩
theorem applyD_key : ∀ {d : List (Nat × HB)} {H H' : Nat → HB} {q : Nat}, (hasKey q d = false → applyD H d q = H q) ∧ (hasKey q d = true → applyD H d q = applyD H' d q)
  | [], H, H', q => ⟨fun _ => rfl, fun h => by cases h⟩
  | (a, b) :: d, H, H', q => by
    have ih := applyD_key (d := d) (H := Eng.upd H a b) (H' := Eng.upd H' a b) (q := q)
    simp only [applyD]
    unfold hasKey
    by_cases h : a = q
    · subst h
      simp only [beq_self_eq_true]
      refine ⟨fun h => by simp at h, fun _ => ?_⟩
      cases hk : hasKey a d with
      | true => exact ih.2 hk
      | false =>
        rw [ih.1 hk, (applyD_key (d := d) (H := Eng.upd H' a b) (H' := H) (q := a)).1 hk, upd_same, upd_same]
    · have hb : (a == q) = false := by simpa using h
      rw [hb]
      refine ⟨fun h' => ?_, fun h' => ih.2 h'⟩
      rw [ih.1 h', upd_ne _ _ (Ne.symm h)]
theorem applyD_congr {d : List (Nat × HB)} {H H' : Nat → HB} {q : Nat} (h : H q = H' q) : applyD H d q = applyD H' d q := by
  cases hk : hasKey q d with
  | true => exact (applyD_key (H := H) (H' := H')).2 hk
  | false => rw [(applyD_key (H := H) (H' := H)).1 hk, (applyD_key (H := H') (H' := H)).1 hk, h]
theorem applyD_comm {d1 d2 : List (Nat × HB)} {H : Nat → HB} (h : ∀ q, hasKey q d1 = true → hasKey q d2 = false) : applyD (applyD H d1) d2 = applyD (applyD H d2) d1 := by
  funext q
  cases h1 : hasKey q d1 with
  | true =>
    rw [(applyD_key (H := applyD H d1) (H' := H)).1 (h q h1)]
    exact (applyD_key (H := H) (H' := applyD H d2)).2 h1
  | false =>
    rw [(applyD_key (d := d1) (H := applyD H d2) (H' := H)).1 h1]
    exact applyD_congr ((applyD_key (H := H) (H' := H)).1 h1)

def allS : Nat → Bool := fun _ => true
section
variable {P : Program} {T : Tab} {B : Nat} {w0 : World}

/-- What is known of an operation that the evaluation passed. -/
structure LC (T : Tab) (C : Cons) (ops : List Oper) (ancs : List Nat) (e0 : Env) (H0 : Nat → HB) (n0 : Nat) (L : List SE) (l : SE) (o : Oper) : Prop where
  op : ops[l.ix]? = some o
  dst : l.dst = o.dst
  elen : l.e.length = e0.length
  env : ∀ x, nth .u l.e x = .u ∨ ((∀ j oj, ops[j]? = some oj → isInc ancs l.ix j = true → oj.dst ≠ some x) ∧ SV.le (nth .u l.e x) (envL e0 allS L x))
  heap : l.ran = true → ∀ q, (hget l.H q).live = true → hget l.H q = heapL H0 allS L q ∧ ∀ l' ∈ L, isInc ancs l.ix l'.ix = true → hasKey q l'.d = false
  apart : ∀ l' ∈ L, isInc ancs l.ix l'.ix = true → ∀ q, hasKey q l.d = true → hasKey q l'.d = false ∧ (l'.ran = true → (hget l'.H q).live = false)
  dsts : ∀ j oj, ops[j]? = some oj → isInc ancs l.ix j = true → ∀ t, l.dst = some t → oj.dst ≠ some t
  le : l.n ≤ l.n'
  base : n0 ≤ l.n
  mono : ∀ l' ∈ L, l'.n' ≤ l.n
  guard : (o.guard = none ∧ l.ran = true) ∨ ∃ g want s, o.guard = some (g, want) ∧ opDst ops g = some s ∧ ((∃ x, nth .u l.e s = .w (.c (.l x)) ∧ (x == want) = l.ran) ∨ (nth .u l.e s = .t [] ∧ l.ran = false))
  run : l.ran = true → ∃ pre out, stepC T C l.e l.H l.n o.op = some ⟨pre, [(none, out)]⟩ ∧ holdsO pre ∧ l.v = out.v ∧ l.d = out.d ∧ l.n' = out.n
  skip : l.ran = false → l.v = .t [] ∧ l.d = [] ∧ l.n' = l.n
inductive LCs (T : Tab) (C : Cons) (ops : List Oper) (ancs : List Nat) (e0 : Env) (H0 : Nat → HB) (n0 : Nat) : List SE → Prop
  | nil : LCs T C ops ancs e0 H0 n0 []
  | cons {L : List SE} {l : SE} {o : Oper} (h : LC T C ops ancs e0 H0 n0 L l o) (hi : l.ix = L.length) (hL : LCs T C ops ancs e0 H0 n0 L) : LCs T C ops ancs e0 H0 n0 (l :: L)
def toLE : List SE → List LE
  | [] => []
  | l :: L => if l.ran = true then ⟨l.ix, l.H, l.d⟩ :: toLE L else toLE L
theorem mem_toLE : ∀ {L : List SE} {l : SE}, l ∈ L → l.ran = true → (⟨l.ix, l.H, l.d⟩ : LE) ∈ toLE L
  | [], _, h, _ => by cases h
  | l0 :: L, l, h, hr => by
    unfold toLE
    rcases List.mem_cons.1 h with rfl | h
    · rw [if_pos hr]; simp
    · have := mem_toLE h hr
      split
      · exact List.mem_cons_of_mem _ this
      · exact this
structure INV (e0 : Env) (H0 : Nat → HB) (n0 : Nat) (σ : St) (L : List SE) : Prop where
  len : σ.e.length = e0.length
  env : ∀ x, SV.le (nth .u σ.e x) (envL e0 allS L x)
  heap : hget σ.H = heapL H0 allS L
  n : n0 ≤ σ.n
  mono : ∀ l ∈ L, l.n' ≤ σ.n

theorem envL_cons {e0 : Env} {L : List SE} {l : SE} {x : Nat} : envL e0 allS (l :: L) x = if l.dst = some x then l.v else envL e0 allS L x := by simp [envL, allS]
theorem INV.put {e0 : Env} {H0 : Nat → HB} {n0 : Nat} {σ : St} {L : List SE} {l : SE} (h : INV e0 H0 n0 σ L) (hn : l.n = σ.n) (hle : l.n ≤ l.n') : INV e0 H0 n0 ⟨putD l.dst l.v σ.e, applyL σ.H l.d, l.n'⟩ (l :: L) := by
  refine ⟨by rw [putD_length]; exact h.len, fun x => ?_, ?_, Nat.le_trans h.n (hn ▸ hle), fun l' hl' => ?_⟩
  · rw [envL_cons]
    cases hd : l.dst with
    | none => simpa [putD, hd] using h.env x
    | some t =>
      simp only [putD]
      by_cases htx : t = x
      · subst htx
        rw [if_pos rfl]
        by_cases hlt : t < σ.e.length
        · rw [nth_put_same _ _ _ _ hlt]; exact .refl _
        · rw [nth_out _ _ _ (by rw [put_length]; exact Nat.le_of_not_lt hlt)]; exact .u _
      · rw [if_neg (by simpa using htx), nth_put_ne _ _ _ _ _ (fun e => htx e.symm)]
        exact h.env x
  · rw [hget_applyL, h.heap]
    simp [heapL, allS]
  · rcases List.mem_cons.1 hl' with rfl | hl'
    · exact Nat.le_refl _
    · exact Nat.le_trans (h.mono l' hl') (hn ▸ hle)
theorem INV.lit {e0 : Env} {H0 : Nat → HB} {n0 : Nat} {σ : St} {L : List SE} {s : Nat} {x y : Bool} (h : INV e0 H0 n0 σ L) (hs : nth .u σ.e s = .w (.c (.b x))) (hx : x = y) : INV e0 H0 n0 ⟨Eng.put (.w (.c (.l y))) σ.e s, σ.H, σ.n⟩ L := by
  refine ⟨by rw [put_length]; exact h.len, fun z => ?_, h.heap, h.n, h.mono⟩
  by_cases hz : z = s
  · subst hz
    have hlt : z < σ.e.length := by
      by_cases hh : z < σ.e.length
      · exact hh
      · rw [nth_out _ _ _ (by omega)] at hs; cases hs
    rw [nth_put_same _ _ _ _ hlt]
    have := h.env z
    rw [hs] at this
    exact (SV.le.lit hx).trans this
  · rw [nth_put_ne _ _ _ _ _ hz]; exact h.env z
end
end Go.Eng
