/- The evaluation of one operation is sound: put together. -/
import Derived.Test.YtadblcopmoiaaaaESound7
import Derived.WalkLawsBesides
set_option linter.unusedVariables false
set_option linter.unusedSimpArgs false
namespace Go.Eng
open Go Go.RowKit

theorem fk_same {a b : FK} {h : PLift (a = b)} (e : FK.same a b = some h) : a = b := h.down
theorem k_same {a b : K} {h : PLift (a = b)} (e : K.same a b = some h) : a = b := h.down

section
variable {P : Program} {T : Tab} {B : Nat} {w0 w : World} {ρ : Nat → Value} {φ : Nat → Nat → Prop} {U : Nat → Prop} {H : Nat → HB} {n : Nat}

theorem cst_den {v : Value} : DenV ρ (cst v) v := by
  unfold cst
  split <;> first | rfl | trivial
theorem cst_wf {v : Value} : (cst v).wf U := by
  unfold cst
  split <;> exact fun _ h => h.elim

theorem call_sound {c : Call} {en : Env} {Hl : Heap} {a : Operand → Value} {out : Out} (hT : TabOk P T) (hev : ∀ x, DenV ρ (ev en x) (a x)) (hH : ∀ id, (hget Hl id).live = true → H id = hget Hl id) (hm : Mem B w0 ρ φ U H w)
    (hs : step T en Hl n (.call c) = some out) (hc : holdsO out.c) (hU : ∀ q, n ≤ q → q < out.n → ¬ U q) (dst) (tt) (pos) (af) (gd) :
    Fine B w0 ρ U H ((execOp a ⟨dst, .call c, tt, pos, af, gd⟩).run P w) out.v out.d n out.n := by
  obtain ⟨callee, ⟨args⟩, ⟨ts⟩⟩ := c
  simp only [step] at hs
  split at hs
  · -- len
    rename_i x t
    split at hs
    · rename_i ke z ht
      obtain ⟨k', e'⟩ := ke
      have hx := hev x
      generalize ev en x = s at *
      unfold stepLen at hs
      split at hs
      · injection hs with hs
        subst hs
        exact fine_len_nil (ty := 0) hT ht hm hx dst tt pos af gd
      · split at hs
        · rename_i k e o xs hh
          injection hs with hs
          subst hs
          exact fine_len_fs (ty := 0) hT ht hm (live_arr hH hh) hx dst tt pos af gd
        · cases hs
      · injection hs with hs
        subst hs
        exact fine_len_s (ty := 0) hT ht hm hx dst tt pos af gd
      · cases hs
    · cases hs
  · -- append
    rename_i x y t t'
    split at hs
    · rename_i htt
      subst htt
      unfold stepAppend at hs
      split at hs
      · rename_i fk e z ht
        split at hs
        · cases hs
        · rename_i id2 ys hsrc
          have hx := hev x
          split at hs
          · rename_i hnil
            injection hs with hs
            subst hs
            rw [hnil] at hx
            exact fine_append_nil (ty := 0) hT ht hm (hU n (Nat.le_refl _) (Nat.lt_succ_self _)) hx (src_sound (hev y) hH hm hsrc hc.1) hc.2 dst tt pos af gd
          · rename_i id hfs
            split at hs
            · cases hs
            · split at hs
              · rename_i k1 e1 xs hh
                split at hs
                · rename_i hk _
                  split at hs
                  · rename_i he
                    injection hs with hs
                    subst hs
                    subst hk
                    subst he
                    rw [hfs] at hx
                    exact fine_append_fs (ty := 0) hT ht hm (hU n (Nat.le_refl _) (Nat.lt_succ_self _)) (live_arr hH hh) hx (src_sound (hev y) hH hm hsrc hc.1) hc.2 dst tt pos af gd
                  · cases hs
                · cases hs
              · cases hs
          · cases hs
      · cases hs
    · cases hs
  · -- copy
    rename_i x y t t'
    split at hs
    · rename_i k e' z id ht hfs
      split at hs
      · rename_i k' e own xs hh
        split at hs
        · rename_i hk _
          have hkk : k = k' := hk.down
          have hx := hev x
          rw [hfs] at hx hs
          unfold stepCopy at hs
          cases k' with
          | f fk =>
            cases own with
            | true =>
              simp only [hh] at hs
              split at hs
              · cases hs
              · rename_i id2 ys hsrc
                split at hs
                · cases hs
                · injection hs with hs
                  subst hs
                  exact fine_copy hT ht hkk hm (live_arr hH hh) hx (src_sound (hev y) hH hm hsrc hc) dst tt pos af gd
            | false =>
              simp only [hh] at hs
              cases hs
          | route => simp only [hh] at hs; cases hs
          | rows k => simp only [hh] at hs; cases hs
        · cases hs
      · cases hs
    · cases hs
  · -- max
    rename_i x y
    have hx := hev x
    have hy := hev y
    split at hs
    · rename_i p q h1 h2
      rw [h1] at hx
      rw [h2] at hy
      injection hs with hs
      subst hs
      refine fine_same hm (u := .int .i64 (max p q)) ?_ rfl (fun _ h => h.elim)
      have hx := den_i hx
      have hy := den_i hy
      simp [execOp, resolve, invoke, builtin, hx, hy, Builtin.max_, Builtin.max2]
      rw [Int.max_def]; split <;> split <;> omega
    · cases hs
  · -- min
    rename_i x y
    have hx := hev x
    have hy := hev y
    split at hs
    · rename_i p q h1 h2
      rw [h1] at hx
      rw [h2] at hy
      injection hs with hs
      subst hs
      refine fine_same hm (u := .int .i64 (min p q)) ?_ rfl (fun _ h => h.elim)
      have hx := den_i hx
      have hy := den_i hy
      simp [execOp, resolve, invoke, builtin, hx, hy, Builtin.min_, Builtin.min2]
      rw [Int.min_def]; split <;> split <;> omega
    · cases hs
  · cases hs

theorem step_sound {op : Op} {en : Env} {Hl : Heap} {a : Operand → Value} {out : Out} (hT : TabOk P T) (hev : ∀ x, DenV ρ (ev en x) (a x)) (hwf : ∀ x, (ev en x).wf U) (hH : ∀ id, (hget Hl id).live = true → H id = hget Hl id) (hm : Mem B w0 ρ φ U H w)
    (hs : step T en Hl n op = some out) (hc : holdsO out.c) (hU : ∀ q, n ≤ q → q < out.n → ¬ U q) (dst) (tt) (pos) (af) (gd) :
    Fine B w0 ρ U H ((execOp a ⟨dst, op, tt, pos, af, gd⟩).run P w) out.v out.d n out.n := by
  cases op with
  | move x =>
    simp only [step] at hs
    injection hs with hs
    subst hs
    exact fine_same hm (by simp [execOp]) (hev x) (hwf x)
  | assign x =>
    simp only [step] at hs
    injection hs with hs
    subst hs
    exact fine_same hm (by simp [execOp]) (hev x) (hwf x)
  | pick c x y =>
    simp only [step] at hs
    have hx := hev c
    split at hs
    · rename_i h
      rw [h] at hx
      injection hs with hs
      subst hs
      exact fine_same hm (by simp [execOp, den_l hx, asBool]) (hev x) (hwf x)
    · rename_i h
      rw [h] at hx
      injection hs with hs
      subst hs
      exact fine_same hm (by simp [execOp, den_l hx, asBool]) (hev y) (hwf y)
    · cases hs
  | alloc t =>
    simp only [step] at hs
    split at hs
    · rename_i ht
      injection hs with hs
      subst hs
      exact fine_alloc_sc hT ht hm (hU n (Nat.le_refl _) (Nat.lt_succ_self _)) a dst tt pos af gd
    · rename_i ht
      injection hs with hs
      subst hs
      exact fine_alloc_st hT ht hm (hU n (Nat.le_refl _) (Nat.lt_succ_self _)) a dst tt pos af gd
    · cases hs
  | box t x =>
    simp only [step] at hs
    have hx := hev x
    have hw := hwf x
    split at hs
    · rename_i s h
      rw [h] at hx hw
      split at hs
      · rename_i hk
        injection hs with hs
        subst hs
        exact fine_box a hm (hU n (Nat.le_refl _) (Nat.lt_succ_self _)) hx hw hk dst tt pos af gd
      · cases hs
    · cases hs
  | load t x => exact load_sound hT (hev x) hH hm hs hc hU dst tt pos af gd
  | store t x y => exact store_sound hT hev hwf hH hm hs hc dst tt pos af gd
  | nilCheck x =>
    simp only [step] at hs
    have hx := hev x
    have hw := hwf x
    split at hs
    · rename_i id off h
      rw [h] at hx hw
      injection hs with hs
      subst hs
      refine fine_same hm ?_ hx hw
      obtain ⟨g, _, hv⟩ := hx
      simp [execOp, hv]
    · rename_i id ix sz off h
      rw [h] at hx hw
      injection hs with hs
      subst hs
      refine fine_same hm ?_ hx hw
      obtain ⟨g, _, _, _, hv⟩ := hx
      simp [execOp, hv]
    · cases hs
  | binOp op t x y yt =>
    simp only [step] at hs
    have hx := hev x
    have hy := hev y
    split at hs
    · rename_i p q h1 h2
      rw [h1] at hx
      rw [h2] at hy
      split at hs
      · rename_i c pr har
        injection hs with hs
        subst hs
        exact fine_arith har hc hm hx hy dst tt pos af gd
      · cases hs
    · rename_i p q hno h1 h2
      rw [h1] at hx
      rw [h2] at hy
      split at hs
      · rename_i r hr
        have hr := ptrEq_eqT hr
        split at hs
        · injection hs with hs
          subst hs
          exact fine_eq (op := .eql) hT hr (.inl rfl) (fun i j e1 e2 => hno i j e1 e2) hm hx hy dst tt pos af gd
        · injection hs with hs
          subst hs
          exact fine_eq (op := .neq) hT hr (.inr rfl) (fun i j e1 e2 => hno i j e1 e2) hm hx hy dst tt pos af gd
        · cases hs
      · split at hs
        · rename_i r hr
          injection hs with hs
          subst hs
          exact fine_eq (op := .eql) hT hr (.inl rfl) (fun i j e1 e2 => hno i j e1 e2) hm hx hy dst tt pos af gd
        · rename_i r hr
          injection hs with hs
          subst hs
          exact fine_eq (op := .neq) hT hr (.inr rfl) (fun i j e1 e2 => hno i j e1 e2) hm hx hy dst tt pos af gd
        · cases hs
    · cases hs
  | unOp op t x =>
    simp only [step] at hs
    have hx := hev x
    split at hs
    · rename_i p h
      rw [h] at hx
      injection hs with hs
      subst hs
      exact fine_not hm hx dst tt pos af gd
    · rename_i p h
      rw [h] at hx
      injection hs with hs
      subst hs
      exact fine_not_l hm hx dst tt pos af gd
    · rename_i p h
      rw [h] at hx
      injection hs with hs
      subst hs
      exact fine_neg hm hx dst tt pos af gd
    · cases hs
  | build t ps =>
    simp only [step] at hs
    split at hs
    · rename_i m fs z eq ht
      split at hs
      · rename_i l hb
        injection hs with hs
        subst hs
        exact fine_build hT ht hev hwf hb hm dst tt pos af gd
      · cases hs
    · cases hs
  | buildSlice t m ps =>
    simp only [step] at hs
    split at hs
    · rename_i fk e z ht
      split at hs
      · rename_i ys hel
        split at hs
        · rename_i hl
          split at hs
          · rename_i hlim
            injection hs with hs
            subst hs
            rw [len_eq] at hl
            exact fine_buildSlice hT ht hm (hU n (Nat.le_refl _) (Nat.lt_succ_self _)) hev hel hl hlim dst tt pos af gd
          · cases hs
        · cases hs
      · cases hs
    · cases hs
  | field t x f =>
    simp only [step] at hs
    have hx := hev x
    have hw := hwf x
    split at hs
    · rename_i l m fs z eq h ht
      rw [h] at hx hw
      split at hs
      · rename_i hl
        split at hs
        · rename_i hf
          split at hs
          · rename_i ho
            injection hs with hs
            subst hs
            rw [len_eq] at hl hf
            exact fine_field (n := n) hT ht hf hl ho hm hx hw dst tt pos af gd
          · cases hs
        · cases hs
      · cases hs
    · cases hs
  | fieldAddr t x f =>
    simp only [step] at hs
    have hx := hev x
    have hw := hwf x
    split at hs
    · rename_i m fs z eq ht
      split at hs
      · rename_i hf
        rw [len_eq] at hf
        split at hs
        · rename_i id o h
          rw [h] at hx hw
          injection hs with hs
          subst hs
          exact fine_fieldAddr_p (n := n) hT ht hf hm hx (wf_p hw) dst tt pos af gd
        · rename_i id ix sz o h
          rw [h] at hx hw
          injection hs with hs
          subst hs
          exact fine_fieldAddr_el (n := n) hT ht hf hm hx (wf_el hw) dst tt pos af gd
        · cases hs
      · cases hs
    · cases hs
  | indexAddr t x ix =>
    simp only [step] at hs
    have hx := hev x
    have hi := hev ix
    split at hs
    · rename_i k e z ht
      split at hs
      · rename_i id h
        rw [h] at hx hs
        split at hs
        · rename_i k' e' own xs hh
          split at hs
          · rename_i hk _
            unfold stepIndex at hs
            split at hs
            · rename_i id' j q1 q2
              injection q1 with q1
              injection q1 with q1
              injection q1 with q1
              subst q1
              rw [q2] at hi
              simp only [hh] at hs
              injection hs with hs
              subst hs
              exact fine_index_fs hT ht hk.down hm (live_arr hH hh) hx hi hc dst tt pos af gd
            · rename_i q1 _
              injection q1 with q1
              injection q1 with q1
              cases q1
            · cases hs
          · cases hs
        · cases hs
      · rename_i id lo m sz h
        rw [h] at hx hs
        split at hs
        · rename_i k' e' own xs hh
          split at hs
          · rename_i hk _
            unfold stepIndex at hs
            split at hs
            · rename_i q1 _
              injection q1 with q1
              injection q1 with q1
              cases q1
            · rename_i id' lo' m' sz' j q1 q2
              injection q1 with q1
              injection q1 with q1
              injection q1 with e1 e2 e3 e4
              subst e1; subst e2; subst e3; subst e4
              rw [q2] at hi
              simp only [hh] at hs
              split at hs
              · rename_i hsz
                injection hs with hs
                subst hs
                exact fine_index_s hT ht hk.down hm (live_arr hH hh) hsz hx hi hc dst tt pos af gd
              · cases hs
            · cases hs
          · cases hs
        · cases hs
      · cases hs
    · cases hs
  | slice t x lo hi mx =>
    simp only [step] at hs
    have hx := hev x
    split at hs
    · rename_i k e z ht
      split at hs
      · rename_i id h
        rw [h] at hx hs
        split at hs
        · rename_i k' e' own xs hh
          split at hs
          · rename_i hk _
            simp only [stepSlice, hh] at hs
            split at hs
            · rename_i l hb h1 h2
              injection hs with hs
              subst hs
              exact fine_slice_fs hT ht hk.down hm (live_arr hH hh) hev hx h1 h2 hc dst tt pos af gd
            · cases hs
          · cases hs
        · cases hs
      · rename_i id lo' m sz h
        rw [h] at hx hs
        split at hs
        · rename_i k' e' own xs hh
          split at hs
          · rename_i hk _
            simp only [stepSlice, hh] at hs
            split at hs
            · rename_i l hb h1 h2
              split at hs
              · rename_i hsz
                injection hs with hs
                subst hs
                exact fine_slice_s hT ht hk.down hm (live_arr hH hh) hsz hev hx h1 h2 hc dst tt pos af gd
              · cases hs
            · cases hs
          · cases hs
        · cases hs
      · cases hs
    · cases hs
  | makeSlice t x y =>
    simp only [step] at hs
    have hx := hev x
    have hy := hev y
    split at hs
    · rename_i fk e z p q ht h1 h2
      rw [h1] at hx
      rw [h2] at hy
      injection hs with hs
      subst hs
      exact fine_make hT ht hm (hU n (Nat.le_refl _) (Nat.lt_succ_self _)) hx hy hc dst tt pos af gd
    · cases hs
  | extract x j =>
    simp only [step] at hs
    have hx := hev x
    have hw := hwf x
    split at hs
    · rename_i l h
      rw [h] at hx hw
      split at hs
      · rename_i hj
        injection hs with hs
        subst hs
        exact fine_extract (by rw [← len_eq]; exact hj) hm hx hw dst tt pos af gd
      · cases hs
    · cases hs
  | call c => exact call_sound hT hev hH hm hs hc hU dst tt pos af gd
  | _ => simp [step] at hs
end
end Go.Eng
