/- Conditions are sound: operations in their order, calls by what was told of them. -/
import Derived.Test.YtadblcopmoiaaaaEVc
set_option linter.unusedVariables false
set_option linter.unusedSimpArgs false
namespace Go.Eng
open Go Go.RowKit

theorem nth_put_same {α : Type} (d v : α) : ∀ (l : List α) (i : Nat), i < l.length → nth d (put v l i) i = v
  | [], _, h => by simp at h
  | _ :: l, 0, _ => rfl
  | _ :: l, i + 1, h => nth_put_same d v l i (by simpa using h)
theorem nth_put_ne {α : Type} (d v : α) : ∀ (l : List α) (i j : Nat), j ≠ i → nth d (put v l i) j = nth d l j
  | [], _, _, _ => rfl
  | _ :: l, 0, 0, h => absurd rfl h
  | _ :: l, 0, j + 1, _ => rfl
  | _ :: l, i + 1, 0, _ => rfl
  | _ :: l, i + 1, j + 1, h => nth_put_ne d v l i j (by omega)
theorem put_out {α : Type} (v : α) : ∀ (l : List α) (i : Nat), l.length ≤ i → put v l i = l
  | [], _, _ => rfl
  | _ :: l, 0, h => by simp at h
  | _ :: l, i + 1, h => by rw [put_succ, put_out v l i (by simpa using h)]
theorem put_length {α : Type} (v : α) : ∀ (l : List α) (i : Nat), (put v l i).length = l.length
  | [], _ => rfl
  | _ :: l, 0 => rfl
  | _ :: l, i + 1 => by simp [put_succ, put_length v l i]
theorem nth_out {α : Type} (d : α) : ∀ (l : List α) (i : Nat), l.length ≤ i → nth d l i = d
  | [], _, _ => rfl
  | _ :: l, 0, h => by simp at h
  | _ :: l, i + 1, h => nth_out d l i (by simpa using h)
theorem hget_setAt : ∀ (H : Heap) (i : Nat) (x : HB), hget (setAt H i x) = upd (hget H) i x
  | [], 0, x => by funext j; cases j <;> simp [hget, setAt_nz, setAt_ns, setAt_cz, setAt_cs, nth_nil, nth_zero, nth_succ, Eng.upd]
  | [], i + 1, x => by
    funext j
    cases j with
    | zero => simp [hget, setAt_nz, setAt_ns, setAt_cz, setAt_cs, nth_nil, nth_zero, nth_succ, Eng.upd]
    | succ j =>
      have := congrFun (hget_setAt [] i x) j
      simp only [hget, setAt_nz, setAt_ns, setAt_cz, setAt_cs, nth_nil, nth_zero, nth_succ, Eng.upd] at this ⊢
      rw [this]
      simp
  | _ :: l, 0, x => by funext j; cases j <;> simp [hget, setAt_nz, setAt_ns, setAt_cz, setAt_cs, nth_nil, nth_zero, nth_succ, Eng.upd]
  | y :: l, i + 1, x => by
    funext j
    cases j with
    | zero => simp [hget, setAt_nz, setAt_ns, setAt_cz, setAt_cs, nth_nil, nth_zero, nth_succ, Eng.upd]
    | succ j =>
      have := congrFun (hget_setAt l i x) j
      simp only [hget, setAt_nz, setAt_ns, setAt_cz, setAt_cs, nth_nil, nth_zero, nth_succ, Eng.upd] at this ⊢
      rw [this]
      simp
theorem hget_applyL : ∀ (d : List (Nat × HB)) (H : Heap), hget (applyL H d) = applyD (hget H) d
  | [], _ => rfl
  | (i, x) :: l, H => by rw [applyL, hget_applyL l, hget_setAt]; rfl

theorem conj_iff {p : Option Prop} {q : Prop} : conj p q ↔ holdsO p ∧ q := by cases p <;> simp [conj, holdsO]
theorem imp_iff {p : Option Prop} {q : Prop} : imp p q ↔ (holdsO p → q) := by cases p <;> simp [imp, holdsO]
theorem andO_iff {p q : Option Prop} : holdsO (andO p q) ↔ holdsO p ∧ holdsO q := by cases p <;> cases q <;> simp [andO, holdsO]

section
variable {P : Program} {T : Tab} {B : Nat} {w0 : World}

/-- The frames that wait: their slots, as states tell them and as they are. -/
structure Fr where (x : Env) (v : Nat → Value)
def Fr.ok (F : Fr) (ρ : Nat → Value) (U : Nat → Prop) : Prop := ∀ j, DenV ρ (nth .u F.x j) (F.v j) ∧ (nth .u F.x j).wf U
theorem Fr.ok.next {F : Fr} {ρ ρ' : Nat → Value} {U U' : Nat → Prop} (h : F.ok ρ U) (hρ : ∀ x, U x → ρ' x = ρ x) (hU : ∀ x, U x → U' x) : F.ok ρ' U' := fun j => ⟨(h j).1.anchors (h j).2 hρ, (h j).2.mono hU⟩
/-- What the walk knows: the frame's values and the world are those that the state tells of. -/
structure Sim (B : Nat) (w0 : World) (F : Fr) (σ : St) (a : Act) (w : World) : Prop where
  defers : a.defers = []
  size : σ.e.length ≤ a.tmps.size
  mem : ∃ ρ φ, Mem B w0 ρ φ (· < σ.n) (hget σ.H) w ∧ (∀ t, DenV ρ (nth .u σ.e t) (a.tmps.getD t undef) ∧ (nth .u σ.e t).wf (· < σ.n)) ∧ F.ok ρ (· < σ.n)
/-- .. and of one value more. -/
structure SimV (B : Nat) (w0 : World) (F : Fr) (σ : St) (a : Act) (w : World) (s : SV) (u : Value) : Prop where
  defers : a.defers = []
  size : σ.e.length ≤ a.tmps.size
  mem : ∃ ρ φ, Mem B w0 ρ φ (· < σ.n) (hget σ.H) w ∧ (∀ t, DenV ρ (nth .u σ.e t) (a.tmps.getD t undef) ∧ (nth .u σ.e t).wf (· < σ.n)) ∧ F.ok ρ (· < σ.n) ∧ DenV ρ s u ∧ s.wf (· < σ.n)

variable {F : Fr} {I : Inl}
theorem ev_den {ρ : Nat → Value} {e : Env} {a : Act} (h : ∀ t, DenV ρ (nth .u e t) (a.tmps.getD t undef)) (x : Operand) : DenV ρ (ev e x) (a.eval x) := by
  cases x with
  | tmp t => exact h t
  | const v => exact cst_den
  | func f => rfl
  | global g => trivial
theorem ev_wf {U : Nat → Prop} {e : Env} (h : ∀ t, (nth .u e t).wf U) (x : Operand) : (ev e x).wf U := by
  cases x with
  | tmp t => exact h t
  | const v => exact cst_wf
  | func f => exact fun _ h => h.elim
  | global g => exact fun _ h => h.elim

theorem put_getD {a : Act} {d t : Nat} {v : Value} : (a.put (some d) v).tmps.getD t undef = if d = t ∧ d < a.tmps.size then v else a.tmps.getD t undef := by
  simp only [Act.put]
  by_cases h : d = t
  · subst h
    by_cases hd : d < a.tmps.size
    · simp [hd]
    · simp [hd]
  · simp [Array.getElem?_setIfInBounds_ne h, h]
theorem put_tmps_size {a : Act} {d : Option Tmp} {v : Value} : (a.put d v).tmps.size = a.tmps.size := by cases d <;> simp [Act.put]
theorem put_defers {a : Act} {d : Option Tmp} {v : Value} : (a.put d v).defers = a.defers := by cases d <;> rfl

/-- A slot is written. -/
theorem den_put {ρ : Nat → Value} {U : Nat → Prop} {e : Env} {a : Act} {d : Option Tmp} {s : SV} {v : Value} (hsz : e.length ≤ a.tmps.size) (h : ∀ t, DenV ρ (nth .u e t) (a.tmps.getD t undef) ∧ (nth .u e t).wf U) (hv : DenV ρ s v) (hw : s.wf U) (t : Nat) :
    DenV ρ (nth .u (putD d s e) t) ((a.put d v).tmps.getD t undef) ∧ (nth .u (putD d s e) t).wf U := by
  cases d with
  | none => exact h t
  | some d =>
    rw [put_getD]
    simp only [putD]
    by_cases hdt : d = t
    · subst hdt
      by_cases hd : d < e.length
      · rw [nth_put_same _ _ _ _ hd, if_pos ⟨rfl, Nat.lt_of_lt_of_le hd hsz⟩]
        exact ⟨hv, hw⟩
      · rw [put_out _ _ _ (Nat.le_of_not_lt hd), nth_out _ _ _ (Nat.le_of_not_lt hd)]
        exact ⟨trivial, fun _ h => h.elim⟩
    · rw [nth_put_ne _ _ _ _ _ (fun h => hdt h.symm), if_neg (by simp [hdt])]
      exact h t
theorem putD_length {d : Option Tmp} {s : SV} {e : Env} : (putD d s e).length = e.length := by cases d <;> simp [putD, put_length]

theorem Sim.upd {σ : St} {a : Act} {w' : World} {u : Value} {d : Option Tmp} {o : Out} {ρ ρ' : Nat → Value} {φ' : Nat → Nat → Prop} (hdef : a.defers = []) (hsz : σ.e.length ≤ a.tmps.size)
    (hden : ∀ t, DenV ρ (nth .u σ.e t) (a.tmps.getD t undef) ∧ (nth .u σ.e t).wf (· < σ.n)) (hF : F.ok ρ (· < σ.n)) (hn : σ.n ≤ o.n)
    (hm : Mem B w0 ρ' φ' (U' (· < σ.n) σ.n o.n) (applyD (hget σ.H) o.d) w') (hρ : ∀ x, x < σ.n → ρ' x = ρ x) (hv : DenV ρ' o.v u) (hw : o.v.wf (U' (· < σ.n) σ.n o.n)) :
    Sim B w0 F (σ.upd d o) (a.put d u) w' := by
  have hU : ∀ x, U' (· < σ.n) σ.n o.n x → x < o.n := fun x hx => by
    rcases hx with hx | hx
    · exact Nat.lt_of_lt_of_le hx hn
    · exact hx.2
  refine ⟨by rw [put_defers]; exact hdef, by simp only [St.upd]; rw [putD_length, put_tmps_size]; exact hsz, ρ', φ', ?_, ?_, hF.next hρ fun x hx => Nat.lt_of_lt_of_le hx hn⟩
  · simp only [St.upd, hget_applyL]
    exact hm.mono hU
  · refine den_put hsz (fun t => ⟨(hden t).1.anchors (hden t).2 hρ, (hden t).2.mono fun x hx => Nat.lt_of_lt_of_le hx hn⟩) hv (hw.mono hU)

/-- A slot's truth becomes known. -/
theorem den_lit {ρ : Nat → Value} {U : Nat → Prop} {e : Env} {a : Act} {s : Nat} {x y : Bool} (h : ∀ t, DenV ρ (nth .u e t) (a.tmps.getD t undef) ∧ (nth .u e t).wf U) (hs : nth .u e s = .w (.c (.b x))) (hx : x = y) (t : Nat) :
    DenV ρ (nth .u (put (.w (.c (.l y))) e s) t) (a.tmps.getD t undef) ∧ (nth .u (put (.w (.c (.l y))) e s) t).wf U := by
  by_cases hst : t = s
  · subst hst
    by_cases hl : t < e.length
    · rw [nth_put_same _ _ _ _ hl]
      have := (h t).1
      rw [hs] at this
      subst hx
      exact ⟨this, fun _ h => h.elim⟩
    · rw [nth_out _ _ _ (by omega)] at hs
      cases hs
  · rw [nth_put_ne _ _ _ _ _ hst]
    exact h t
theorem Sim.lit {σ : St} {a : Act} {w : World} {s : Nat} {x y : Bool} (h : Sim B w0 F σ a w) (hs : nth .u σ.e s = .w (.c (.b x))) (hx : x = y) : Sim B w0 F ⟨put (.w (.c (.l y))) σ.e s, σ.H, σ.n⟩ a w := by
  obtain ⟨h1, h2, ρ, φ, hm, hd, hF⟩ := h
  exact ⟨h1, by simp only [put_length]; exact h2, ρ, φ, hm, den_lit hd hs hx, hF⟩
theorem Sim.skip {σ : St} {a : Act} {w : World} {d : Option Tmp} (h : Sim B w0 F σ a w) : Sim B w0 F ⟨putD d (.t []) σ.e, σ.H, σ.n⟩ (a.put d undef) w := by
  obtain ⟨h1, h2, ρ, φ, hm, hd, hF⟩ := h
  refine ⟨by rw [put_defers]; exact h1, by simp only [putD_length, put_tmps_size]; exact h2, ρ, φ, hm, den_put h2 hd ⟨#[], rfl, rfl, fun j c hc => by simp at hc⟩ (fun c hc => by simp at hc), hF⟩
theorem SimV.put {σ : St} {a : Act} {w : World} {s : SV} {u : Value} {d : Option Tmp} (h : SimV B w0 F σ a w s u) : Sim B w0 F ⟨putD d s σ.e, σ.H, σ.n⟩ (a.put d u) w := by
  obtain ⟨h1, h2, ρ, φ, hm, hd, hF, hs, hw⟩ := h
  exact ⟨by rw [put_defers]; exact h1, by simp only [putD_length, put_tmps_size]; exact h2, ρ, φ, hm, den_put h2 hd hs hw, hF⟩

/-- What one operation comes to: a value, told by one of the outs; the world's memory after it. -/
def Fines (B : Nat) (w0 : World) (ρ : Nat → Value) (U : Nat → Prop) (H : Nat → HB) (n : Nat) (l : List (Option Prop × Out)) (u : Value) (w' : World) : Prop :=
  ∃ h o, (h, o) ∈ l ∧ holdsO h ∧ ∃ ρ' φ', Mem B w0 ρ' φ' (U' U n o.n) (applyD H o.d) w' ∧ (∀ x, U x → ρ' x = ρ x) ∧ DenV ρ' o.v u ∧ o.v.wf (U' U n o.n)
def Runs (P : Program) (r : Result Next) (post : Value → World → Prop) : Prop := match r with
  | .ok (.value v) w' => post v w'
  | .ok .skip w' => post undef w'
  | .ok (.enter f args) w' => Calls P f args w' fun e w'' => match e with
    | .returned v => post v w''
    | _ => False
  | _ => False
theorem Runs.wp {o : Oper} {a : Act} {w : World} {next : Act → World → Prop} {Q : Exit → Act → World → Prop} {post : Value → World → Prop} (h : Runs P ((execOp a.eval o).run P w) post) (hn : ∀ u w', post u w' → next (a.put o.dst u) w') : o.wp P a w next Q := by
  unfold Oper.wp
  generalize (execOp a.eval o).run P w = r at *
  unfold Runs at h
  split at h
  · exact hn _ _ h
  · exact hn _ _ h
  · refine Calls.mono h fun e w'' he => ?_
    cases e with
    | returned v => exact hn _ _ he
    | panicked c => exact he.elim
    | outgrown => exact he.elim
  · exact h.elim
theorem Fine.runs {ρ : Nat → Value} {U : Nat → Prop} {H : Nat → HB} {n : Nat} {r : Result Next} {o : Out} (h : Fine B w0 ρ U H r o.v o.d n o.n) : Runs P r (Fines B w0 ρ U H n [(none, o)]) := by
  obtain ⟨u, w', ρ', φ', hr, hm, h1, h2, h3⟩ := h
  have hf : Fines B w0 ρ U H n [(none, o)] u w' := ⟨none, o, by simp, trivial, ρ', φ', hm, h1, h2, h3⟩
  rcases hr with hr | ⟨hr, hu⟩
  · subst hr; exact hf
  · subst hr; subst hu; exact hf

/-- What was told of the functions that are called: each holds. -/
def ConsOk (P : Program) (C : Cons) : Prop := ∀ (en : Env) (Hl : Heap) (n : Nat) (c : Call) (f : Operand) (g : Nat) (con : Con) (r : Res) (p : Option Prop) (l : List (Option Prop × Out)),
  c.callee = .value f → ev en f = .w (.c (.fn g)) → lk C g = some con → runArgs Hl con.ps (evs en c.args.toList) con.run = some (r, p) → gotAlts n r.alts = some l →
  ∀ (B : Nat) (w0 w : World) (ρ : Nat → Value) (φ : Nat → Nat → Prop) (U : Nat → Prop) (H : Nat → HB) (a : Operand → Value) (dst : Option Tmp) (tt : Nat) (pos : String) (af : Array Edge) (gd : Option (Nat × Bool)),
    (∀ x, DenV ρ (ev en x) (a x)) → (∀ x, (ev en x).wf U) → (∀ id, (hget Hl id).live = true → H id = hget Hl id) → Mem B w0 ρ φ U H w → (∀ h o, (h, o) ∈ l → ∀ q, n ≤ q → q < o.n → ¬ U q) → holdsO p → holdsO r.pre →
    Runs P ((execOp a ⟨dst, .call c, tt, pos, af, gd⟩).run P w) (Fines B w0 ρ U H n l)

theorem gotAlts_le {n : Nat} : ∀ {as : List Alt} {l : List (Option Prop × Out)}, gotAlts n as = some l → ∀ h o, (h, o) ∈ l → n ≤ o.n
  | [], l, hs => by injection hs with hs; subst hs; intro h o hm; cases hm
  | a :: as, l, hs => by
    simp only [gotAlts] at hs
    split at hs
    · rename_i r hr
      split at hs
      · injection hs with hs
        subst hs
        intro h o hm
        rcases List.mem_cons.1 hm with hm | hm
        · injection hm with h1 h2
          subst h2
          simp
        · exact gotAlts_le hr h o hm
      · cases hs
    · cases hs
theorem stepC_sound {C : Cons} {op : Op} {en : Env} {Hl : Heap} {a : Operand → Value} {n : Nat} {g : Got} {w : World} {ρ : Nat → Value} {φ : Nat → Nat → Prop} {U : Nat → Prop} {H : Nat → HB} (hT : TabOk P T) (hC : ConsOk P C)
    (hev : ∀ x, DenV ρ (ev en x) (a x)) (hwf : ∀ x, (ev en x).wf U) (hH : ∀ id, (hget Hl id).live = true → H id = hget Hl id) (hm : Mem B w0 ρ φ U H w) (hs : stepC T C en Hl n op = some g) (hc : holdsO g.pre) (hU : ∀ h o, (h, o) ∈ g.alts → ∀ q, n ≤ q → q < o.n → ¬ U q) (dst) (tt) (pos) (af) (gd) :
    Runs P ((execOp a ⟨dst, op, tt, pos, af, gd⟩).run P w) (Fines B w0 ρ U H n g.alts) ∧ ∀ h o, (h, o) ∈ g.alts → n ≤ o.n := by
  have hstep : ∀ {op : Op}, stepG T en Hl n op = some g → Runs P ((execOp a ⟨dst, op, tt, pos, af, gd⟩).run P w) (Fines B w0 ρ U H n g.alts) ∧ ∀ h o, (h, o) ∈ g.alts → n ≤ o.n := by
    intro op hs
    unfold stepG at hs
    split at hs
    · rename_i o ho
      split at hs
      · rename_i hle
        injection hs with hs
        subst hs
        refine ⟨(step_sound hT hev hwf hH hm ho hc (fun q h1 h2 => hU none o (by simp) q h1 h2) dst tt pos af gd).runs, fun h o' hm => ?_⟩
        simp only [List.mem_singleton, Prod.mk.injEq] at hm
        rw [hm.2]
        exact Nat.le_of_ble_eq_true hle
      · cases hs
    · cases hs
  cases op with
  | call c =>
    simp only [stepC] at hs
    split at hs
    · rename_i f hf
      split at hs
      · rename_i g' hg'
        split at hs
        · rename_i con hcon
          split at hs
          · rename_i r p hr
            split at hs
            · rename_i l hl
              injection hs with hs
              subst hs
              have hc' := andO_iff.1 hc
              exact ⟨hC en Hl n c f g' con r p l hf hg' hcon hr hl B w0 w ρ φ U H a dst tt pos af gd hev hwf hH hm hU hc'.1 hc'.2, gotAlts_le hl⟩
            · cases hs
          · cases hs
        · cases hs
      · cases hs
    · exact hstep hs
  | _ => exact hstep hs

/-- One operation, in the state as it is. -/
theorem runC_sound {C : Cons} {σ : St} {o : Oper} {k : St → Prop} {a : Act} {w : World} {next : Act → World → Prop} {Q : Exit → Act → World → Prop} (hT : TabOk P T) (hC : ConsOk P C) (hS : Sim B w0 F σ a w) (h : runC T C σ o k)
    (hk : ∀ σ' a' w', k σ' → Sim B w0 F σ' a' w' → next a' w') : o.wp P a w next Q := by
  unfold runC at h
  split at h
  · rename_i g hg
    obtain ⟨hp, h⟩ := conj_iff.1 h
    obtain ⟨h1, h2, ρ, φ, hm, hd, hF⟩ := hS
    obtain ⟨dst, op, tt, pos, af, gd⟩ := o
    have hh := stepC_sound hT hC (fun x => ev_den (fun t => (hd t).1) x) (fun x => ev_wf (fun t => (hd t).2) x) (fun id _ => rfl) hm hg hp (fun _ _ _ q hq _ => Nat.not_lt.2 hq) dst tt pos af gd
    refine hh.1.wp fun u w' hf => ?_
    obtain ⟨p, out, hmem, hp', ρ', φ', hm', hρ, hv, hw⟩ := hf
    have hle := hh.2 p out hmem
    refine hk _ _ _ ?_ (Sim.upd h1 h2 hd hF hle hm' hρ hv hw)
    clear hh
    generalize g.alts = l at h hmem
    induction l with
    | nil => cases hmem
    | cons x l ih =>
      obtain ⟨p0, o0⟩ := x
      cases l with
      | nil =>
        simp only [List.mem_singleton, Prod.mk.injEq] at hmem
        obtain ⟨rfl, rfl⟩ := hmem
        exact imp_iff.1 h hp'
      | cons y l =>
        obtain ⟨ha, hb⟩ := h
        rcases List.mem_cons.1 hmem with he | he
        · simp only [Prod.mk.injEq] at he
          obtain ⟨rfl, rfl⟩ := he
          exact imp_iff.1 ha hp'
        · exact ih hb he
  · cases h

/-- What is walked where it is called: its end. -/
def InlOk (P : Program) (B : Nat) (w0 : World) (I : Inl) : Prop := ∀ g r, I g = some r → ∀ (F : Fr) (σ : St) (a : Act) (w : World) (o : Oper) (args : List SV) (k : SV → St → Prop), callee σ.e o.op = some (g, args) → r F.x args σ k → Sim B w0 F σ a w →
  Runs P ((execOp a.eval o).run P w) fun u w' => ∃ s σ', k s σ' ∧ SimV B w0 F σ' a w' s u
theorem runOp_sound {C : Cons} {σ : St} {o : Oper} {k : St → Prop} {a : Act} {w : World} {next : Act → World → Prop} {Q : Exit → Act → World → Prop} (hT : TabOk P T) (hC : ConsOk P C) (hI : InlOk P B w0 I) (hS : Sim B w0 F σ a w) (h : runOp T C I F.x σ o k)
    (hk : ∀ σ' a' w', k σ' → Sim B w0 F σ' a' w' → next a' w') : o.wp P a w next Q := by
  unfold runOp at h
  split at h
  · rename_i g args hc
    split at h
    · rename_i r hr
      refine (hI g r hr F σ a w o args _ hc h hS).wp fun u w' hu => ?_
      obtain ⟨s, σ', hk', hS'⟩ := hu
      exact hk _ _ _ hk' hS'.put
    · exact runC_sound hT hC hS h hk
  · exact runC_sound hT hC hS h hk

theorem opDst_eq : ∀ (ops : List Oper) (g : Nat), opDst ops g = (ops[g]?).bind (·.dst)
  | [], g => by simp [opDst]
  | o :: l, 0 => rfl
  | o :: l, g + 1 => by simp [opDst, opDst_eq l g]
theorem wanted_none {o : Oper} {y : Nat → Option Bool} (h : o.guard = none) : Region.wanted o y = true := by simp [Region.wanted, h]
theorem wanted_bool {ops : Array Oper} {o : Oper} {a : Act} {g s : Nat} {want x : Bool} (h : o.guard = some (g, want)) (hs : opDst ops.toList g = some s) (hv : a.tmps.getD s undef = .bool x) : Region.wanted o (yielded ops a.tmps) = (x == want) := by
  have hs' : (ops[g]?).bind (·.dst) = some s := by rw [← hs, opDst_eq]; simp
  have hlt : s < a.tmps.size := by
    by_cases h : s < a.tmps.size
    · exact h
    · have : a.tmps.getD s undef = undef := by simp [h]
      rw [this] at hv; cases hv
  have hx : a.tmps[s]? = some (.bool x) := by
    rw [← hv]
    simp [hlt]
  simp [Region.wanted, h, yielded, hs', hx]
theorem wanted_not {ops : Array Oper} {o : Oper} {a : Act} {g s : Nat} {want : Bool} (h : o.guard = some (g, want)) (hs : opDst ops.toList g = some s) (hv : a.tmps.getD s undef = .tuple #[]) : Region.wanted o (yielded ops a.tmps) = false := by
  have hs' : (ops[g]?).bind (·.dst) = some s := by rw [← hs, opDst_eq]; simp
  simp only [Region.wanted, h, yielded, hs', Option.bind_some]
  by_cases hlt : s < a.tmps.size
  · have : a.tmps[s]? = some (.tuple #[]) := by
      rw [← hv]; simp [hlt]
    simp [this]
  · simp [hlt]

/-- The operations of a region in the text's order. -/
theorem vcSeq_sound {C : Cons} {ops : Array Oper} {Q : Exit → Act → World → Prop} {k : St → Prop} (hT : TabOk P T) (hC : ConsOk P C) (hI : InlOk P B w0 I) (hk : ∀ σ a w, k σ → Sim B w0 F σ a w → Q .normal a w) :
    ∀ (r : List Oper) (i : Nat) (σ : St) (a : Act) (w : World), ops.toList.drop i = r → vcSeq T C I F.x ops.toList r σ k → Sim B w0 F σ a w → wpOps P ops Q (List.range' i r.length) a w
  | [], i, σ, a, w, _, h, hS => hk _ _ _ h hS
  | o :: r, i, σ, a, w, hi, h, hS => by
    have hi' : ops[i]? = some o := by
      have := congrArg (·[0]?) hi
      simpa using this
    have hr : ops.toList.drop (i + 1) = r := by
      have : (ops.toList.drop i).drop 1 = r := by rw [hi]; rfl
      rw [List.drop_drop] at this
      exact this
    have ih := vcSeq_sound (ops := ops) hT hC hI hk r (i + 1)
    simp only [List.length_cons, List.range'_succ, wpOps, hi']
    have hrun : ∀ (σ : St), Sim B w0 F σ a w → Region.wanted o (yielded ops a.tmps) = true → runOp T C I F.x σ o (fun σ => vcSeq T C I F.x ops.toList r σ k) →
        (if Region.wanted o (yielded ops a.tmps) = true then o.wp P a w (wpOps P ops Q (List.range' (i + 1) r.length)) Q ∨ (o.asks P a w ∧ LetsOut Q) else wpOps P ops Q (List.range' (i + 1) r.length) (a.put o.dst undef) w) := by
      intro σ hS hw hrun
      rw [if_pos hw]
      exact .inl (runOp_sound hT hC hI hS hrun fun σ' a' w' hk' hS' => ih σ' a' w' hr hk' hS')
    have hskip : ∀ (σ : St), Sim B w0 F σ a w → Region.wanted o (yielded ops a.tmps) = false → vcSeq T C I F.x ops.toList r ⟨putD o.dst (.t []) σ.e, σ.H, σ.n⟩ k →
        (if Region.wanted o (yielded ops a.tmps) = true then o.wp P a w (wpOps P ops Q (List.range' (i + 1) r.length)) Q ∨ (o.asks P a w ∧ LetsOut Q) else wpOps P ops Q (List.range' (i + 1) r.length) (a.put o.dst undef) w) := by
      intro σ hS hw hrun
      rw [if_neg (by rw [hw]; simp)]
      exact ih _ _ _ hr hrun hS.skip
    simp only [vcSeq] at h
    split at h
    · rename_i hg
      exact hrun σ hS (wanted_none hg) h
    · rename_i g want hg
      split at h
      · cases h
      · rename_i s hs
        obtain ⟨ρ, φ, hm, hd, _⟩ := hS.mem
        have hds := (hd s).1
        split at h
        · rename_i x hx
          rw [hx] at hds
          have hw := wanted_bool hg hs (den_l hds)
          split at h
          · rename_i hxw
            exact hrun σ hS (by rw [hw, hxw]) h
          · rename_i hxw
            exact hskip σ hS (by rw [hw, hxw]) h
        · rename_i hx
          rw [hx] at hds
          obtain ⟨vs, hv, hsz, _⟩ := hds
          have : vs = #[] := by
            apply Array.eq_empty_of_size_eq_zero
            simpa using hsz
          subst this
          exact hskip σ hS (wanted_not hg hs hv) h
        · rename_i x hx
          have hds' := hds
          rw [hx] at hds'
          have hw := wanted_bool hg hs (den_b hds')
          by_cases hxw : x = want
          · exact hrun _ (hS.lit hx hxw) (by rw [hw, hxw]; simp) (h.1 hxw)
          · have hxw' : x = !want := by cases x <;> cases want <;> simp_all
            exact hskip _ (hS.lit hx hxw') (by rw [hw, hxw']; simp) (h.2 hxw')
        · cases h
end
end Go.Eng
