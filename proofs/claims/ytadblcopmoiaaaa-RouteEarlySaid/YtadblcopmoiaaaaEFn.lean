/- A function's conditions are sound: its arguments, its results. -/
import Derived.Test.YtadblcopmoiaaaaECode
set_option linter.unusedVariables false
set_option linter.unusedSimpArgs false
namespace Go.Eng
open Go Go.RowKit
section
variable {P : Program} {T : Tab} {B : Nat} {w0 w : World} {ρ : Nat → Value} {φ : Nat → Nat → Prop} {U : Nat → Prop} {H : Nat → HB}

theorem ViewR.mono {R R' : CV → Value → Prop} {φ φ' : Nat → Prop} {α : Type} {enc : α → List CV} {sz : Nat} {v : Value} {xs : List α} (h : ViewR R w φ enc sz v xs) (hφ : ∀ b, φ b → φ' b) (hR : ∀ c u, R c u → R' c u) : ViewR R' w φ' enc sz v xs := by
  obtain ⟨A, c, hv, h1, h2, h3, h4⟩ := h
  refine ⟨A, c, hv, h1, h2, fun hne => ?_, fun a ha i x hx j cv hj => ?_⟩
  · obtain ⟨a, ha, hb⟩ := h3 hne
    exact ⟨a, ha, hφ _ hb⟩
  · obtain ⟨u, hu, hr⟩ := h4 a ha i x hx j cv hj
    exact ⟨u, hu, hR _ _ hr⟩
theorem View.mono {φ φ' : Nat → Prop} {k : K} {v : Value} {xs : List k.T} (h : View w φ k v xs) (hφ : ∀ b, φ b → φ' b) : View w φ' k v xs :=
  ViewR.mono h hφ fun c u hc => match c, hc with
    | .i _, h => h
    | .b _, h => h
    | .sl _ _, h => ViewR.mono h hφ fun _ _ h => h
/-- A cell of an argument's. -/
def AD (w : World) : AC → Value → Prop
  | .i n, v => v = .int .i64 n
  | .b x, v => v = .bool x
  | .fn f, v => v = .func (.func f) #[] #[]
  | .np, v => v = .pointer none
  | .a k xs, v => View w (· < w.heap.size) k v xs
  | .o _ _ _, _ => False

theorem view_nil {ψ : Nat → Prop} (k : K) : View w ψ k (.slice none 0 0) [] := ⟨none, 0, rfl, Nat.le_refl _, Nat.zero_le _, fun h => absurd rfl h, fun a ha => by cases ha⟩
theorem view_part {ψ : Nat → Prop} {k : K} {xs : List k.T} {v v' : Value} {lo n : Nat} (h : View w ψ k v xs) (hle : lo + n ≤ xs.length)
    (hd : ∃ A n0 c0 A' c', v = .slice A n0 c0 ∧ v' = .slice A' n c' ∧ n ≤ c' ∧ c' ≤ maxLen ∧ (0 < n → ∃ a, A = some a ∧ A' = some (a.add (lo * k.size)))) : View w ψ k v' (part xs lo n) := by
  obtain ⟨A, n0, c0, A', c', h1, h2, h3, h4, h5⟩ := hd
  obtain ⟨A2, c2, g1, g2, g3, g4, g5⟩ := h
  rw [h1] at g1
  injection g1 with e1 e2 e3
  subst e1
  have hlen : (part xs lo n).length = n := part_length xs lo n hle
  refine ⟨A', c', by rw [hlen]; exact h2, by rw [hlen]; exact h3, h4, fun hne => ?_, fun a ha i x hx j cv hj => ?_⟩
  · have hpos : 0 < n := by
      rw [← hlen]
      exact List.length_pos_iff.2 hne
    obtain ⟨a, ha, ha'⟩ := h5 hpos
    refine ⟨_, ha', ?_⟩
    rw [add_block]
    obtain ⟨a2, ha2, hb⟩ := g4 (by intro e; rw [e] at hle; simp at hle; omega)
    rw [ha] at ha2
    injection ha2 with ha2
    rw [ha2]; exact hb
  · have hi : i < n := by
      have := (List.getElem?_eq_some_iff.1 hx).1
      omega
    obtain ⟨a0, ha0, ha0'⟩ := h5 (by omega)
    rw [ha] at ha0'
    injection ha0' with ha0'
    subst ha0'
    have hx' : xs[lo + i]? = some x := by
      rw [part, List.getElem?_take_of_lt hi, List.getElem?_drop] at hx
      exact hx
    obtain ⟨u, hu, hr⟩ := g5 a0 ha0 (lo + i) x hx' j cv hj
    refine ⟨u, ?_, hr⟩
    rw [add_add a0 (lo * k.size), ← Nat.add_mul]
    exact hu

theorem absC_sound {Hl : Heap} (hH : ∀ id, (hget Hl id).live = true → H id = hget Hl id) (hm : Mem B w0 ρ φ U H w) {k : CK} {s : SC} {x : AC} {p : Option Prop} {v : Value} (h : absC Hl k s = some (x, p)) (hp : holdsO p) (hd : DenC ρ s v) : AD w x v := by
  have vw : ∀ {id e : Nat} {k : K} {o : Bool} {xs : List k.T}, hget Hl id = .arr k e o xs → View w (· < w.heap.size) k (ρ id) xs := by
    intro id e k o xs hh
    have hid : H id = .arr k e o xs := live_arr hH hh
    exact (mem_view hm hid).mono fun b hb => hm.lt id (by rw [hid]; rfl) b hb
  unfold absC at h
  split at h
  · simp only [Option.some.injEq, Prod.mk.injEq] at h; obtain ⟨rfl, rfl⟩ := h; exact hd
  · simp only [Option.some.injEq, Prod.mk.injEq] at h; obtain ⟨rfl, rfl⟩ := h; exact hd
  · simp only [Option.some.injEq, Prod.mk.injEq] at h; obtain ⟨rfl, rfl⟩ := h; exact hd
  · simp only [Option.some.injEq, Prod.mk.injEq] at h; obtain ⟨rfl, rfl⟩ := h; exact hd
  · simp only [Option.some.injEq, Prod.mk.injEq] at h
    obtain ⟨rfl, rfl⟩ := h
    have hd : v = .slice none 0 0 := hd
    subst hd
    exact view_nil _
  · split at h
    · rename_i k' e o xs hh
      split at h
      · rename_i hk _
        subst hk
        simp only [Option.some.injEq, Prod.mk.injEq] at h
        obtain ⟨rfl, rfl⟩ := h
        have := vw hh
        rw [← hd.1] at this
        exact this
      · cases h
    · cases h
  · split at h
    · rename_i k' e o xs hh
      split at h
      · rename_i hk _
        subst hk
        split at h
        · rename_i hsz
          subst hsz
          simp only [Option.some.injEq, Prod.mk.injEq] at h
          obtain ⟨rfl, rfl⟩ := h
          exact view_part (vw hh) hp hd
        · cases h
      · cases h
    · cases h
  · cases h
theorem absL_sound {Hl : Heap} (hH : ∀ id, (hget Hl id).live = true → H id = hget Hl id) (hm : Mem B w0 ρ φ U H w) : ∀ {ks : List CK} {l : List SC} {xs : List AC} {p : Option Prop} {vs : List Value}, absL Hl ks l = some (xs, p) → holdsO p → All2 (DenC ρ) l vs → All2 (AD w) xs vs
  | [], [], xs, p, vs, h, hp, hd => by
    simp only [absL, Option.some.injEq, Prod.mk.injEq] at h
    obtain ⟨rfl, rfl⟩ := h
    cases vs with
    | nil => trivial
    | cons v vs => exact hd.elim
  | k :: ks, c :: l, xs, p, vs, h, hp, hd => by
    simp only [absL] at h
    split at h
    · rename_i x p1 ys q1 h1 h2
      simp only [Option.some.injEq, Prod.mk.injEq] at h
      obtain ⟨rfl, rfl⟩ := h
      obtain ⟨hp1, hq1⟩ := andO_iff.1 hp
      cases vs with
      | nil => exact hd.elim
      | cons v vs => exact ⟨absC_sound hH hm h1 hp1 hd.1, absL_sound hH hm h2 hq1 hd.2⟩
    · cases h
  | [], _ :: _, _, _, _, h, _, _ => by simp [absL] at h
  | _ :: _, [], _, _, _, h, _, _ => by simp [absL] at h

/-- Arguments that were laid: what is known of their blocks. -/
def RO (w : World) (ρ : Nat → Value) (n : Nat) (h : List HB) : Prop := ∀ j hb, h[j]? = some hb → Holds ρ w (· < w.heap.size) hb (ρ (n + j)) ∧ hb.own = false ∧ hb.wf (fun i => n ≤ i ∧ i < n + h.length)
theorem conc_sound {x : AC} {v : Value} {n : Nat} {c : SC} {h : List HB} (hd : AD w x v) (hc : x.conc n = (c, h)) (ρ0 : Nat → Value) :
    ∃ ρ', (∀ i, i < n ∨ n + h.length ≤ i → ρ' i = ρ0 i) ∧ DenC ρ' c v ∧ RO w ρ' n h ∧ c.wf (fun i => n ≤ i ∧ i < n + h.length) := by
  cases x with
  | i m => simp only [AC.conc, Prod.mk.injEq] at hc; obtain ⟨rfl, rfl⟩ := hc; exact ⟨ρ0, fun _ _ => rfl, hd, fun j hb h => by simp at h, fun _ h => h.elim⟩
  | b m => simp only [AC.conc, Prod.mk.injEq] at hc; obtain ⟨rfl, rfl⟩ := hc; exact ⟨ρ0, fun _ _ => rfl, hd, fun j hb h => by simp at h, fun _ h => h.elim⟩
  | fn m => simp only [AC.conc, Prod.mk.injEq] at hc; obtain ⟨rfl, rfl⟩ := hc; exact ⟨ρ0, fun _ _ => rfl, hd, fun j hb h => by simp at h, fun _ h => h.elim⟩
  | np => simp only [AC.conc, Prod.mk.injEq] at hc; obtain ⟨rfl, rfl⟩ := hc; exact ⟨ρ0, fun _ _ => rfl, hd, fun j hb h => by simp at h, fun _ h => h.elim⟩
  | o fk e xs => exact hd.elim
  | a k xs =>
    simp only [AC.conc, Prod.mk.injEq] at hc
    obtain ⟨rfl, rfl⟩ := hc
    have hd : View w (· < w.heap.size) k v xs := hd
    refine ⟨Eng.upd ρ0 n v, fun i hi => upd_ne _ _ ?_, ⟨(upd_same _ _ _).symm, ?_⟩, fun j hb hj => ?_, fun i hi => ?_⟩
    · rintro rfl
      rcases hi with hi | hi
      · omega
      · simp at hi; omega
    · obtain ⟨A, c, hv, _⟩ := hd
      exact ⟨_, _, _, hv⟩
    · match j, hj with
      | 0, hj =>
        simp at hj
        subst hj
        refine ⟨?_, rfl, trivial⟩
        rw [Nat.add_zero, upd_same]
        exact hd
      | j + 1, hj => simp at hj
    · simp only [SC.ids] at hi
      subst hi
      simp
theorem RO.anchors {ρ ρ' : Nat → Value} {n : Nat} {h : List HB} (hr : RO w ρ n h) (hρ : ∀ i, n ≤ i → i < n + h.length → ρ' i = ρ i) : RO w ρ' n h := fun j hb hj => by
  obtain ⟨h1, h2, h3⟩ := hr j hb hj
  have hlt := (List.getElem?_eq_some_iff.1 hj).1
  refine ⟨?_, h2, h3⟩
  rw [hρ (n + j) (by omega) (by omega)]
  exact h1.anchors h3 fun i hi => hρ i hi.1 hi.2
theorem HB.wf.mono' {U U' : Nat → Prop} {c : HB} (h : c.wf U) (hU : ∀ x, U x → U' x) : c.wf U' := h.mono hU
theorem RO.app {ρ : Nat → Value} {n : Nat} {h h' : List HB} (h1 : RO w ρ n h) (h2 : RO w ρ (n + h.length) h') : RO w ρ n (h ++ h') := fun j hb hj => by
  by_cases hlt : j < h.length
  · rw [List.getElem?_append_left hlt] at hj
    obtain ⟨a, b, c⟩ := h1 j hb hj
    exact ⟨a, b, c.mono fun i hi => ⟨hi.1, by simp; omega⟩⟩
  · rw [List.getElem?_append_right (by omega)] at hj
    obtain ⟨a, b, c⟩ := h2 _ hb hj
    refine ⟨?_, b, c.mono fun i hi => ⟨by omega, by simp; omega⟩⟩
    have : n + h.length + (j - h.length) = n + j := by omega
    rwa [this] at a
theorem concL_sound : ∀ {xs : List AC} {vs : List Value} {n : Nat} {cs : List SC} {h : List HB}, All2 (AD w) xs vs → concL xs n = (cs, h) → ∀ (ρ0 : Nat → Value),
    ∃ ρ', (∀ i, i < n ∨ n + h.length ≤ i → ρ' i = ρ0 i) ∧ All2 (DenC ρ') cs vs ∧ RO w ρ' n h ∧ ∀ c ∈ cs, c.wf (fun i => n ≤ i ∧ i < n + h.length)
  | [], vs, n, cs, h, hd, hc, ρ0 => by
    simp only [concL, Prod.mk.injEq] at hc
    obtain ⟨rfl, rfl⟩ := hc
    cases vs with
    | nil => exact ⟨ρ0, fun _ _ => rfl, trivial, fun j hb h => by simp at h, fun c h => by cases h⟩
    | cons v vs => exact hd.elim
  | x :: xs, vs, n, cs, h, hd, hc, ρ0 => by
    cases vs with
    | nil => exact hd.elim
    | cons v vs =>
      simp only [concL] at hc
      generalize hx : x.conc n = r at hc
      obtain ⟨c, h1⟩ := r
      simp only at hc
      generalize hxs : concL xs (n + len h1) = r at hc
      obtain ⟨cs', h2⟩ := r
      simp only [Prod.mk.injEq] at hc
      obtain ⟨rfl, rfl⟩ := hc
      rw [len_eq] at hxs
      rw [app_eq]
      obtain ⟨ρ1, e1, d1, r1, w1⟩ := conc_sound hd.1 hx ρ0
      obtain ⟨ρ2, e2, d2, r2, w2⟩ := concL_sound hd.2 hxs ρ1
      have agree : ∀ i, n ≤ i → i < n + h1.length → ρ2 i = ρ1 i := fun i _ hi => e2 i (.inl hi)
      refine ⟨ρ2, fun i hi => ?_, ⟨d1.anchors fun i hi => agree i (w1 i hi).1 (w1 i hi).2, d2⟩, (r1.anchors agree).app r2, fun c' hc' => ?_⟩
      · rw [List.length_append] at hi
        rw [e2 i (by rcases hi with hi | hi <;> omega), e1 i (by rcases hi with hi | hi <;> omega)]
      · rcases List.mem_cons.1 hc' with rfl | hc'
        · exact w1.mono fun i hi => ⟨hi.1, by simp; omega⟩
        · exact (w2 c' hc').mono fun i hi => ⟨by omega, by simp; omega⟩

/-- A parameter's value. -/
def PD (w : World) : AV → Value → Prop
  | .c x, v => AD w x v
  | .r l, v => ∃ vs : Array Value, v = .agg vs ∧ All2 (AD w) l vs.toList
  | .p o ty l, v => o = false ∧ ∃ g cs, v = .pointer (some ⟨g, 0, none⟩) ∧ g < w.heap.size ∧ w.heap[g]? = some (.cells cs ty (0, 0)) ∧ All2 (AD w) l cs.toList
theorem ofCK_enc {k : CK} {y : AC} {z : k.T} (h : AC.ofCK k y = some z) : k.enc z = y := by
  unfold AC.ofCK at h
  split at h
  · injection h with h; subst h; rfl
  · injection h with h; subst h; rfl
  · injection h with h; subst h; rfl
  · split at h
    · rename_i hk _
      subst hk
      injection h with h
      subst h
      rfl
    · cases h
  · cases h
theorem mem_cellsP {id ty : Nat} {o : Bool} {l : List SC} (hm : Mem B w0 ρ φ U H w) (h : H id = .cells o ty l) : ∃ g cs, ρ id = .pointer (some ⟨g, 0, none⟩) ∧ φ id g ∧ w.heap[g]? = some (.cells cs ty (0, 0)) ∧ DenL ρ l cs := by
  have := hm.holds id
  rw [h] at this
  exact this
theorem absP_sound {Hl : Heap} (hH : ∀ id, (hget Hl id).live = true → H id = hget Hl id) (hm : Mem B w0 ρ φ U H w) {k : PK} {s : SV} {x : k.T} {p : Option Prop} {v : Value} (h : absP Hl k s = some (x, p)) (hp : holdsO p) (hd : DenV ρ s v) : PD w (k.enc x) v := by
  unfold absP at h
  split at h
  · split at h
    · rename_i y p1 h1
      split at h
      · rename_i z hz
        simp only [Option.some.injEq, Prod.mk.injEq] at h
        obtain ⟨rfl, rfl⟩ := h
        have := absC_sound hH hm h1 hp hd
        simp only [PK.enc, PD]
        rw [ofCK_enc hz]
        exact this
      · cases h
    · cases h
  · split at h
    · rename_i ys p1 h1
      split at h
      · rename_i z hz
        simp only [Option.some.injEq, Prod.mk.injEq] at h
        obtain ⟨rfl, rfl⟩ := h
        obtain ⟨vs, rfl, hl⟩ := hd
        refine ⟨vs, rfl, ?_⟩
        rw [SK.enc_dec hz]
        exact absL_sound hH hm h1 hp (denL_iff.1 hl)
      · cases h
    · cases h
  · split at h
    · rename_i o ty' l hh
      split at h
      · rename_i ht
        subst ht
        split at h
        · rename_i ys p1 h1
          split at h
          · rename_i z hz
            simp only [Option.some.injEq, Prod.mk.injEq] at h
            obtain ⟨rfl, rfl⟩ := h
            have hid := live_cells hH hh
            obtain ⟨g, cs, hρ, hφ, hheap, hl⟩ := mem_cellsP hm hid
            obtain ⟨g', hg1, hg2⟩ := hd
            rw [hρ] at hg1
            injection hg1 with hg1
            injection hg1 with hg1
            injection hg1 with hg1
            subst hg1
            refine ⟨rfl, g, cs, hg2, hm.lt _ (by rw [hid]; rfl) g hφ, hheap, ?_⟩
            rw [SK.enc_dec hz]
            exact absL_sound hH hm h1 hp (denL_iff.1 hl)
          · cases h
        · cases h
      · cases h
    · cases h
  · simp only [Option.some.injEq, Prod.mk.injEq] at h
    obtain ⟨rfl, rfl⟩ := h
    exact hd
  · split at h
    · rename_i o ty' l hh
      split at h
      · rename_i ht
        subst ht
        split at h
        · rename_i ys p1 h1
          split at h
          · rename_i z hz
            simp only [Option.some.injEq, Prod.mk.injEq] at h
            obtain ⟨rfl, rfl⟩ := h
            have hid := live_cells hH hh
            obtain ⟨g, cs, hρ, hφ, hheap, hl⟩ := mem_cellsP hm hid
            obtain ⟨g', hg1, hg2⟩ := hd
            rw [hρ] at hg1
            injection hg1 with hg1
            injection hg1 with hg1
            injection hg1 with hg1
            subst hg1
            refine ⟨rfl, g, cs, hg2, hm.lt _ (by rw [hid]; rfl) g hφ, hheap, ?_⟩
            rw [SK.enc_dec hz]
            exact absL_sound hH hm h1 hp (denL_iff.1 hl)
          · cases h
        · cases h
      · cases h
    · cases h
  · cases h
theorem overP_iff {p : PK} {f : p.T → Prop} : overP p f ↔ ∀ x, f x := by
  cases p with
  | q s ty => exact ⟨fun h x => match x with | none => h.1 | some x => h.2 x, fun h => ⟨h none, fun x => h (some x)⟩⟩
  | _ => exact Iff.rfl
theorem concP_sound {x : AV} {v : Value} {n : Nat} {s : SW} {h : List HB} (hd : PD w x v) (hc : x.conc n = (s, h)) (ρ0 : Nat → Value) :
    ∃ ρ', (∀ i, i < n ∨ n + h.length ≤ i → ρ' i = ρ0 i) ∧ DenW ρ' s v ∧ RO w ρ' n h ∧ s.wf (fun i => n ≤ i ∧ i < n + h.length) := by
  cases x with
  | c x =>
    simp only [AV.conc] at hc
    generalize hx : x.conc n = r at hc
    obtain ⟨c, h1⟩ := r
    simp only [Prod.mk.injEq] at hc
    obtain ⟨rfl, rfl⟩ := hc
    exact conc_sound hd hx ρ0
  | r l =>
    simp only [AV.conc] at hc
    generalize hx : concL l n = r at hc
    obtain ⟨c, h1⟩ := r
    simp only [Prod.mk.injEq] at hc
    obtain ⟨rfl, rfl⟩ := hc
    obtain ⟨vs, rfl, hl⟩ := hd
    obtain ⟨ρ', e, d, r, wf⟩ := concL_sound hl hx ρ0
    exact ⟨ρ', e, ⟨vs, rfl, denL_iff.2 d⟩, r, wf⟩
  | p o ty l =>
    simp only [AV.conc] at hc
    generalize hx : concL l (n + 1) = r at hc
    obtain ⟨c, h1⟩ := r
    simp only [Prod.mk.injEq] at hc
    obtain ⟨rfl, rfl⟩ := hc
    obtain ⟨rfl, g, cs, rfl, hlt, hheap, hl⟩ := hd
    obtain ⟨ρ1, e1, d1, r1, w1⟩ := concL_sound hl hx (Eng.upd ρ0 n (.pointer (some ⟨g, 0, none⟩)))
    have hn : ρ1 n = .pointer (some ⟨g, 0, none⟩) := by rw [e1 n (.inl (by omega)), upd_same]
    refine ⟨ρ1, fun i hi => ?_, ⟨g, hn, rfl⟩, fun j hb hj => ?_, fun i hi => ?_⟩
    · simp only [List.length_cons] at hi
      rw [e1 i (by rcases hi with hi | hi <;> omega), upd_ne _ _ (by rcases hi with hi | hi <;> omega)]
    · match j, hj with
      | 0, hj =>
        simp at hj
        subst hj
        refine ⟨⟨g, cs, by rw [Nat.add_zero, hn], hlt, hheap, denL_iff.2 d1⟩, rfl, fun c hc => (w1 c hc).mono fun i hi => ⟨by omega, by simp; omega⟩⟩
      | j + 1, hj =>
        obtain ⟨a, b, c⟩ := r1 j hb (by simpa using hj)
        refine ⟨?_, b, c.mono fun i hi => ⟨by omega, by simp; omega⟩⟩
        have : n + 1 + j = n + (j + 1) := by omega
        rwa [this] at a
    · simp only [SC.ids] at hi
      subst hi
      simp

/-- A call's start. -/
structure Start (e : Env) (H : Heap) (vs : List Value) (w : World) : Prop where
  mem : ∃ ρ, RO w ρ 0 H ∧ All2 (DenV ρ) e vs ∧ ∀ s ∈ e, s.wf (· < H.length)
theorem All2.append {α β : Type} {R : α → β → Prop} : ∀ {l l' : List α} {m m' : List β}, All2 R l m → All2 R l' m' → All2 R (l ++ l') (m ++ m')
  | [], _, [], _, _, h => h
  | _ :: l, _, _ :: m, _, h, h' => ⟨h.1, All2.append h.2 h'⟩
  | [], _, _ :: _, _, h, _ => h.elim
  | _ :: _, _, [], _, h, _ => h.elim
theorem All2.imp {α β : Type} {R R' : α → β → Prop} : ∀ {l : List α} {m : List β}, (∀ a ∈ l, ∀ b, R a b → R' a b) → All2 R l m → All2 R' l m
  | [], [], _, _ => trivial
  | a :: l, b :: m, h, h' => ⟨h a (by simp) b h'.1, All2.imp (fun x hx => h x (by simp [hx])) h'.2⟩
  | [], _ :: _, _, h => h.elim
  | _ :: _, [], _, h => h.elim
theorem start_push {e : Env} {Hs : Heap} {vs : List Value} {x : AV} {v : Value} {s : SW} {h : List HB} (hs : Start e Hs vs w) (hd : PD w x v) (hc : x.conc (len Hs) = (s, h)) : Start (app e [.w s]) (app Hs h) (vs ++ [v]) w := by
  obtain ⟨ρ, hr, hl, hw⟩ := hs
  rw [len_eq] at hc
  obtain ⟨ρ', e1, d1, r1, w1⟩ := concP_sound hd hc ρ
  rw [app_eq, app_eq]
  have agree : ∀ i, i < Hs.length → ρ' i = ρ i := fun i hi => e1 i (.inl hi)
  refine ⟨ρ', RO.app (hr.anchors fun i _ hi => agree i (by omega)) (by rw [Nat.zero_add]; exact r1), All2.append (hl.imp fun a ha b hab => hab.anchors (hw a ha) fun i hi => agree i hi) ⟨d1, trivial⟩, fun s' hs' => ?_⟩
  rw [List.length_append]
  rcases List.mem_append.1 hs' with hs' | hs'
  · exact (hw s' hs').mono fun i hi => by omega
  · simp only [List.mem_singleton] at hs'
    subst hs'
    exact SW.wf.mono w1 fun i hi => hi.2
theorem start_nil : Start [] [] [] w := ⟨fun _ => undef, fun j hb h => by simp at h, trivial, fun s h => by cases h⟩
theorem view_len {ψ : Nat → Prop} {k : K} {v : Value} {xs : List k.T} (h : View w ψ k v xs) : LenOk xs.length := by
  obtain ⟨A, c, hv, h1, h2, _⟩ := h
  exact ⟨Nat.le_trans h1 h2⟩
theorem view_ok {ψ : Nat → Prop} {k : K} {v : Value} {xs : List k.T} (h : View w ψ k v xs) : k.ok xs := by
  have hl := view_len h
  obtain ⟨A, c, hv, h1, h2, h3, h4⟩ := h
  cases k with
  | f k => exact hl
  | route =>
    refine ⟨hl, fun r hr => ?_⟩
    obtain ⟨i, hi⟩ := List.getElem?_of_mem hr
    have hne : xs ≠ [] := by rintro rfl; cases hr
    obtain ⟨a, ha, _⟩ := h3 hne
    obtain ⟨u, _, hu⟩ := h4 a ha i r hi 2 (.sl .stop r.stops) rfl
    obtain ⟨A', c', _, g1, g2, _⟩ := hu
    exact ⟨Nat.le_trans g1 g2⟩
  | rows k =>
    refine ⟨hl, fun r hr => ?_⟩
    obtain ⟨i, hi⟩ := List.getElem?_of_mem hr
    have hne : xs ≠ [] := by rintro rfl; cases hr
    obtain ⟨a, ha, _⟩ := h3 hne
    obtain ⟨u, _, hu⟩ := h4 a ha i r hi 0 (.sl k r) rfl
    obtain ⟨A', c', _, g1, g2, _⟩ := hu
    exact ⟨Nat.le_trans g1 g2⟩
theorem all2_at {α β : Type} {R : α → β → Prop} {l : List α} {m : List β} (h : All2 R l m) (j : Nat) (a : α) (ha : l[j]? = some a) : ∃ b, R a b := by
  obtain ⟨b, _, hb⟩ := (all2_iff.1 h).2 j a ha
  exact ⟨b, hb⟩
theorem sk_ok {s : SK} {x : s.T} {vs : List Value} (h : All2 (AD w) (s.enc x) vs) : holdsO (s.ok x) := by
  cases s with
  | f k => trivial
  | route =>
    obtain ⟨v, hv⟩ := all2_at h 2 _ rfl
    exact view_len hv
  | world =>
    obtain ⟨v1, hv1⟩ := all2_at h 1 _ rfl
    obtain ⟨v2, hv2⟩ := all2_at h 2 _ rfl
    obtain ⟨v3, hv3⟩ := all2_at h 3 _ rfl
    obtain ⟨v4, hv4⟩ := all2_at h 4 _ rfl
    exact ⟨view_len hv1, view_len hv2, view_len hv3, view_ok (k := .route) hv4⟩
  | map =>
    obtain ⟨v, hv⟩ := all2_at h 1 _ rfl
    exact view_len hv
theorem pd_ok {p : PK} {x : p.T} {v : Value} (h : PD w (p.enc x) v) : holdsO (p.ok x) := by
  cases p with
  | c k =>
    cases k with
    | a k =>
      have h : View w (· < w.heap.size) k v x := h
      exact view_ok h
    | i => trivial
    | b => trivial
    | fn => trivial
  | r s =>
    obtain ⟨vs, _, h⟩ := h
    exact sk_ok h
  | p s ty =>
    obtain ⟨_, g, cs, _, _, _, h⟩ := h
    exact sk_ok h
  | q s ty =>
    cases x with
    | none => trivial
    | some x =>
      obtain ⟨_, g, cs, _, _, _, h⟩ := h
      exact sk_ok h
theorem allArgs_run {R : Type} {Hl : Heap} (hH : ∀ id, (hget Hl id).live = true → H id = hget Hl id) (hm : Mem B w0 ρ φ U H w) {k : Env → Heap → R → Prop} : ∀ {ps : List PK} {ss : List SV} {f : Fun ps R} {e : Env} {Hs : Heap} {vs0 vs : List Value} {r : R} {c : Option Prop},
    runArgs Hl ps ss f = some (r, c) → holdsO c → All2 (DenV ρ) ss vs → Start e Hs vs0 w → allArgs ps e Hs f k → ∃ e' Hs', k e' Hs' r ∧ Start e' Hs' (vs0 ++ vs) w
  | [], [], f, e, Hs, vs0, vs, r, c, h, hc, hd, hs, hk => by
    simp only [runArgs, Option.some.injEq, Prod.mk.injEq] at h
    obtain ⟨rfl, rfl⟩ := h
    cases vs with
    | nil => exact ⟨e, Hs, hk, by simpa using hs⟩
    | cons v vs => exact hd.elim
  | p :: ps, s :: ss, f, e, Hs, vs0, vs, r, c, h, hc, hd, hs, hk => by
    simp only [runArgs] at h
    split at h
    · rename_i x c1 h1
      split at h
      · rename_i r' c2 h2
        simp only [Option.some.injEq, Prod.mk.injEq] at h
        obtain ⟨rfl, rfl⟩ := h
        obtain ⟨hc1, hc2⟩ := andO_iff.1 hc
        cases vs with
        | nil => exact hd.elim
        | cons v vs =>
          have hpd := absP_sound hH hm h1 hc1 hd.1
          have hk' := imp_iff.1 (overP_iff.1 hk x) (pd_ok hpd)
          generalize hx : (p.enc x).conc (len Hs) = q at hk'
          obtain ⟨s', h'⟩ := q
          obtain ⟨e', Hs', h3, h4⟩ := allArgs_run hH hm h2 hc2 hd.2 (start_push hs hpd hx) hk'
          exact ⟨e', Hs', h3, by simpa using h4⟩
      · cases h
    · cases h
  | [], _ :: _, _, _, _, _, _, _, _, h, _, _, _, _ => by simp [runArgs] at h
  | _ :: _, [], _, _, _, _, _, _, _, h, _, _, _, _ => by simp [runArgs] at h
theorem allArgs_mono {R : Type} {k k' : Env → Heap → R → Prop} (hk : ∀ e H r, k e H r → k' e H r) : ∀ {ps : List PK} {f : Fun ps R} {e : Env} {Hs : Heap}, allArgs ps e Hs f k → allArgs ps e Hs f k'
  | [], _, _, _, h => hk _ _ _ h
  | p :: ps, f, e, Hs, h => overP_iff.2 fun x => imp_iff.2 fun ho => allArgs_mono hk (ps := ps) (imp_iff.1 (overP_iff.1 h x) ho)

/-- The start as symbolic memory. -/
theorem start_mem {e : Env} {Hs : Heap} {vs : List Value} (hs : Start e Hs vs w) : ∃ ρ φ, Mem w.heap.size w ρ φ (· < Hs.length) (hget Hs) w ∧ All2 (DenV ρ) e vs ∧ ∀ s ∈ e, s.wf (· < Hs.length) := by
  obtain ⟨ρ, hr, hl, hw⟩ := hs
  have at' : ∀ i, (hget Hs i).live = true → Hs[i]? = some (hget Hs i) := fun i hi => nth_at (hget_out hi)
  refine ⟨ρ, fun _ b => b < w.heap.size, ⟨Nat.le_refl _, Below.refl _ _, fun i hi => hget_out hi, fun i => ?_, fun i => ?_, fun i hi b hb => hb, fun i hi => ?_, fun i i' _ hi => ?_⟩, hl, hw⟩
  · by_cases hi : (hget Hs i).live = true
    · exact (hr i _ (at' i hi)).2.2.mono fun j hj => by omega
    · have : hget Hs i = .dead := by cases hh : hget Hs i <;> simp_all [HB.live]
      rw [this]; trivial
  · by_cases hi : (hget Hs i).live = true
    · have := (hr i _ (at' i hi)).1
      rwa [Nat.zero_add] at this
    · have : hget Hs i = .dead := by cases hh : hget Hs i <;> simp_all [HB.live]
      rw [this]; trivial
  · have := (hr i _ (at' i (HB.live_of_own hi))).2.1
    rw [hi] at this; cases this
  · have := (hr i _ (at' i (HB.live_of_own hi))).2.1
    rw [hi] at this; cases this
end
end Go.Eng
