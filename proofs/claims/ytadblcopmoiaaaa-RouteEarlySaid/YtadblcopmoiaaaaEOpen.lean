/- A statement's arguments, as a row hands them, are parameters' values. -/
import Derived.Test.YtadblcopmoiaaaaELaw
import Derived.WalkKit
import Derived.ProofKit
import Derived.OpenShut
import Derived.ChangeOld
import Derived.SizedLaws
set_option linter.unusedVariables false
set_option linter.unusedSimpArgs false
namespace Go.Eng
open Go Go.RowKit Go.ChangeShapes Go.WideShapes
section
variable {H : Type} {enc : TypeId × Value → H} {P : Program} {w : World} {spare : Nat → Bool} {held : Bool}

def InR (n : Int) : Prop := -9223372036854775808 ≤ n ∧ n ≤ 9223372036854775807
def flatR : CV → Prop
  | .i n => InR n
  | _ => True
def cvR : CV → Prop
  | .i n => InR n
  | .b _ => True
  | .sl k xs => ∀ x ∈ xs, ∀ c ∈ k.enc x, flatR c
/-- Numbers in the machine's bounds. -/
def K.inR (k : K) (xs : List k.T) : Prop := ∀ x ∈ xs, ∀ c ∈ k.enc x, cvR c
def acR : AC → Prop
  | .i n => InR n
  | .a k xs => k.inR xs
  | _ => True
def avR : AV → Prop
  | .c x => acR x
  | .r l => ∀ c ∈ l, acR c
  | .p _ _ l => ∀ c ∈ l, acR c

/-- What one datum weighs another one weighs, too. -/
def Wt (P : Program) (u : TypeId) (d : DataW H) (t : TypeId) (d' : DataW H) : Prop := ∀ q ∈ d.weights P u, q ∈ d'.weights P t
def Light (P : Program) (t : TypeId) (d : DataW H) : Prop := ∀ q ∈ d.weights P t, q ≤ reachBytes
theorem Wt.light {u t : TypeId} {d d' : DataW H} (h : Wt P u d t d') (hl : Light P t d') : Light P u d := fun q hq => hl q (h q hq)
theorem weightsAll_mem {e : TypeId} : ∀ {l : List (DataW H)} {d : DataW H} {q : Nat}, d ∈ l → q ∈ d.weights P e → q ∈ DataW.weightsAll P e l
  | [], _, _, h, _ => by cases h
  | x :: l, d, q, h, hq => by
    rw [DataW.weightsAll]
    rcases List.mem_cons.1 h with rfl | h
    · exact List.mem_append_left _ hq
    · exact List.mem_append_right _ (weightsAll_mem h hq)
/-- No list takes more bytes than there are. -/
def K.szd : (k : K) → List k.T → Prop
  | .f k, xs => xs.length * (8 * k.size) ≤ 140737488351232
  | .route, xs => xs.length * 40 ≤ 140737488351232 ∧ ∀ r ∈ xs, (r : Route).stops.length * 16 ≤ 140737488351232
  | .rows k, xs => xs.length * 24 ≤ 140737488351232 ∧ ∀ r ∈ xs, (r : List k.T).length * (8 * k.size) ≤ 140737488351232
def AC.szd : AC → Prop
  | .a k xs => k.szd xs
  | _ => True
def AV.szd : AV → Prop
  | .c x => x.szd
  | .r l => ∀ c ∈ l, c.szd
  | _ => True
/-- The types of a type's cells. -/
def flatGo (P : Program) (rec : TypeId → Option (List TypeId)) : Nat → List Field → Option (List TypeId)
  | _, [] => some []
  | off, f :: fs => match rec f.type with
    | some ts => if f.offset = off ∧ P.cellsOf f.type = ts.length then (match flatGo P rec (off + ts.length) fs with
      | some r => some (ts ++ r)
      | none => none) else none
    | none => none
def flatT (P : Program) : Nat → TypeId → Option (List TypeId)
  | 0, _ => none
  | n + 1, t => match P.underlying t with
    | some (.struct fs) => flatGo P (flatT P n) 0 fs.toList
    | some (.int .i64) => some [t]
    | some .bool => some [t]
    | some (.slice _) => some [t]
    | _ => none

theorem flat_open : ∀ (n : Nat) (t : TypeId) (ts : List TypeId) (fuel : Nat) (cs : List Value) (x : DataW H × List MemPlace), flatT P n t = some ts → DataW.trod enc P w 0 spare held fuel t cs = some x →
    ∀ (j : Nat) u, ts[j]? = some u → ∃ m y, DataW.trod enc P w 0 spare held m u ((cs.drop j).take 1) = some y ∧ Wt P u y.1 t x.1
  | 0, _, _, _, _, _, h, _ => by simp [flatT] at h
  | n + 1, t, ts, fuel, cs, x, h, hx => by
    have leaf : ∀ (v : Value), cs = [v] → some [t] = some ts → ∀ (j : Nat) u, ts[j]? = some u → ∃ m y, DataW.trod enc P w 0 spare held m u ((cs.drop j).take 1) = some y ∧ Wt P u y.1 t x.1 := by
      intro v hv hts j u hj
      injection hts with hts
      subst hts
      match j, hj with
      | 0, hj =>
        simp at hj; subst hj
        exact ⟨fuel, x, by rw [hv] at hx ⊢; exact hx, fun q h => h⟩
      | j + 1, hj => simp at hj
    unfold flatT at h
    split at h
    · rename_i fs hu
      obtain ⟨xs, m, _, hxe, hlen, hxs, hf⟩ := DataW.trod_struct hu hx
      have key : ∀ (l : List Field) (off k : Nat) (r : List TypeId), flatGo P (flatT P n) off l = some r → fs.toList.drop k = l → ∀ (j : Nat) u, r[j]? = some u → ∃ m y, DataW.trod enc P w 0 spare held m u ((cs.drop (off + j)).take 1) = some y ∧ Wt P u y.1 t x.1 := by
        intro l
        induction l with
        | nil => intro off k r hr _ j u hj; simp [flatGo] at hr; subst hr; simp at hj
        | cons f l ih =>
          intro off k r hr hk j u hj
          simp only [flatGo] at hr
          split at hr
          · rename_i ts1 h1
            split at hr
            · rename_i hc
              obtain ⟨hoff, hcell⟩ := hc
              split at hr
              · rename_i r1 hr1
                injection hr with hr
                subst hr
                have hfk : fs[k]? = some f := by
                  have := congrArg (·[0]?) hk
                  simpa using this
                have hfx := hf k f hfk
                have hkx : k < xs.length := by rw [hxs]; exact (Array.getElem?_eq_some_iff.1 hfk).1
                rw [List.getElem?_eq_getElem hkx] at hfx
                by_cases hj1 : j < ts1.length
                · rw [List.getElem?_append_left hj1] at hj
                  obtain ⟨m', y, hy, hwt⟩ := flat_open n f.type ts1 _ _ _ h1 hfx j u hj
                  refine ⟨m', y, ?_, fun q hq => ?_⟩
                  rotate_right
                  · have h2 := hwt q hq
                    rw [hxe]
                    simp only [DataW.weights, hu]
                    refine DataW.weights_mem_each (j := k) (t := f.type) (d := xs[k].1) ?_ ?_ q h2
                    · have : fs.toList[k]? = some f := by simpa using hfk
                      rw [List.getElem?_map, this]; rfl
                    · rw [List.getElem?_map, List.getElem?_eq_getElem hkx]; rfl
                  have e : (((cs.drop f.offset).take (P.cellsOf f.type)).drop j).take 1 = (cs.drop (off + j)).take 1 := by
                    rw [hoff, hcell, List.drop_take, List.take_take, List.drop_drop]
                    congr 1
                    omega
                  rw [e] at hy
                  exact hy
                · rw [List.getElem?_append_right (by omega)] at hj
                  have hk' : fs.toList.drop (k + 1) = l := by
                    rw [← List.drop_drop, hk]; rfl
                  obtain ⟨m', y, hy, hwt⟩ := ih (off + ts1.length) (k + 1) r1 hr1 hk' (j - ts1.length) u hj
                  refine ⟨m', y, ?_, hwt⟩
                  have e : off + ts1.length + (j - ts1.length) = off + j := by omega
                  rw [e] at hy
                  exact hy
              · cases hr
            · cases hr
          · cases hr
      intro j u hj
      obtain ⟨m', y, hy, hwt⟩ := key fs.toList 0 0 ts h rfl j u hj
      rw [Nat.zero_add] at hy
      exact ⟨m', y, hy, hwt⟩
    · rename_i hu
      obtain ⟨v, hv, _⟩ := DataW.trod_int hu hx
      exact leaf _ hv h
    · rename_i hu
      obtain ⟨v, hv, _⟩ := DataW.trod_bool hu hx
      exact leaf _ hv h
    · rename_i e hu
      rcases DataW.trod_slice hu hx with ⟨hv, _⟩ | ⟨a, len, cap, _, _, _, _, hv, _⟩
      · exact leaf _ hv h
      · exact leaf _ hv h
    · cases h
theorem one_at {cs : List Value} {j : Nat} {v : Value} (h : (cs.drop j).take 1 = [v]) : cs[j]? = some v := by
  have := congrArg (·[0]?) h
  simpa using this

/-- Numbers and bools alone. -/
def ckF (P : Program) (t : TypeId) : CK → Bool
  | .i => match P.underlying t with | some (.int .i64) => true | _ => false
  | .b => match P.underlying t with | some .bool => true | _ => false
  | _ => false
def ckFs (P : Program) : List TypeId → List CK → Bool
  | [], [] => true
  | t :: ts, k :: ks => ckF P t k && ckFs P ts ks
  | _, _ => false
theorem ckFs_get : ∀ {ts : List TypeId} {ks : List CK}, ckFs P ts ks = true → ts.length = ks.length ∧ ∀ (j : Nat) t k, ts[j]? = some t → ks[j]? = some k → ckF P t k = true
  | [], [], _ => ⟨rfl, fun j t k h => by simp at h⟩
  | t :: ts, k :: ks, h => by
    simp only [ckFs, Bool.and_eq_true] at h
    obtain ⟨h1, h2⟩ := ckFs_get h.2
    refine ⟨by simp [h1], fun j t' k' ht hk => ?_⟩
    cases j with
    | zero => simp at ht hk; subst ht; subst hk; exact h.1
    | succ j => exact h2 j t' k' (by simpa using ht) (by simpa using hk)
  | [], _ :: _, h => by cases h
  | _ :: _, [], h => by cases h
def ckCV : CK → CV → Prop
  | .i, .i _ => True
  | .b, .b _ => True
  | _, _ => False
theorem all2_i {ks : List CK} {cvs : List CV} (h : All2 ckCV (.i :: ks) cvs) : ∃ n l, cvs = .i n :: l ∧ All2 ckCV ks l := by
  match cvs, h with
  | .i n :: l, h => exact ⟨n, l, rfl, h.2⟩
theorem all2_b {ks : List CK} {cvs : List CV} (h : All2 ckCV (.b :: ks) cvs) : ∃ n l, cvs = .b n :: l ∧ All2 ckCV ks l := by
  match cvs, h with
  | .b n :: l, h => exact ⟨n, l, rfl, h.2⟩
theorem all2_n {cvs : List CV} (h : All2 ckCV [] cvs) : cvs = [] := by
  match cvs, h with
  | [], _ => rfl
theorem fk_make : ∀ {k : FK} {cvs : List CV}, All2 ckCV (SK.f k).cks cvs → ∃ x : k.T, k.enc x = cvs
  | .int, cvs, h => by
    obtain ⟨x0, l0, e0, h⟩ := all2_i h
    have e := all2_n h
    subst e
    subst e0
    exact ⟨x0, rfl⟩
  | .bool, cvs, h => by
    obtain ⟨x0, l0, e0, h⟩ := all2_b h
    have e := all2_n h
    subst e
    subst e0
    exact ⟨x0, rfl⟩
  | .win, cvs, h => by
    obtain ⟨x0, l0, e0, h⟩ := all2_i h
    obtain ⟨x1, l1, e1, h⟩ := all2_i h
    have e := all2_n h
    subst e
    subst e1
    subst e0
    exact ⟨⟨x0, x1⟩, rfl⟩
  | .order, cvs, h => by
    obtain ⟨x0, l0, e0, h⟩ := all2_i h
    obtain ⟨x1, l1, e1, h⟩ := all2_i h
    obtain ⟨x2, l2, e2, h⟩ := all2_i h
    obtain ⟨x3, l3, e3, h⟩ := all2_i h
    obtain ⟨x4, l4, e4, h⟩ := all2_i h
    obtain ⟨x5, l5, e5, h⟩ := all2_i h
    obtain ⟨x6, l6, e6, h⟩ := all2_i h
    obtain ⟨x7, l7, e7, h⟩ := all2_i h
    obtain ⟨x8, l8, e8, h⟩ := all2_i h
    obtain ⟨x9, l9, e9, h⟩ := all2_i h
    have e := all2_n h
    subst e
    subst e9
    subst e8
    subst e7
    subst e6
    subst e5
    subst e4
    subst e3
    subst e2
    subst e1
    subst e0
    exact ⟨⟨x0, x1, x2, x3, x4, x5, x6, x7, x8, x9⟩, rfl⟩
  | .driver, cvs, h => by
    obtain ⟨x0, l0, e0, h⟩ := all2_i h
    obtain ⟨x1, l1, e1, h⟩ := all2_i h
    obtain ⟨x2, l2, e2, h⟩ := all2_i h
    obtain ⟨x3, l3, e3, h⟩ := all2_i h
    obtain ⟨x4, l4, e4, h⟩ := all2_i h
    obtain ⟨x5, l5, e5, h⟩ := all2_b h
    have e := all2_n h
    subst e
    subst e5
    subst e4
    subst e3
    subst e2
    subst e1
    subst e0
    exact ⟨⟨x0, x1, x2, x3, x4, x5⟩, rfl⟩
  | .stop, cvs, h => by
    obtain ⟨x0, l0, e0, h⟩ := all2_i h
    obtain ⟨x1, l1, e1, h⟩ := all2_b h
    have e := all2_n h
    subst e
    subst e1
    subst e0
    exact ⟨⟨x0, x1⟩, rfl⟩
  | .visit, cvs, h => by
    obtain ⟨x0, l0, e0, h⟩ := all2_i h
    obtain ⟨x1, l1, e1, h⟩ := all2_b h
    obtain ⟨x2, l2, e2, h⟩ := all2_i h
    obtain ⟨x3, l3, e3, h⟩ := all2_i h
    obtain ⟨x4, l4, e4, h⟩ := all2_i h
    obtain ⟨x5, l5, e5, h⟩ := all2_i h
    have e := all2_n h
    subst e
    subst e5
    subst e4
    subst e3
    subst e2
    subst e1
    subst e0
    exact ⟨⟨x0, x1, x2, x3, x4, x5⟩, rfl⟩
  | .trouble, cvs, h => by
    obtain ⟨x0, l0, e0, h⟩ := all2_i h
    obtain ⟨x1, l1, e1, h⟩ := all2_i h
    obtain ⟨x2, l2, e2, h⟩ := all2_i h
    have e := all2_n h
    subst e
    subst e2
    subst e1
    subst e0
    exact ⟨⟨x0, x1, x2⟩, rfl⟩
  | .leg, cvs, h => by
    obtain ⟨x0, l0, e0, h⟩ := all2_i h
    obtain ⟨x1, l1, e1, h⟩ := all2_i h
    obtain ⟨x2, l2, e2, h⟩ := all2_i h
    obtain ⟨x3, l3, e3, h⟩ := all2_i h
    obtain ⟨x4, l4, e4, h⟩ := all2_i h
    have e := all2_n h
    subst e
    subst e4
    subst e3
    subst e2
    subst e1
    subst e0
    exact ⟨⟨x0, x1, x2, x3, x4⟩, rfl⟩
  | .state, cvs, h => by
    obtain ⟨x0, l0, e0, h⟩ := all2_i h
    obtain ⟨x1, l1, e1, h⟩ := all2_i h
    obtain ⟨x2, l2, e2, h⟩ := all2_i h
    obtain ⟨x3, l3, e3, h⟩ := all2_i h
    have e := all2_n h
    subst e
    subst e3
    subst e2
    subst e1
    subst e0
    exact ⟨⟨x0, x1, x2, x3⟩, rfl⟩
  | .site, cvs, h => by
    obtain ⟨x0, l0, e0, h⟩ := all2_i h
    obtain ⟨x1, l1, e1, h⟩ := all2_i h
    obtain ⟨x2, l2, e2, h⟩ := all2_i h
    obtain ⟨x3, l3, e3, h⟩ := all2_i h
    have e := all2_n h
    subst e
    subst e3
    subst e2
    subst e1
    subst e0
    exact ⟨⟨x0, x1, x2, x3⟩, rfl⟩
  | .fault, cvs, h => by
    obtain ⟨x0, l0, e0, h⟩ := all2_i h
    obtain ⟨x1, l1, e1, h⟩ := all2_i h
    have e := all2_n h
    subst e
    subst e1
    subst e0
    exact ⟨⟨x0, x1⟩, rfl⟩
  | .spot, cvs, h => by
    obtain ⟨x0, l0, e0, h⟩ := all2_i h
    obtain ⟨x1, l1, e1, h⟩ := all2_i h
    obtain ⟨x2, l2, e2, h⟩ := all2_i h
    obtain ⟨x3, l3, e3, h⟩ := all2_i h
    have e := all2_n h
    subst e
    subst e3
    subst e2
    subst e1
    subst e0
    exact ⟨⟨x0, x1, x2, x3⟩, rfl⟩
theorem choose_list {α : Type} {p : Nat → α → Prop} : ∀ (n : Nat), (∀ j, j < n → ∃ y, p j y) → ∃ l : List α, l.length = n ∧ ∀ (j : Nat) y, l[j]? = some y → p j y
  | 0, _ => ⟨[], rfl, fun j y h => by simp at h⟩
  | n + 1, h => by
    obtain ⟨l, hl, hp⟩ := choose_list n fun j hj => h j (by omega)
    obtain ⟨y, hy⟩ := h n (by omega)
    refine ⟨l ++ [y], by simp [hl], fun j z hz => ?_⟩
    by_cases hj : j < l.length
    · rw [List.getElem?_append_left hj] at hz
      exact hp j z hz
    · rw [List.getElem?_append_right (by omega)] at hz
      have : j - l.length = 0 := by
        have := (List.getElem?_eq_some_iff.1 hz).1
        simp at this
        omega
      rw [this] at hz
      simp at hz
      subst hz
      have : j = n := by omega
      subst this
      exact hy
theorem lit_inR {n : Int} (h : (Lit.int .i64 n).wf = true) : InR n := by
  simp [Lit.wf, IntKind.min, IntKind.max, IntKind.bits, IntKind.signed] at h
  unfold InR
  omega
/-- An element's type has these cells. -/
def elF (P : Program) (e : TypeId) (k : FK) : Bool := match flatT P 8 e with
  | some ts => ckFs P ts (SK.f k).cks && (decide (P.cellsOf e = k.size) && decide (8 * k.size ≤ P.bytesOf e))
  | none => false
theorem cks_length (k : FK) : (SK.f k).cks.length = k.size := by cases k <;> rfl
theorem all2_len {α β : Type} {R : α → β → Prop} {l : List α} {m : List β} (hl : m.length = l.length) (h : ∀ (j : Nat) a b, l[j]? = some a → m[j]? = some b → R a b) : All2 R l m := by
  rw [all2_iff]
  refine ⟨hl, fun j a ha => ?_⟩
  have hlt := (List.getElem?_eq_some_iff.1 ha).1
  exact ⟨m[j]'(by omega), List.getElem?_eq_getElem (by omega), h j a _ ha (List.getElem?_eq_getElem (by omega))⟩
theorem el_open {e : TypeId} {k : FK} (hk : elF P e k = true) {fuel : Nat} {cs : List Value} {x : DataW H × List MemPlace} (h : DataW.trod enc P w 0 spare held fuel e cs = some x) :
    ∃ y : k.T, ∀ (j : Nat) cv, (k.enc y)[j]? = some cv → cs[j]? = some (cvv cv) ∧ flatR cv := by
  unfold elF at hk
  split at hk
  · rename_i ts hts
    simp only [Bool.and_eq_true] at hk
    obtain ⟨hlen, hget⟩ := ckFs_get hk.1
    have hopen := flat_open 8 e ts fuel cs x hts h
    obtain ⟨cvs, hl, hp⟩ := choose_list (p := fun j cv => (∀ c, (SK.f k).cks[j]? = some c → ckCV c cv) ∧ cs[j]? = some (cvv cv) ∧ flatR cv) ts.length fun j hj => by
      have htj : ts[j]? = some ts[j] := List.getElem?_eq_getElem hj
      have hkj : (SK.f k).cks[j]? = some ((SK.f k).cks[j]'(by omega)) := List.getElem?_eq_getElem (by omega)
      obtain ⟨m, y, hy, _⟩ := hopen j _ htj
      have hc := hget j _ _ htj hkj
      generalize hck : (SK.f k).cks[j]'(by omega) = ck at hc hkj
      unfold ckF at hc
      split at hc
      · split at hc
        · rename_i hu
          obtain ⟨n, hn, _, hw⟩ := DataW.trod_int hu hy
          exact ⟨.i n, fun c h => by rw [hkj] at h; injection h with h; subst h; trivial, one_at hn, lit_inR hw⟩
        · cases hc
      · split at hc
        · rename_i hu
          obtain ⟨n, hn, _⟩ := DataW.trod_bool hu hy
          exact ⟨.b n, fun c h => by rw [hkj] at h; injection h with h; subst h; trivial, one_at hn, trivial⟩
        · cases hc
      · cases hc
    obtain ⟨y, hy⟩ := fk_make (k := k) (all2_len (by omega) fun j a b ha hb => (hp j b hb).1 a ha)
    exact ⟨y, fun j cv hj => (hp j cv (by rw [← hy]; exact hj)).2⟩
  · cases hk

/-- A slice's elements, each opened. -/
theorem sl_open {α : Type} {enc' : α → List CV} {sz : Nat} {R : CV → Value → Prop} {Q : CV → Prop} (S : α → Prop) {t e : TypeId} (ht : P.underlying t = some (.slice e)) (hc : P.cellsOf e = sz) (hpos : 0 < sz)
    (hel : ∀ fuel cs (x : DataW H × List MemPlace), DataW.trod enc P w 0 spare held fuel e cs = some x → ∃ y : α, (∀ (j : Nat) cv, (enc' y)[j]? = some cv → ∃ u, cs[j]? = some u ∧ R cv u ∧ Q cv) ∧ (Light P e x.1 → S y)) (hsz : ∀ y : α, (enc' y).length = sz)
    {fuel : Nat} {cs : List Value} {x : DataW H × List MemPlace} (h : DataW.trod enc P w 0 spare held fuel t cs = some x) :
    ∃ v xs, cs = [v] ∧ ViewR R w (· < w.heap.size) enc' sz v xs ∧ (∀ y ∈ xs, ∀ cv ∈ enc' y, Q cv) ∧ ((x.1 = .nil ∧ xs = []) ∨ ∃ l r, x.1 = .slice l r ∧ l.length = xs.length) ∧ (Light P t x.1 → xs.length * P.bytesOf e ≤ reachBytes ∧ ∀ y ∈ xs, S y) := by
  rcases DataW.trod_slice ht h with ⟨rfl, rfl⟩ | ⟨a, len, cap, elems, rest, n, _, rfl, rfl, _, hl, hm, hlen, hel', _⟩
  · exact ⟨_, [], rfl, ⟨none, 0, rfl, Nat.le_refl _, Nat.zero_le _, fun h => absurd rfl h, fun a ha => by cases ha⟩, fun y hy => (by cases hy), .inl ⟨rfl, rfl⟩, fun _ => ⟨by simp, fun y hy => by cases hy⟩⟩
  · rw [hc] at hel'
    have each : ∀ i, i < len → ∃ y : α, (∀ (j : Nat) cv, (enc' y)[j]? = some cv → ∃ u, w.cell? ((a.add (i * sz)).add j) = some u ∧ R cv u ∧ Q cv) ∧ ∀ (hi : i < elems.length), Light P e (elems[i]).1 → S y := by
      intro i hi
      have h1 := hel' i hi
      rw [List.getElem?_eq_getElem (by omega : i < elems.length)] at h1
      simp only [Option.bind_eq_some_iff] at h1
      obtain ⟨cs, hcs, hx⟩ := h1
      obtain ⟨y, hy, hS⟩ := hel n cs _ hx
      obtain ⟨_, hcl, hcell⟩ := World.cells?_some hcs
      refine ⟨y, fun j cv hj => ?_, fun _ => hS⟩
      obtain ⟨u, hu, hr, hq⟩ := hy j cv hj
      have hjl : j < sz := by
        have := (List.getElem?_eq_some_iff.1 hj).1
        rw [hsz] at this
        exact this
      exact ⟨u, by rw [hcell j hjl]; exact hu, hr, hq⟩
    obtain ⟨xs, hxl, hxs⟩ := choose_list len each
    refine ⟨_, xs, rfl, ⟨some a, cap, by rw [hxl], by rw [hxl]; exact hl, hm, fun hne => ⟨a, rfl, ?_⟩, fun a' ha' i y hy j cv hj => ?_⟩, fun y hy cv hcv => ?_, .inr ⟨_, _, rfl, by simp [hlen, hxl]⟩, fun hL => ⟨?_, fun y hy => ?_⟩⟩
    · have hpos' : 0 < len := by
        rw [← hxl]; exact List.length_pos_iff.2 hne
      have h1 := hel' 0 hpos'
      rw [List.getElem?_eq_getElem (by omega : 0 < elems.length)] at h1
      simp only [Option.bind_eq_some_iff] at h1
      obtain ⟨cs, hcs, _⟩ := h1
      have := World.cells?_block hcs hpos
      rw [add_block] at this
      exact this
    · injection ha' with ha'
      subst ha'
      obtain ⟨u, hu, hr, _⟩ := (hxs i y hy).1 j cv hj
      exact ⟨u, hu, hr⟩
    · obtain ⟨i, hi⟩ := List.getElem?_of_mem hy
      obtain ⟨j, hj⟩ := List.getElem?_of_mem hcv
      obtain ⟨_, _, _, hq⟩ := (hxs i y hi).1 j cv hj
      exact hq
    · have h1 := hL _ (by simp only [DataW.weights, ht]; exact List.mem_cons_self)
      refine Nat.le_trans (Nat.mul_le_mul_right _ ?_) h1
      simp; omega
    · obtain ⟨i, hi⟩ := List.getElem?_of_mem hy
      have hil : i < elems.length := by
        have := (List.getElem?_eq_some_iff.1 hi).1
        omega
      refine (hxs i y hi).2 hil fun q hq => hL q ?_
      simp only [DataW.weights, ht]
      refine List.mem_cons_of_mem _ (List.mem_append_left _ (weightsAll_mem (d := (elems[i]).1) ?_ hq))
      exact List.mem_map.2 ⟨elems[i], List.getElem_mem hil, rfl⟩
theorem elF_bytes {e : TypeId} {k : FK} (hk : elF P e k = true) : 8 * k.size ≤ P.bytesOf e := by
  unfold elF at hk
  split at hk
  · simp only [Bool.and_eq_true, decide_eq_true_eq] at hk
    exact hk.2.2
  · cases hk
theorem flat_sl {k : FK} {t e : TypeId} (ht : P.underlying t = some (.slice e)) (hk : elF P e k = true) {fuel : Nat} {cs : List Value} {x : DataW H × List MemPlace} (h : DataW.trod enc P w 0 spare held fuel t cs = some x) :
    ∃ v xs, cs = [v] ∧ ViewR R0 w (· < w.heap.size) k.enc k.size v xs ∧ (∀ y ∈ xs, ∀ cv ∈ k.enc y, flatR cv) ∧ ((x.1 = .nil ∧ xs = []) ∨ ∃ l r, x.1 = .slice l r ∧ l.length = xs.length) ∧ (Light P t x.1 → xs.length * (8 * k.size) ≤ 140737488351232) := by
  have hc : P.cellsOf e = k.size := by
    unfold elF at hk
    split at hk
    · simp only [Bool.and_eq_true, decide_eq_true_eq] at hk
      exact hk.2.1
    · cases hk
  have hb := elF_bytes hk
  obtain ⟨v, xs, h1, h2, h3, h4, h5⟩ := sl_open (R := R0) (Q := flatR) (enc' := k.enc) (sz := k.size) (fun _ => True) ht hc (FK.size_pos k) (fun fuel cs x hx => by
    obtain ⟨y, hy⟩ := el_open hk hx
    refine ⟨y, fun j cv hj => ?_, fun _ => trivial⟩
    obtain ⟨h1, h2⟩ := hy j cv hj
    exact ⟨_, h1, (R0_flat (enc_at_flat hj)).2 rfl, h2⟩) (fun y => k.enc_length y) h
  exact ⟨v, xs, h1, h2, h3, h4, fun hL => Nat.le_trans (Nat.mul_le_mul_left _ hb) (h5 hL).1⟩
/-- An element's type, of any kind. -/
def elK (P : Program) (e : TypeId) : K → Bool
  | .f k => elF P e k
  | .rows k => (match P.underlying e with | some (.slice e') => elF P e' k | _ => false) && (decide (P.cellsOf e = 1) && decide (24 ≤ P.bytesOf e))
  | .route => (match flatT P 8 e with
    | some [t1, t2, t3] => ckF P t1 .i && ckF P t2 .i && (match P.underlying t3 with | some (.slice e') => elF P e' .stop | _ => false)
    | _ => false) && (decide (P.cellsOf e = 3) && decide (40 ≤ P.bytesOf e))
theorem ckF_i {t : TypeId} (h : ckF P t .i = true) : P.underlying t = some (.int .i64) := by
  unfold ckF at h
  simp only at h
  split at h
  · assumption
  · cases h
theorem k_open {k : K} {t e : TypeId} (ht : P.underlying t = some (.slice e)) (hk : elK P e k = true) {fuel : Nat} {cs : List Value} {x : DataW H × List MemPlace} (h : DataW.trod enc P w 0 spare held fuel t cs = some x) :
    ∃ v xs, cs = [v] ∧ View w (· < w.heap.size) k v xs ∧ k.inR xs ∧ ((x.1 = .nil ∧ xs = []) ∨ ∃ l r, x.1 = .slice l r ∧ l.length = xs.length) ∧ (Light P t x.1 → k.szd xs) := by
  cases k with
  | f k =>
    have hc : P.cellsOf e = k.size := by
      have hk : elF P e k = true := hk
      unfold elF at hk
      split at hk
      · simp only [Bool.and_eq_true, decide_eq_true_eq] at hk
        exact hk.2.1
      · cases hk
    have hb := elF_bytes (show elF P e k = true from hk)
    obtain ⟨v, xs, h1, h2, h3, h4, h5⟩ := sl_open (R := CVat w (· < w.heap.size)) (Q := cvR) (enc' := k.enc) (sz := k.size) (fun _ => True) ht hc (FK.size_pos k) (fun fuel cs x hx => by
      obtain ⟨y, hy⟩ := el_open hk hx
      refine ⟨y, fun j cv hj => ?_, fun _ => trivial⟩
      obtain ⟨h1, h2⟩ := hy j cv hj
      refine ⟨_, h1, (CVat_flat (enc_at_flat hj)).2 rfl, ?_⟩
      have := enc_at_flat hj
      cases cv with
      | i n => exact h2
      | b x => trivial
      | sl k xs => cases this) (fun y => k.enc_length y) h
    exact ⟨v, xs, h1, h2, h3, h4, fun hL => Nat.le_trans (Nat.mul_le_mul_left _ hb) (h5 hL).1⟩
  | rows k =>
    simp only [elK, Bool.and_eq_true, decide_eq_true_eq] at hk
    obtain ⟨hk, hc, hb⟩ := hk
    split at hk
    · rename_i e' hu
      obtain ⟨v, xs, h1, h2, h3, h4, h5⟩ := sl_open (R := CVat w (· < w.heap.size)) (Q := cvR) (enc' := (K.rows k).enc) (sz := 1) (fun r : List k.T => r.length * (8 * k.size) ≤ 140737488351232) ht hc (by decide) (fun fuel cs x hx => by
        obtain ⟨v, ys, g1, g2, g3, _, g5⟩ := flat_sl hu hk hx
        refine ⟨ys, fun j cv hj => ?_, g5⟩
        match j, hj with
        | 0, hj =>
          simp [K.enc] at hj
          subst hj
          exact ⟨v, by rw [g1]; rfl, g2, g3⟩
        | j + 1, hj => simp [K.enc] at hj) (fun y => rfl) h
      exact ⟨v, xs, h1, h2, h3, h4, fun hL => ⟨Nat.le_trans (Nat.mul_le_mul_left _ hb) (h5 hL).1, (h5 hL).2⟩⟩
    · cases hk
  | route =>
    simp only [elK, Bool.and_eq_true, decide_eq_true_eq] at hk
    obtain ⟨hk, hc, hb⟩ := hk
    split at hk
    · rename_i t1 t2 t3 hts
      simp only [Bool.and_eq_true] at hk
      obtain ⟨⟨k1, k2⟩, k3⟩ := hk
      split at k3
      · rename_i e' hu
        obtain ⟨v, xs, h1, h2, h3, h4, h5⟩ := sl_open (R := CVat w (· < w.heap.size)) (Q := cvR) (enc' := K.route.enc) (sz := 3) (fun r : Route => r.stops.length * 16 ≤ 140737488351232) ht hc (by decide) (fun fuel cs x hx => by
          have hopen := flat_open 8 e _ fuel cs x hts hx
          obtain ⟨m1, y1, hy1, _⟩ := hopen 0 t1 rfl
          obtain ⟨m2, y2, hy2, _⟩ := hopen 1 t2 rfl
          obtain ⟨m3, y3, hy3, hw3⟩ := hopen 2 t3 rfl
          obtain ⟨n1, e1, _, w1⟩ := DataW.trod_int (ckF_i k1) hy1
          obtain ⟨n2, e2, _, w2⟩ := DataW.trod_int (ckF_i k2) hy2
          obtain ⟨v, ys, g1, g2, g3, _, g5⟩ := flat_sl hu k3 hy3
          refine ⟨⟨n1, n2, ys⟩, fun j cv hj => ?_, fun hL => g5 (hw3.light hL)⟩
          match j, hj with
          | 0, hj =>
            simp [K.enc] at hj
            subst hj
            exact ⟨_, one_at e1, rfl, lit_inR w1⟩
          | 1, hj =>
            simp [K.enc] at hj
            subst hj
            exact ⟨_, one_at e2, rfl, lit_inR w2⟩
          | 2, hj =>
            simp [K.enc] at hj
            subst hj
            exact ⟨_, one_at g1, g2, g3⟩
          | j + 3, hj => simp [K.enc] at hj) (fun y => rfl) h
        exact ⟨v, xs, h1, h2, h3, h4, fun hL => ⟨Nat.le_trans (Nat.mul_le_mul_left _ hb) (h5 hL).1, (h5 hL).2⟩⟩
      · cases k3
    · cases hk

/-- A cell's type. -/
def ckL (P : Program) (t : TypeId) : CK → Bool
  | .i => ckF P t .i
  | .b => ckF P t .b
  | .a k => match P.underlying t with
    | some (.slice e) => elK P e k
    | _ => false
  | .fn => false
def LD (d : DataW H) : AC → Prop
  | .a k xs => (d = .nil ∧ xs = []) ∨ ∃ l r, d = .slice l r ∧ l.length = xs.length
  | _ => True
theorem leaf_open {t : TypeId} {k : CK} (hk : ckL P t k = true) {fuel : Nat} {cs : List Value} {x : DataW H × List MemPlace} (h : DataW.trod enc P w 0 spare held fuel t cs = some x) :
    ∃ v, ∃ y : k.T, cs = [v] ∧ AD w (k.enc y) v ∧ acR (k.enc y) ∧ LD x.1 (k.enc y) ∧ (Light P t x.1 → (k.enc y).szd) := by
  cases k with
  | i =>
    obtain ⟨n, e, _, hw⟩ := DataW.trod_int (ckF_i hk) h
    exact ⟨_, n, e, rfl, lit_inR hw, trivial, fun _ => trivial⟩
  | b =>
    have hk : ckF P t .b = true := hk
    unfold ckF at hk
    simp only at hk
    split at hk
    · rename_i hu
      obtain ⟨n, e, _⟩ := DataW.trod_bool hu h
      exact ⟨_, n, e, rfl, trivial, trivial, fun _ => trivial⟩
    · cases hk
  | fn => cases hk
  | a k =>
    simp only [ckL] at hk
    split at hk
    · rename_i e hu
      obtain ⟨v, xs, h1, h2, h3, h4, h5⟩ := k_open hu hk h
      exact ⟨v, xs, h1, h2, h3, h4, h5⟩
    · cases hk
def ckLs (P : Program) : List TypeId → List CK → Bool
  | [], [] => true
  | t :: ts, k :: ks => ckL P t k && ckLs P ts ks
  | _, _ => false
theorem ckLs_get : ∀ {ts : List TypeId} {ks : List CK}, ckLs P ts ks = true → ts.length = ks.length ∧ ∀ (j : Nat) t k, ts[j]? = some t → ks[j]? = some k → ckL P t k = true
  | [], [], _ => ⟨rfl, fun j t k h => by simp at h⟩
  | t :: ts, k :: ks, h => by
    simp only [ckLs, Bool.and_eq_true] at h
    obtain ⟨h1, h2⟩ := ckLs_get h.2
    refine ⟨by simp [h1], fun j t' k' ht hk => ?_⟩
    cases j with
    | zero => simp at ht hk; subst ht; subst hk; exact h.1
    | succ j => exact h2 j t' k' (by simpa using ht) (by simpa using hk)
  | [], _ :: _, h => by cases h
  | _ :: _, [], h => by cases h
def ckAC (k : CK) (c : AC) : Prop := ∃ y : k.T, c = k.enc y
theorem ac_cv : ∀ {ks : List CK} {acs : List AC}, (∀ k ∈ ks, k = .i ∨ k = .b) → All2 ckAC ks acs → ∃ cvs, All2 ckCV ks cvs ∧ encCV cvs = acs
  | [], [], _, _ => ⟨[], trivial, rfl⟩
  | k :: ks, c :: acs, hk, h => by
    obtain ⟨cvs, h1, h2⟩ := ac_cv (fun k h => hk k (by simp [h])) h.2
    obtain ⟨y, hy⟩ := h.1
    rcases hk k (by simp) with rfl | rfl
    · exact ⟨.i y :: cvs, ⟨trivial, h1⟩, by simp [encCV, h2, hy, CK.enc]⟩
    · exact ⟨.b y :: cvs, ⟨trivial, h1⟩, by simp [encCV, h2, hy, CK.enc]⟩
  | [], _ :: _, _, h => h.elim
  | _ :: _, [], _, h => h.elim
theorem sk_make {s : SK} {acs : List AC} (h : All2 ckAC s.cks acs) : ∃ x : s.T, s.enc x = acs := by
  cases s with
  | f k =>
    obtain ⟨cvs, h1, h2⟩ := ac_cv (by cases k <;> simp [SK.cks]) h
    obtain ⟨x, hx⟩ := fk_make h1
    exact ⟨x, by simp only [SK.enc]; rw [hx, h2]⟩
  | route =>
    match acs, h with
    | [a, b, c], ⟨⟨x, hx⟩, ⟨y, hy⟩, ⟨z, hz⟩, _⟩ => exact ⟨⟨x, y, z⟩, by simp [SK.enc, hx, hy, hz, CK.enc]⟩
  | world =>
    match acs, h with
    | [a, b, c, d, e], ⟨⟨x, hx⟩, ⟨y, hy⟩, ⟨z, hz⟩, ⟨u, hu⟩, ⟨v, hv⟩, _⟩ => exact ⟨⟨x, y, z, u, v⟩, by simp [SK.enc, hx, hy, hz, hu, hv, CK.enc]⟩
  | map =>
    match acs, h with
    | [a, b], ⟨⟨x, hx⟩, ⟨y, hy⟩, _⟩ => exact ⟨⟨x, y⟩, by simp [SK.enc, hx, hy, CK.enc]⟩
def skL (P : Program) (t : TypeId) (s : SK) : Bool := match flatT P 8 t, P.underlying t with
  | some ts, some (.struct _) => ckLs P ts s.cks && decide (P.cellsOf t = ts.length)
  | _, _ => false
theorem sk_open {t : TypeId} {s : SK} (hk : skL P t s = true) {fuel : Nat} {cs : List Value} {x : DataW H × List MemPlace} (h : DataW.trod enc P w 0 spare held fuel t cs = some x) :
    ∃ y : s.T, All2 (AD w) (s.enc y) cs ∧ (∀ c ∈ s.enc y, acR c) ∧ (Light P t x.1 → ∀ c ∈ s.enc y, c.szd) := by
  unfold skL at hk
  split at hk
  · rename_i ts fs hts hu
    simp only [Bool.and_eq_true, decide_eq_true_eq] at hk
    obtain ⟨hlen, hget⟩ := ckLs_get hk.1
    obtain ⟨_, _, _, _, hcl, _⟩ := DataW.trod_struct hu h
    have hopen := flat_open 8 t ts fuel cs x hts h
    obtain ⟨acs, hl, hp⟩ := choose_list (p := fun j c => (∀ k, s.cks[j]? = some k → ckAC k c) ∧ acR c ∧ (∃ v, cs[j]? = some v ∧ AD w c v) ∧ (Light P t x.1 → c.szd)) ts.length fun j hj => by
      have htj : ts[j]? = some ts[j] := List.getElem?_eq_getElem hj
      have hkj : s.cks[j]? = some (s.cks[j]'(by omega)) := List.getElem?_eq_getElem (by omega)
      obtain ⟨m, y, hy, hwt⟩ := hopen j _ htj
      have hc := hget j _ _ htj hkj
      obtain ⟨v, z, h1, h2, h3, _, h5⟩ := leaf_open hc hy
      exact ⟨_, fun k hk => by rw [hkj] at hk; injection hk with hk; subst hk; exact ⟨z, rfl⟩, h3, ⟨v, one_at h1, h2⟩, fun hL => h5 (hwt.light hL)⟩
    obtain ⟨y, hy⟩ := sk_make (s := s) (all2_len (by omega) fun j a b ha hb => (hp j b hb).1 a ha)
    refine ⟨y, ?_, fun c hc => ?_, fun hL c hc => ?_⟩
    · rw [hy]
      refine all2_len (by omega) fun j a b ha hb => ?_
      obtain ⟨_, _, ⟨v, hv, hd⟩, _⟩ := hp j a ha
      rw [hb] at hv
      injection hv with hv
      subst hv
      exact hd
    · rw [hy] at hc
      obtain ⟨j, hj⟩ := List.getElem?_of_mem hc
      exact (hp j c hj).2.1
    · rw [hy] at hc
      obtain ⟨j, hj⟩ := List.getElem?_of_mem hc
      exact (hp j c hj).2.2.2 hL
  · cases hk
/-- A parameter's type. -/
def pkL (P : Program) (t : TypeId) : PK → Bool
  | .c k => ckL P t k
  | .r s => skL P t s
  | .p _ _ => false
  | .q _ _ => false
def LDP (d : DataW H) : AV → Prop
  | .c x => LD d x
  | _ => True
theorem pk_open {t : TypeId} {p : PK} (hk : pkL P t p = true) {v : Value} {d : DataW H} {ps : List MemPlace} {base : Nat} (hv : Value.okWide P w .any base t v) (h : DataW.Trod enc P w 0 spare held t v d ps) :
    ∃ y : p.T, PD w (p.enc y) v ∧ avR (p.enc y) ∧ LDP d (p.enc y) ∧ (Light P t d → (p.enc y).szd) := by
  obtain ⟨fuel, h⟩ := h
  cases p with
  | c k =>
    have one : v.cells.toList = [v] := by
      have hk : ckL P t k = true := hk
      cases k with
      | i => obtain ⟨n, rfl⟩ := okWide_int (ckF_i hk) hv; rfl
      | b =>
        have hk : ckF P t .b = true := hk
        unfold ckF at hk
        simp only at hk
        split at hk
        · rename_i hu
          obtain ⟨n, rfl⟩ := okWide_bool hu hv; rfl
        · cases hk
      | fn => cases hk
      | a k =>
        simp only [ckL] at hk
        split at hk
        · rename_i e hu
          obtain ⟨a, l, c, rfl⟩ := okWide_slice hu hv; rfl
        · cases hk
    obtain ⟨v', y, h1, h2, h3, h4, h5⟩ := leaf_open hk h
    rw [one] at h1
    injection h1 with h1
    subst h1
    exact ⟨y, h2, h3, h4, h5⟩
  | r s =>
    have hk' : skL P t s = true := hk
    have hu : ∃ fs, P.underlying t = some (.struct fs) := by
      unfold skL at hk'
      split at hk'
      · rename_i ts fs _ hu
        exact ⟨fs, hu⟩
      · cases hk'
    obtain ⟨fs, hu⟩ := hu
    obtain ⟨cs, rfl, _⟩ := okWide_struct hu hv
    obtain ⟨y, h1, h2, h3⟩ := sk_open hk h
    exact ⟨y, ⟨cs, rfl, h1⟩, h2, trivial, h3⟩
  | p s ty => cases hk
  | q s ty => cases hk
theorem light_at {ts : List TypeId} {ds : List (DataW H)} (h : (DataW.weightsEach P ts ds).all (· ≤ reachBytes) = true) {j : Nat} {t : TypeId} {d : DataW H} (ht : ts[j]? = some t) (hd : ds[j]? = some d) : Light P t d := fun q hq => by
  have := List.all_eq_true.1 h q (DataW.weights_mem_each ht hd q hq)
  simpa using this
theorem sized_len {ts : List TypeId} {ds : List (DataW H)} (h : (DataW.weightsEach P ts ds).all (· ≤ reachBytes) = true) {j : Nat} {t e : TypeId} {d : DataW H} (ht : ts[j]? = some t) (hd : ds[j]? = some d) (hu : P.underlying t = some (.slice e)) {k : K} {xs : List k.T}
    (hl : LDP d (.c (.a k xs))) : xs.length * P.bytesOf e ≤ 140737488351232 := by
  rcases hl with ⟨_, rfl⟩ | ⟨l, r, rfl, hlen⟩
  · simp
  · have h1 := sized_slice h ht hd hu
    rw [hlen] at h1
    have : xs.length * P.bytesOf e ≤ (xs.length + r.length) * P.bytesOf e := Nat.mul_le_mul_right _ (by omega)
    exact Nat.le_trans this (Nat.le_trans h1 (by decide))
end
end Go.Eng
