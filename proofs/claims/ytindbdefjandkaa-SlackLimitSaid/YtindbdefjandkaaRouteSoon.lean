/- A drive waits no longer than it must. -/
import Derived.Test.YtindbdefjandkaaRouteCut
set_option linter.unusedVariables false
set_option linter.unusedSimpArgs false
namespace Go.Eng
open Go Go.Proofs
/-- What is left of an answer at the k-th stop. -/
def tailR (D : Except Fault (List Visit)) (k : Nat) : Except Fault (List Visit) := match D with
  | .ok vs => .ok (vs.drop k)
  | .error f => .error f
/-- One who stands where the drive stands, and no earlier. -/
def Behind (m : MapD) (d : Driver) (os : List Order) (ss : List Stop) (D : Except Fault (List Visit)) (at' left : Int) (k : Nat) : Prop :=
  ∃ p : Pos, p.pos = at' ∧ p.now ≤ left ∧ driveGo m d os (ss.take k) (ss.drop k) p = tailR D k
theorem begin_at {w : Win} {x : Int} (h : 0 ≤ w.lo ∧ w.lo ≤ w.hi ∧ w.hi ≤ 1000000) (hx : x ≤ w.hi) : begin_ w x = (max x w.lo, true) := by
  unfold begin_
  rw [if_pos]
  rw [Bool.and_eq_true, right_iff, decide_eq_true_eq]
  exact ⟨h, hx⟩
theorem served_by {m : MapD} {a l u : Int} {s : Site} (h : 0 ≤ s.lo ∧ s.lo ≤ s.hi ∧ s.hi ≤ 1000000) (h1 : l + tm m a s.pl ≤ s.hi) (h2 : max (l + tm m a s.pl) s.lo + s.sv ≤ u) : served m a l s u = some (max (l + tm m a s.pl) s.lo, max (l + tm m a s.pl) s.lo + s.sv) := by
  have e : begin_ s.win (l + tm m a s.pl) = (max (l + tm m a s.pl) s.lo, true) := begin_at (w := s.win) h h1
  rw [served_some (by rw [e]) (by rw [e]; exact h2), e]
theorem siteWin {m : MapD} {os : List Order} {s : Stop} (hk : knownO (some m) os = true) (h : (findO os s.order).isSome = true) : 0 ≤ (stopSite os s).lo ∧ (stopSite os s).lo ≤ (stopSite os s).hi ∧ (stopSite os s).hi ≤ 1000000 := by
  have ho := (fo_ok hk h).1
  unfold stopSite siteOf
  split
  · exact ho.dw
  · exact ho.pw
theorem tryStop_late {m : MapD} {d : Driver} {os : List Order} {ahead : List Stop} {s : Stop} {p : Pos} (h : tryStop m d os ahead s p = .error 15) : served m p.pos p.now (stopSite os s) d.hi = none := by
  unfold tryStop at h
  split at h
  · rename_i hw
    injection h with h
    have := @wrongE_why os ahead s
    omega
  · split at h
    · injection h with h; omega
    · split at h
      · assumption
      · cases h
theorem driveGo_spot {m : MapD} {d : Driver} {os : List Order} {l ahead : List Stop} {p : Pos} {f : Fault} (h : driveGo m d os ahead l p = .error f) : (ahead.length : Int) ≤ f.spot := by
  rcases driveGo_cut l ahead p f h with h | ⟨j, _, h, _⟩
  · rw [h]; dsimp only; omega
  · omega
theorem behind_step {m : MapD} {d : Driver} {os : List Order} {ss : List Stop} {D : Except Fault (List Visit)} {at' left b : Int} {k : Nat} (hk : knownO (some m) os = true) (hlt : k < ss.length)
    (hfind : (findO os (ss.getD k (FK.zero .stop)).order).isSome = true) (h : Behind m d os ss D at' left k) (hwhy : (fauR D).why = 0 ∨ (fauR D).why = 15)
    (hb1 : left + tm m at' (stopSite os (ss.getD k (FK.zero .stop))).pl ≤ b) (hb2 : (stopSite os (ss.getD k (FK.zero .stop))).lo ≤ b) (hb3 : b ≤ (stopSite os (ss.getD k (FK.zero .stop))).hi) (hb4 : b + (stopSite os (ss.getD k (FK.zero .stop))).sv ≤ d.hi) :
    Behind m d os ss D (stopSite os (ss.getD k (FK.zero .stop))).pl (b + (stopSite os (ss.getD k (FK.zero .stop))).sv) (k + 1) ∧ ((fauR D).why = 15 → (k : Int) < (fauR D).spot) ∧
      ((fauR D).why = 0 → k < (visR D).length ∧ ((visR D).getD k (FK.zero .visit)).start ≤ b) := by
  obtain ⟨p, hp, hn, hgo⟩ := h
  have e3 : ss.drop k = ss.getD k (FK.zero .stop) :: ss.drop (k + 1) := getD_drop hlt
  have et : ss.take (k + 1) = ss.take k ++ [ss.getD k (FK.zero .stop)] := by
    rw [List.take_succ_eq_append_getElem hlt, getD_of hlt]
  have lt : (ss.take k).length = k := by rw [List.length_take]; omega
  have hw := siteWin hk hfind
  rw [e3] at hgo
  generalize ss.getD k (FK.zero .stop) = s at *
  have hs : served m p.pos p.now (stopSite os s) d.hi = some (max (p.now + tm m p.pos (stopSite os s).pl) (stopSite os s).lo, max (p.now + tm m p.pos (stopSite os s).pl) (stopSite os s).lo + (stopSite os s).sv) := by
    rw [hp]
    exact served_by hw (by omega) (by omega)
  unfold driveGo at hgo
  cases hv : tryStop m d os (ss.take k) s p with
  | error e =>
    rw [hv] at hgo
    exfalso
    cases D with
    | ok vs => cases hgo
    | error f =>
      injection hgo with hgo
      have hf : f.why = e := by rw [← hgo]
      rcases hwhy with h | h
      · have h : f.why = 0 := h
        have := (tryStop_why hv).1
        omega
      · have h : f.why = 15 := h
        rw [hf] at h
        subst h
        rw [tryStop_late hv] at hs
        cases hs
  | ok v =>
    rw [hv] at hgo
    dsimp only at hgo
    have hvv : v.start = max (p.now + tm m p.pos (stopSite os s).pl) (stopSite os s).lo ∧ v.leave = max (p.now + tm m p.pos (stopSite os s).pl) (stopSite os s).lo + (stopSite os s).sv := by
      unfold tryStop at hv
      split at hv
      · cases hv
      · split at hv
        · cases hv
        · rw [hs] at hv
          injection hv with hv
          subst hv
          exact ⟨rfl, rfl⟩
    rw [hp] at hvv
    cases hr : driveGo m d os (ss.take k ++ [s]) (ss.drop (k + 1)) (after os s v) with
    | ok ys =>
      rw [hr] at hgo
      cases D with
      | error f => cases hgo
      | ok vs =>
        injection hgo with hgo
        have g1 : vs.getD k (FK.zero .visit) = v := by
          rw [List.getD_eq_getElem?_getD]
          have : (vs.drop k)[0]? = vs[k]? := by rw [List.getElem?_drop, Nat.add_zero]
          rw [← this, ← hgo]
          rfl
        have g2 : vs.drop (k + 1) = ys := by rw [← List.drop_drop, ← hgo]; rfl
        have g3 : k < vs.length := by
          have := congrArg List.length hgo
          simp at this
          omega
        refine ⟨⟨after os s v, rfl, ?_, ?_⟩, fun h => (by cases h), fun _ => ⟨g3, ?_⟩⟩
        · show v.leave ≤ _
          omega
        · rw [et, hr]
          show _ = Except.ok (vs.drop (k + 1))
          rw [g2]
        · show (vs.getD k (FK.zero .visit)).start ≤ b
          rw [g1]
          omega
    | error g =>
      rw [hr] at hgo
      cases D with
      | ok vs => cases hgo
      | error f =>
        injection hgo with hgo
        subst hgo
        have hsp := driveGo_spot hr
        rw [List.length_append, lt] at hsp
        refine ⟨⟨after os s v, rfl, ?_, ?_⟩, fun _ => ?_, fun h => ?_⟩
        · show v.leave ≤ _
          omega
        · rw [et, hr]; rfl
        · show (k : Int) < g.spot
          simp at hsp
          omega
        · have h : g.why = 0 := h
          exact absurd h (driveGo_why hr)
theorem behind_end {m : MapD} {d : Driver} {os : List Order} {ss : List Stop} {D : Except Fault (List Visit)} {at' left : Int} {k : Nat} (hk : ss.length ≤ k) (h : Behind m d os ss D at' left k) (hwhy : (fauR D).why = 0 ∨ (fauR D).why = 15) : (fauR D).why = 0 := by
  obtain ⟨p, hp, hn, hgo⟩ := h
  rw [List.drop_eq_nil_of_le hk] at hgo
  cases D with
  | ok vs => rfl
  | error f =>
    rcases hwhy with h | h
    · exact h
    · have h : f.why = 15 := h
      unfold driveGo at hgo
      split at hgo
      · injection hgo with hgo
        rw [← hgo] at h
        cases h
      · cases hgo
end Go.Eng
