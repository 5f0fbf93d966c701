/- What a drive does: how it bends to time, to what is cut off, to how the orders are listed. -/
import Derived.Test.YtindbdefjandkaaRouteOk2
set_option linter.unusedVariables false
set_option linter.unusedSimpArgs false
namespace Go.Eng
open Go Go.Proofs
/-- A site that is reached earlier is left no later. -/
theorem served_mono {m : MapD} {a l l' u u' : Int} {s s' : Site} {b' : Int × Int} (hl : l ≤ l') (hu : u' ≤ u) (hp : s.pl = s'.pl) (hlo : s.lo ≤ s'.lo) (h0 : 0 ≤ s.lo) (hhi : s.hi = s'.hi) (hsv : s.sv = s'.sv) (h : served m a l' s' u' = some b') :
    ∃ b, served m a l s u = some b ∧ b.1 ≤ b'.1 ∧ b.2 ≤ b'.2 := by
  obtain ⟨h1, h2, h3, h4, h5⟩ := served_spec h
  rw [← hp] at h2 h3
  have hb : begin_ s.win (l + tm m a s.pl) = (max (l + tm m a s.pl) s.lo, true) := by
    unfold begin_
    rw [if_pos]
    · rfl
    · rw [Bool.and_eq_true, right_iff, decide_eq_true_eq]
      refine ⟨?_, ?_⟩
      · show 0 ≤ s.lo ∧ s.lo ≤ s.hi ∧ s.hi ≤ 1000000
        omega
      · show _ ≤ s.hi
        omega
  refine ⟨_, served_some (by rw [hb]) (by rw [hb]; dsimp only; omega), ?_, ?_⟩ <;> rw [hb] <;> dsimp only <;> omega
/-- .. nothing changes where more time is let. -/
theorem served_more {m : MapD} {a l u u' : Int} {s : Site} {b : Int × Int} (hu : u ≤ u') (h : served m a l s u = some b) : served m a l s u' = some b := by
  unfold served at *
  split at h
  · rename_i hc
    rw [if_pos]
    · exact h
    · rw [Bool.and_eq_true, decide_eq_true_eq] at *
      exact ⟨hc.1, by omega⟩
  · cases h

/-! ### Later -/
def Later : List Visit → List Visit → Prop
  | [], [] => True
  | a :: l, b :: x => a.start ≤ b.start ∧ a.load = b.load ∧ Later l x
  | _, _ => False
theorem Later.refl : ∀ (l : List Visit), Later l l
  | [] => trivial
  | a :: l => ⟨Int.le_refl _, rfl, Later.refl l⟩
theorem Later.len : ∀ {l x : List Visit}, Later l x → l.length = x.length
  | [], [], _ => rfl
  | a :: l, b :: x, h => by simp [h.2.2.len]
  | [], _ :: _, h => h.elim
  | _ :: _, [], h => h.elim
theorem Later.at : ∀ {l x : List Visit}, Later l x → ∀ (i : Nat) (z : Visit), (l.getD i z).start ≤ (x.getD i z).start ∧ (l.getD i z).load = (x.getD i z).load
  | [], [], _, i, z => ⟨Int.le_refl _, rfl⟩
  | a :: l, b :: x, h, 0, z => ⟨h.1, h.2.1⟩
  | a :: l, b :: x, h, i + 1, z => by simpa using h.2.2.at i z
  | [], _ :: _, h, _, _ => h.elim
  | _ :: _, [], h, _, _ => h.elim
theorem siteLo {m : MapD} {os : List Order} {s : Stop} (hk : knownO (some m) os = true) (h : (findO os s.order).isSome = true) : 0 ≤ (stopSite os s).lo := by
  have ho := (fo_ok hk h).1
  unfold stopSite siteOf
  split
  · exact ho.dw.1
  · exact ho.pw.1
theorem tryStop_ok {m : MapD} {d : Driver} {os : List Order} {ahead : List Stop} {s : Stop} {p : Pos} {v : Visit} (h : tryStop m d os ahead s p = .ok v) :
    wrongE os ahead s = 0 ∧ loadOf os s p.load ≤ d.room ∧ ∃ b, served m p.pos p.now (stopSite os s) d.hi = some b ∧ v = ⟨s.order, s.drop, p.now + tm m p.pos (stopSite os s).pl, b.1, b.2, loadOf os s p.load⟩ := by
  unfold tryStop at h
  split at h
  · cases h
  · rename_i hw
    split at h
    · cases h
    · rename_i hr
      split at h
      · cases h
      · rename_i b hb
        injection h with h
        exact ⟨by simpa using hw, by omega, b, hb, h.symm⟩
theorem tryStop_of {m : MapD} {d : Driver} {os : List Order} {ahead : List Stop} {s : Stop} {p : Pos} {b : Int × Int} (h1 : wrongE os ahead s = 0) (h2 : loadOf os s p.load ≤ d.room) (h3 : served m p.pos p.now (stopSite os s) d.hi = some b) :
    tryStop m d os ahead s p = .ok ⟨s.order, s.drop, p.now + tm m p.pos (stopSite os s).pl, b.1, b.2, loadOf os s p.load⟩ := by
  unfold tryStop
  rw [if_neg (by simp [h1]), if_neg (by omega), h3]
theorem driveGo_mono {m : MapD} {d d' : Driver} {os : List Order} (hr : d'.room = d.room) (hh : d'.hi = d.hi) (hk : knownO (some m) os = true) : ∀ (l ahead : List Stop) (p q : Pos) (xs : List Visit), p.now ≤ q.now → q.pos = p.pos → q.load = p.load → driveGo m d' os ahead l q = .ok xs → ∃ vs, driveGo m d os ahead l p = .ok vs ∧ Later vs xs
  | [], ahead, p, q, xs, hn, hp, hl, h => by
    unfold driveGo at h ⊢
    rw [hl] at h
    split at h
    · cases h
    · rename_i hc
      injection h with h
      subst h
      exact ⟨[], if_neg hc, trivial⟩
  | s :: l, ahead, p, q, xs, hn, hp, hl, h => by
    unfold driveGo at h
    split at h
    · cases h
    · rename_i v hv
      split at h
      · cases h
      · rename_i ys hys
        injection h with h
        subst h
        obtain ⟨h1, h2, b, h3, rfl⟩ := tryStop_ok hv
        rw [hl, hr] at h2
        rw [hp, hh] at h3
        obtain ⟨a, ha, k1, k2⟩ := served_mono hn (Int.le_refl _) rfl (Int.le_refl _) (siteLo hk (wrongE_some h1)) rfl rfl h3
        have e := tryStop_of (d := d) (p := p) h1 h2 ha
        obtain ⟨vs, hvs, hlat⟩ := driveGo_mono (d := d) (d' := d') hr hh hk l (ahead ++ [s]) (after os s ⟨s.order, s.drop, p.now + tm m p.pos (stopSite os s).pl, a.1, a.2, loadOf os s p.load⟩) (after os s ⟨s.order, s.drop, q.now + tm m q.pos (stopSite os s).pl, b.1, b.2, loadOf os s q.load⟩) ys k2 rfl (by show loadOf os s q.load = loadOf os s p.load; rw [hl]) hys
        refine ⟨⟨s.order, s.drop, p.now + tm m p.pos (stopSite os s).pl, a.1, a.2, loadOf os s p.load⟩ :: vs, ?_, k1, ?_, hlat⟩
        · rw [driveGo, e]
          dsimp only
          rw [hvs]
        · show loadOf os s p.load = loadOf os s q.load
          rw [hl]
theorem drive_unwhy {m : Option MapD} {d : Driver} {os : List Order} {ss : List Stop} (h : (fauR (drive m d os ss)).why ≠ 1) : fitB m d os ss = true := by
  cases hf : fitB m d os ss with
  | true => rfl
  | false => rw [drive_unfit hf] at h; exact absurd rfl h
theorem drive_later {m : MapD} {d : Driver} {r : Int} {os : List Order} {ss : List Stop} (hr : d.lo ≤ r) (h1 : (fauR (drive (some m) d os ss)).why ≠ 1) (h : good (fauR (drive (some m) ⟨d.id, d.room, d.home, r, d.hi, d.retired⟩ os ss)) = true) :
    good (fauR (drive (some m) d os ss)) = true ∧ Later (visR (drive (some m) d os ss)) (visR (drive (some m) ⟨d.id, d.room, d.home, r, d.hi, d.retired⟩ os ss)) := by
  have hf := drive_unwhy h1
  obtain ⟨x, xs, hx, _, hd, he⟩ := drive_good h
  injection hx with hx
  subst hx
  obtain ⟨vs, hvs, hl⟩ := driveGo_mono (d := d) (d' := ⟨d.id, d.room, d.home, r, d.hi, d.retired⟩) rfl rfl (fitB_iff.1 hf).2.1 ss [] ⟨d.lo, d.home, 0⟩ ⟨r, d.home, 0⟩ xs hr rfl rfl hd
  have : drive (some m) d os ss = .ok vs := by rw [drive_fit hf]; exact hvs
  rw [this, he]
  exact ⟨rfl, hl⟩
theorem drive_bad {m : Option MapD} {d : Driver} {os : List Order} {ss : List Stop} (h : good (fauR (drive m d os ss)) = false) : visR (drive m d os ss) = [] := by
  cases hr : drive m d os ss with
  | ok vs => rw [hr] at h; cases h
  | error f => rfl
end Go.Eng
