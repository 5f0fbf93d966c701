/- What a drive says of stops that are cut off. -/
import Derived.Test.YtindbdefjandkaaRouteOk2
set_option linter.unusedVariables false
set_option linter.unusedSimpArgs false
namespace Go.Eng
open Go Go.Proofs
/-! ### Cut off -/
theorem wrongE_why {os : List Order} {l : List Stop} {s : Stop} : wrongE os l s = 0 ∨ wrongE os l s = 8 ∨ wrongE os l s = 16 ∨ wrongE os l s = 17 := by
  unfold wrongE
  split
  · exact .inr (.inl rfl)
  · split
    · exact .inr (.inr (.inl rfl))
    · split
      · exact .inr (.inr (.inr rfl))
      · exact .inl rfl
theorem tryStop_why {m : MapD} {d : Driver} {os : List Order} {ahead : List Stop} {s : Stop} {p : Pos} {e : Int} (h : tryStop m d os ahead s p = .error e) : e ≠ 0 ∧ e ≠ 1 ∧ e ≠ 18 := by
  have := @wrongE_why os ahead s
  rcases tryStop_err h with ⟨_, _⟩ | _ | _ <;> omega
theorem driveGo_cut {m : MapD} {d : Driver} {os : List Order} : ∀ (l ahead : List Stop) (p : Pos) (f : Fault), driveGo m d os ahead l p = .error f →
    f = ⟨((ahead.length + l.length : Nat) : Int), 18⟩ ∨ ∃ j, j < l.length ∧ f.spot = ((ahead.length + j : Nat) : Int) ∧ (f.why ≠ 0 ∧ f.why ≠ 1 ∧ f.why ≠ 18) ∧ ((∃ vs, driveGo m d os ahead (l.take j) p = .ok vs) ∨ driveGo m d os ahead (l.take j) p = .error ⟨((ahead.length + j : Nat) : Int), 18⟩) ∧ ∀ more, driveGo m d os ahead (l.take (j + 1) ++ more) p = .error f
  | [], ahead, p, f, h => by
    unfold driveGo at h
    split at h
    · injection h with h; exact .inl h.symm
    · cases h
  | s :: l, ahead, p, f, h => by
    unfold driveGo at h
    cases hv : tryStop m d os ahead s p with
    | error e =>
      rw [hv] at h
      injection h with h
      subst h
      refine .inr ⟨0, by simp, rfl, tryStop_why hv, ?_, fun more => ?_⟩
      · show (∃ vs, driveGo m d os ahead [] p = .ok vs) ∨ driveGo m d os ahead [] p = .error ⟨ahead.length, 18⟩
        unfold driveGo
        split
        · exact .inr rfl
        · exact .inl ⟨[], rfl⟩
      · show driveGo m d os ahead (s :: more) p = _
        unfold driveGo
        rw [hv]
    | ok v =>
      rw [hv] at h
      dsimp only at h
      cases hr : driveGo m d os (ahead ++ [s]) l (after os s v) with
      | ok vs => rw [hr] at h; cases h
      | error g =>
        rw [hr] at h
        injection h with h
        subst h
        have e : (ahead ++ [s]).length = ahead.length + 1 := by simp
        rcases driveGo_cut l (ahead ++ [s]) (after os s v) g hr with h | ⟨j, h1, h2, h3, h4, h5⟩
        · left
          rw [h, e]
          congr 1
          simp
          omega
        · refine .inr ⟨j + 1, by simp; omega, ?_, h3, ?_, fun more => ?_⟩
          · rw [h2, e]; omega
          · rw [e, show ahead.length + 1 + j = ahead.length + (j + 1) by omega] at h4
            show (∃ vs, driveGo m d os ahead (s :: l.take j) p = .ok vs) ∨ driveGo m d os ahead (s :: l.take j) p = _
            rcases h4 with ⟨vs, h4⟩ | h4
            · left; refine ⟨v :: vs, ?_⟩; rw [driveGo, hv]; dsimp only; rw [h4]
            · right; rw [driveGo, hv]; dsimp only; rw [h4]
          · show driveGo m d os ahead (s :: (l.take (j + 1) ++ more)) p = _
            rw [driveGo, hv]
            dsimp only
            rw [h5 more]
theorem drive_cut (m : MapD) (d : Driver) (os : List Order) (ss : List Stop) :
    good (fauR (drive (some m) d os ss)) = true ∨ fauR (drive (some m) d os ss) = ⟨0, 1⟩ ∨ fauR (drive (some m) d os ss) = ⟨ss.length, 18⟩ ∨
    ∃ (j : Nat) (e : Int), j < ss.length ∧ j < 80 ∧ fauR (drive (some m) d os ss) = ⟨j, e⟩ ∧ (e ≠ 0 ∧ e ≠ 1 ∧ e ≠ 18) ∧ (good (fauR (drive (some m) d os (ss.take j))) = true ∨ fauR (drive (some m) d os (ss.take j)) = ⟨j, 18⟩) ∧
      ∀ more, more.length ≤ 80 - j - 1 → fauR (drive (some m) d os (ss.take (j + 1) ++ more)) = ⟨j, e⟩ := by
  cases hf : fitB (some m) d os ss with
  | false => right; left; rw [drive_unfit hf]; rfl
  | true =>
    obtain ⟨f1, f2, f3⟩ := fitB_iff.1 hf
    rw [drive_fit hf]
    cases hr : driveT m d os ss with
    | ok vs => left; rfl
    | error f =>
      have hs : ∀ l : List Stop, l.length ≤ 80 → drive (some m) d os l = driveGo m d os [] l ⟨d.lo, d.home, 0⟩ := fun l hl => drive_fit (fitB_iff.2 ⟨f1, f2, hl⟩)
      rcases driveGo_cut ss [] _ f hr with h | ⟨j, h1, h2, h3, h4, h5⟩
      · right; right; left
        rw [h]
        simp [fauR]
      · right; right; right
        have ef : f = ⟨j, f.why⟩ := by
          cases f
          simp at h2
          simp [h2]
        refine ⟨j, f.why, h1, by omega, ef, h3, ?_, fun more hm => ?_⟩
        · rw [hs _ (by rw [List.length_take]; omega)]
          rcases h4 with ⟨vs, h4⟩ | h4
          · left; rw [h4]; rfl
          · right; rw [h4]; simp [fauR]
        · rw [hs _ (by rw [List.length_append, List.length_take]; omega), h5 more]
          exact ef
end Go.Eng
