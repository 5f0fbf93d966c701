/- Certificates: it is so. -/
import Derived.Test.YtkokggepghghdaaCertVc
import Derived.Test.YtkokggepghghdaaAuditOk
import Derived.Test.YtkokggepghghdaaBookOk
set_option linter.unusedVariables false
set_option linter.unusedSimpArgs false
namespace Go.Eng
open Go Go.Proofs
/-- What is still to be made. -/
theorem makeGo_step {m : MapD} {ds : List Driver} {os : List Order} {i : Nat} {r : Route} {l : List Route} {vs : List (List Visit)} {W : Except Fault (List (List Visit))} (h : W = match makeGo m ds os i (r :: l) with | .error f => .error f | .ok w => .ok (vs ++ w)) :
    (findD r.driver ds = none → W = .error ⟨i, 8⟩) ∧ (∀ d, findD r.driver ds = some d → (∀ f, drive (some m) d os r.stops = .error f → W = .error ⟨i, f.why⟩) ∧
      ∀ v, drive (some m) d os r.stops = .ok v → W = match makeGo m ds os (i + 1) l with | .error f => .error f | .ok w => .ok (vs ++ [v] ++ w)) := by
  rw [makeGo] at h
  refine ⟨fun e => by rw [e] at h; exact h, fun d e => ⟨fun f ef => by rw [e] at h; dsimp only at h; rw [ef] at h; exact h, fun v ev => ?_⟩⟩
  rw [e] at h; dsimp only at h; rw [ev] at h; dsimp only at h
  rw [h]
  cases makeGo m ds os (i + 1) l with
  | error f => rfl
  | ok w => simp
theorem well_drive {m : MapD} {ds : List Driver} {os : List Order} {p : List Route} (h : wellP (some m) ds os p = true) {r : Route} (hr : r ∈ p) {d : Driver} (hd : d ∈ ds) : drive (some m) d os r.stops = driveT m d os r.stops := by
  have hR := rightP_iff.1 (wellP_iff.1 h).2.2.2.1
  have : fitB (some m) d os r.stops = true := by
    simp [fitB, well_driver h hd, (wellP_iff.1 h).2.2.1, (okR_mem hR.2 r hr).2.2.1]
  unfold drive
  dsimp only
  rw [if_pos this]
theorem driveT_good {r : Except Fault (List Visit)} : (good (fauR r) = true → (∃ v, r = .ok v) ∨ ∃ f, r = .error f ∧ f.why = 0) ∧ (good (fauR r) = false → ∃ f, r = .error f) := by
  cases r with
  | ok v => exact ⟨fun _ => .inl ⟨v, rfl⟩, fun h => by simp [fauR, good] at h⟩
  | error f => exact ⟨fun h => .inr ⟨f, rfl, of_decide_eq_true h⟩, fun _ => ⟨f, rfl⟩⟩
theorem driveT_ok {m : MapD} {d : Driver} {os : List Order} {ss : List Stop} (h : good (fauR (driveT m d os ss)) = true) : ∃ v, driveT m d os ss = .ok v := by
  rcases driveT_good.1 h with h | ⟨f, h1, h2⟩
  · exact h
  · exact absurd h2 (driveGo_why h1)
theorem byt_rows : (K.rows FK.visit).byt = 24 := rfl
theorem cmake_ok : cmake_vc := by
  unfold cmake_vc
  simp only [bad_false, int0, nilOf, decide_eq_true_eq, decide_eq_false_iff_not, Bool.not_eq_true', Bool.not_eq_false', Bool.not_true, Bool.not_false, Bool.false_eq_true, Bool.true_eq_false, eq_self, true_and, and_true, false_or, or_false, false_implies, true_implies, implies_true, Int.not_lt, Int.not_le, gt_iff_lt, ge_iff_le, ne_eq]
  refine ⟨fun ds _ os _ p _ hmo => ⟨hmo, fun _ => ⟨⟨rfl, rfl⟩, rfl⟩, fun h => by cases h⟩, ?_⟩
  intro m hm ds hd os ho p hp hmo
  have hpl := hp.1.le
  refine ⟨hmo, fun h => by simp [makeP, h, cfauR, certR], fun hw => ?_⟩
  have hR := rightP_iff.1 (wellP_iff.1 hw).2.2.2.1
  have hM : makeP (some m) ds os p = makeGo m ds os 0 p := by simp [makeP, hw]
  rw [hM]
  refine ⟨fun vs i => 0 ≤ i ∧ i ≤ p.length ∧ vs.length ≤ i.toNat ∧ makeGo m ds os 0 p = (match makeGo m ds os i.toNat (p.drop i.toNat) with | .error f => .error f | .ok w => .ok (vs ++ w)), fun _ i => p.length - i.toNat, ⟨by omega, by omega, by simp, ?_⟩, fun vs i hi => ⟨fun h => ?_, fun h => ?_⟩⟩
  · simp only [Int.toNat_zero, List.drop_zero, List.nil_append]
    cases makeGo m ds os 0 p <;> rfl
  · obtain ⟨h0, h1, hL, hI⟩ := hi
    obtain ⟨e1, e2, e3, e4⟩ := ix rz hpl h0 h
    have hrm := getD_mem rz e3
    have h8 := hR.1
    rw [e4] at hI
    rw [e1]; dsimp only; rw [e2]
    obtain ⟨s1, s2⟩ := makeGo_step hI
    change List Route at p
    generalize p.getD i.toNat { driver := 0, served := 0, stops := [] } = r at *
    refine ⟨⟨h0, h⟩, e3, fun q => ?_, fun q => ?_⟩
    · rw [s1 (by simpa using q)]
      exact ⟨⟨by show i = ((i.toNat : Nat) : Int); omega, rfl⟩, rfl⟩
    · obtain ⟨d, hd'⟩ := Option.isSome_iff_exists.1 q
      obtain ⟨t1, t2⟩ := s2 d hd'
      have hwd := well_drive hw hrm (findD_mem hd').1
      rw [hd']
      dsimp only [Option.getD]
      rw [hwd] at t1 t2
      refine ⟨well_timed (hmo m rfl) hw hrm (findD_mem hd').1, fun g => ?_, fun g => ?_⟩
      · obtain ⟨f, hf⟩ := driveT_good.2 g
        rw [t1 f hf, hf]
        exact ⟨⟨by show i = ((i.toNat : Nat) : Int); omega, rfl⟩, rfl⟩
      · obtain ⟨v, hv⟩ := driveT_ok g
        rw [byt_rows, hv]
        refine ⟨by simp only [List.length_cons, List.length_nil]; omega, ⟨by omega, by omega, by simp only [List.length_append, List.length_cons, List.length_nil]; omega, t2 v hv⟩, by omega⟩
  · obtain ⟨h0, h1, hL, hI⟩ := hi
    rw [ixEnd h] at hI
    rw [hI]
    simp [makeGo, cfauR, certR]
theorem cmake_t : Told Try.prog 29 cmake_con := cmake_told (csOk_cons ctog_t (csOk_cons cdriver_t (csOk_cons timed_t (csOk_cons goodF_t csOk_nil)))) cmake_ok
end Go.Eng
