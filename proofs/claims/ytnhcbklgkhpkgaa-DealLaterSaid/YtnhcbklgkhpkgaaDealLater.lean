/- A driver that begins later is done no earlier. -/
import Derived.Test.YtnhcbklgkhpkgaaDealLawOk
import Derived.Test.YtnhcbklgkhpkgaaDealLaterVc
set_option linter.unusedVariables false
set_option linter.unusedSimpArgs false
namespace Go.Eng
open Go Go.Proofs
theorem dealLater_ok : dealLater_vc := by
  unfold dealLater_vc
  simp only [bad_false, int0, decide_eq_true_eq, decide_eq_false_iff_not, Bool.not_eq_true', Bool.not_eq_false', Bool.not_true, Bool.not_false, Bool.false_eq_true, Bool.true_eq_false, eq_self, true_and, and_true, false_or, or_false, false_implies, true_implies, implies_true, Int.not_lt, Int.not_le, gt_iff_lt, ge_iff_le, ne_eq]
  intro w _ o a r h hg
  refine ⟨fun h0 => ?_, fun h0 => ?_⟩
  · simp only [eq_true mapOkO_none, alone_none, orderE_none, driverE_none]
    simp
  · have hm := mapOkO_some h0
    simp only [eq_true hm]
    generalize wdriver w a = d
    have hmm := newE_ok.1 h0
    generalize (⟨w.n, w.times⟩ : MapD) = m at hmm
    have hd : driverE (some m) d = 0 → DriverOk m d := driverE_ok
    have z := @alone_zero (some m) d o
    have rg := @alone_range m hmm d o
    have k1 : d.lo < r → driverE (some m) d = 0 → (alone (some m) ⟨d.id, d.room, d.home, r, d.hi, d.retired⟩ o).2 = true → (alone (some m) d o).2 = true ∧ (alone (some m) d o).1 ≤ (alone (some m) ⟨d.id, d.room, d.home, r, d.hi, d.retired⟩ o).1 := fun h1 h2 => alone_early (by omega) h2
    have k2 : o.pf < h → orderE (some m) o = 0 → (alone (some m) d ⟨o.id, o.size, o.pp, h, o.pt, o.ps, o.dp, o.df, o.dt, o.ds⟩).2 = true → (alone (some m) d o).2 = true ∧ (alone (some m) d o).1 ≤ (alone (some m) d ⟨o.id, o.size, o.pp, h, o.pt, o.ps, o.dp, o.df, o.dt, o.ds⟩).1 := fun h1 h2 => alone_next (by omega) h2
    have w1 : ∀ x : Int, orderE (some m) o = 0 → wrap (x + o.ps) = x + o.ps → True := fun _ _ _ => trivial
    have bounds : orderE (some m) o = 0 → driverE (some m) d = 0 → wrap (d.lo + o.ps) = d.lo + o.ps ∧ wrap (d.lo + o.ps + o.ds) = d.lo + o.ps + o.ds := fun h1 h2 => by
      have p1 := (orderE_ok h1).ps
      have p2 := (orderE_ok h1).ds
      have p3 := (driverE_ok h2).win
      exact ⟨wrap_id (by omega) (by omega), wrap_id (by omega) (by omega)⟩
    clear w1 hg hm hd
    by_cases h1 : driverE (some m) d = 0
    case neg =>
      have : alone (some m) d o = (0, false) := alone_1 (.inr (.inl h1))
      simp [h1, this]
    by_cases h2 : orderE (some m) o = 0
    case neg =>
      have : alone (some m) d o = (0, false) := alone_1 (.inl h2)
      simp [h1, h2, this]
    obtain ⟨b1, b2⟩ := bounds h2 h1
    have rg' : (alone (some m) d o).2 = true → d.lo + o.ps + o.ds ≤ (alone (some m) d o).1 ∧ (alone (some m) d o).1 ≤ d.hi := rg
    have k1' : d.lo < r → (alone (some m) ⟨d.id, d.room, d.home, r, d.hi, d.retired⟩ o).2 = true → (alone (some m) d o).2 = true ∧ (alone (some m) d o).1 ≤ (alone (some m) ⟨d.id, d.room, d.home, r, d.hi, d.retired⟩ o).1 := fun x => k1 x h1
    have k2' : o.pf < h → (alone (some m) d ⟨o.id, o.size, o.pp, h, o.pt, o.ps, o.dp, o.df, o.dt, o.ds⟩).2 = true → (alone (some m) d o).2 = true ∧ (alone (some m) d o).1 ≤ (alone (some m) d ⟨o.id, o.size, o.pp, h, o.pt, o.ps, o.dp, o.df, o.dt, o.ds⟩).1 := fun x => k2 x h2
    clear k1 k2 rg bounds z
    simp only [h1, h2, b1, b2, true_implies, not_true, not_false_eq_true, false_implies, true_and, and_true]
    clear h1 h2 b1 b2
    generalize alone (some m) d o = A at *
    generalize alone (some m) ⟨d.id, d.room, d.home, r, d.hi, d.retired⟩ o = B at *
    generalize alone (some m) d ⟨o.id, o.size, o.pp, h, o.pt, o.ps, o.dp, o.df, o.dt, o.ds⟩ = C at *
    generalize d.lo = dl at *
    generalize d.hi = dh at *
    generalize o.pf = pf at *
    generalize o.pt = pt at *
    generalize o.ps = ps at *
    generalize o.ds = ds at *
    obtain ⟨A, x⟩ := A
    obtain ⟨B, y⟩ := B
    obtain ⟨C, z⟩ := C
    cases x <;> cases y <;> cases z <;> simp only [not_true_eq_false, not_false_eq_true, true_implies, false_implies, true_and, and_true, false_and, and_false, imp_false, Bool.false_eq_true, reduceCtorEq, implies_true, Int.not_lt] at rg' k1' k2' ⊢ <;> repeat' (first | apply And.intro | intro _)
    all_goals first | trivial | omega | (trace_state; omega)
theorem dealLater_t : Told Try.prog 6 dealLater_con := dealLater_told (csOk_cons maps_t (csOk_cons wDriver_t (csOk_cons alone_t (csOk_cons driver_t (csOk_cons order_t (csOk_cons dealRuns_t csOk_nil)))))) dealLater_ok
end Go.Eng
