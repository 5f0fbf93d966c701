/- What is wrong with a plan: it is so. -/
import Derived.Test.YtkokggepghghdaaAuditVc
set_option linter.unusedVariables false
set_option linter.unusedSimpArgs false
namespace Go.Eng
open Go Go.Proofs
theorem stands_iff {l : List Stop} {s : Stop} : stands l s = true ↔ s ∈ l := by
  unfold stands
  rw [List.any_eq_true]
  constructor
  · rintro ⟨x, hx, he⟩
    have : x = s := by cases x; cases s; simpa [sEq] using he
    exact this ▸ hx
  · intro h
    exact ⟨s, h, by simp [sEq]⟩
theorem whereS_iff {s : Stop} {l : List Stop} : (whereS s l < 0 ↔ stands l s = false) ∧ (0 ≤ whereS s l ↔ stands l s = true) := by
  have key : 0 ≤ whereS s l ↔ s ∈ l := by
    induction l with
    | nil => simp [whereS]
    | cons x l ih =>
      rw [whereS]
      by_cases e : x = s
      · rw [if_pos e]; simp [e]
      · rw [if_neg e]
        have e' : ¬ s = x := fun q => e q.symm
        have hb := (whereS_bound s l).1
        rw [List.mem_cons]
        by_cases h2 : whereS s l < 0
        · rw [if_pos h2]
          have : s ∉ l := fun q => by have := ih.2 q; omega
          simp [e', this]
        · rw [if_neg h2]
          have : s ∈ l := ih.1 (by omega)
          simp only [this, or_true, iff_true]
          omega
  constructor
  · rw [← Bool.not_eq_true, stands_iff, ← key]; omega
  · rw [stands_iff, ← key]
theorem aordered_ok : aordered_vc := by
  unfold aordered_vc
  simp only [bad_false, int0, nilOf, decide_eq_true_eq, decide_eq_false_iff_not, Bool.not_eq_true', Bool.not_eq_false', Bool.not_true, Bool.not_false, Bool.false_eq_true, Bool.true_eq_false, eq_self, true_and, and_true, false_or, or_false, false_implies, true_implies, implies_true, Int.not_lt, Int.not_le, gt_iff_lt, ge_iff_le, ne_eq]
  intro x hl id b
  have hl := hl.le
  refine ⟨fun i => 0 ≤ i ∧ stands (x.drop i.toNat) ⟨id, b⟩ = stands x ⟨id, b⟩, fun i => x.length - i.toNat, ⟨by omega, rfl⟩, fun i hi => ⟨fun h => ?_, fun h => ?_⟩⟩
  · obtain ⟨h0, hI⟩ := hi
    obtain ⟨e1, e2, e3, e4⟩ := ix (FK.zero .stop) hl h0 h
    rw [e4] at hI
    rw [e1]; dsimp only; rw [e2]
    generalize x.getD i.toNat (FK.zero .stop) = s at *
    simp only [stands, List.any_cons] at hI ⊢
    refine ⟨⟨h0, h⟩, e3, fun a => ⟨fun q => ?_, fun q => ⟨⟨by omega, ?_⟩, by omega⟩⟩, fun a => ⟨⟨by omega, ?_⟩, by omega⟩⟩
    · rw [← hI]; simp [sEq, a, q]
    · rw [← hI]; simp [sEq, a, q]
    · rw [← hI]; simp [sEq, a]
  · obtain ⟨h0, hI⟩ := hi
    rw [ixEnd h] at hI
    rw [← hI]; rfl
theorem aordered_t : Told Try.prog 64 aordered_con := aordered_told csOk_nil aordered_ok
theorem toldA_length {m : MapD} {d : Driver} {os : List Order} {ah : List Stop} {s : Stop} {p : Pos} : (toldA m d os ah s p).length ≤ 2 := by
  unfold toldA
  rw [List.length_append]
  have h1 : (if noPick ah s then [(⟨d.id, s.order, 17⟩ : Trouble)] else if !s.drop && decide (d.room < loadOf os s p.load) then [⟨d.id, s.order, 14⟩] else []).length ≤ 1 := by
    split
    · simp
    · split <;> simp
  have h2 : (if lateA m d os s p then [(⟨d.id, s.order, 15⟩ : Trouble)] else []).length ≤ 1 := by split <;> simp
  omega
theorem walkA_length {m : MapD} {d : Driver} {os : List Order} : ∀ (l ah : List Stop) (p : Pos), (walkA m d os ah l p).length ≤ 2 * l.length
  | [], _, _ => by simp [walkA]
  | s :: l, ah, p => by
    rw [walkA]
    split
    · have := walkA_length (m := m) (d := d) (os := os) l (ah ++ [s]) p
      simp only [List.length_cons]; omega
    · have := walkA_length (m := m) (d := d) (os := os) l (ah ++ [s]) (afterA m os ah s p)
      have := toldA_length (m := m) (d := d) (os := os) (ah := ah) (s := s) (p := p)
      simp only [List.length_cons, List.length_append]; omega
theorem lack1_length {d : Driver} {os : List Order} {s : Stop} {l : List Stop} : (lack1 d os s l).length ≤ 1 := by unfold lack1; split <;> simp
theorem lackA_length {d : Driver} {os : List Order} : ∀ (l : List Stop), (lackA d os l).length ≤ l.length
  | [] => by simp [lackA]
  | s :: l => by
    have := lackA_length (d := d) (os := os) l
    have := lack1_length (d := d) (os := os) (s := s) (l := l)
    rw [lackA]
    simp only [List.length_cons, List.length_append]; omega
theorem alongA_length {m : MapD} {d : Driver} {os : List Order} {ss : List Stop} : (alongA m d os ss).length ≤ 3 * ss.length := by
  unfold alongA
  have := walkA_length (m := m) (d := d) (os := os) ss [] ⟨d.lo, d.home, 0⟩
  have := lackA_length (d := d) (os := os) ss
  rw [List.length_append]; omega
/-- A stop's site and size, where its order is known. -/
theorem stop_known {m : MapD} {os : List Order} {s : Stop} (hk : knownO (some m) os = true) (h : (findO os s.order).isSome = true) :
    SiteOk m (stopSite os s) ∧ (0 ≤ (stopSite os s).lo ∧ (stopSite os s).lo ≤ (stopSite os s).hi ∧ (stopSite os s).hi ≤ 1000000) ∧ 1 ≤ (fo os s.order).size ∧ (fo os s.order).size ≤ 1000 := by
  have ho := (fo_ok hk h).1
  refine ⟨siteOf_ok ho s.drop, ?_, ho.size⟩
  unfold stopSite siteOf
  split
  · exact ho.dw
  · exact ho.pw
theorem take_more {α : Type} {l : List α} {i : Nat} (d : α) (h : i < l.length) : l.take (i + 1) = l.take i ++ [l.getD i d] := by
  rw [List.take_succ_eq_append_getElem h, getD_get d h]
def told1 (d : Driver) (os : List Order) (ah : List Stop) (s : Stop) (load : Int) : List Trouble := if noPick ah s then [⟨d.id, s.order, 17⟩] else if !s.drop && decide (d.room < loadOf os s load) then [⟨d.id, s.order, 14⟩] else []
theorem told1_length {d : Driver} {os : List Order} {ah : List Stop} {s : Stop} {load : Int} : (told1 d os ah s load).length ≤ 1 := by
  unfold told1
  split
  · simp
  · split <;> simp
def told2 (m : MapD) (d : Driver) (os : List Order) (s : Stop) (p : Pos) : List Trouble := if lateA m d os s p then [⟨d.id, s.order, 15⟩] else []
theorem told2_length {m : MapD} {d : Driver} {os : List Order} {s : Stop} {p : Pos} : (told2 m d os s p).length ≤ 1 := by unfold told2; split <;> simp
theorem toldA_two {m : MapD} {d : Driver} {os : List Order} {ah : List Stop} {s : Stop} {p : Pos} : toldA m d os ah s p = told1 d os ah s p.load ++ told2 m d os s p := rfl
/-- Where the walk stands. -/
structure At (m : MapD) (d : Driver) (os : List Order) (ss : List Stop) (k now at' load : Int) (out : List Trouble) : Prop where
  k0 : 0 ≤ k
  k1 : k ≤ ss.length
  pl : 0 ≤ at' ∧ at' < m.n
  tn : 0 ≤ now ∧ now ≤ 1000000 + 3000000 * k
  ld : -1000 * k ≤ load ∧ load ≤ 1000 * k
  few : out.length ≤ 2 * k.toNat
  same : out ++ walkA m d os (ss.take k.toNat) (ss.drop k.toNat) ⟨now, at', load⟩ = walkA m d os [] ss ⟨d.lo, d.home, 0⟩
theorem At.start {m : MapD} {d : Driver} {os : List Order} {ss : List Stop} (h : DriverOk m d) : At m d os ss 0 d.lo d.home 0 [] :=
  ⟨by omega, by omega, h.home, by have := h.win; omega, by omega, by simp, by simp⟩
theorem At.skip {m : MapD} {d : Driver} {os : List Order} {ss : List Stop} {k now at' load : Int} {out : List Trouble} (h : At m d os ss k now at' load out) (hk : k < ss.length) (hn : (findO os (ss.getD k.toNat (FK.zero .stop)).order).isSome = false) :
    At m d os ss (k + 1) now at' load (out ++ [⟨d.id, (ss.getD k.toNat (FK.zero .stop)).order, 8⟩]) := by
  obtain ⟨k0, k1, pl, nw, ld, few, same⟩ := h
  have e3 : k.toNat < ss.length := by omega
  have hn' : (findO os (ss.getD k.toNat (FK.zero .stop)).order).isNone = true := by simpa using hn
  rw [getD_drop (d := FK.zero .stop) e3, walkA, if_pos hn'] at same
  refine ⟨by omega, by omega, pl, by omega, by omega, by simp; omega, ?_⟩
  rw [show (k + 1).toNat = k.toNat + 1 by omega, take_more (FK.zero .stop) e3, ← same]
  simp
theorem At.step {m : MapD} {d : Driver} {os : List Order} {ss : List Stop} {k now at' load : Int} {out : List Trouble} (h : At m d os ss k now at' load out) (hm : MapOk m) (hk : k < ss.length) (hw : knownO (some m) os = true) (hn : (findO os (ss.getD k.toNat (FK.zero .stop)).order).isSome = true) :
    ∀ s, s = ss.getD k.toNat (FK.zero .stop) → At m d os ss (k + 1) (startA m os s ⟨now, at', load⟩ + (stopSite os s).sv) (stopSite os s).pl (loadA os (ss.take k.toNat) s load) (out ++ told1 d os (ss.take k.toNat) s load ++ told2 m d os s ⟨now, at', load⟩) := by
  rintro s rfl
  obtain ⟨k0, k1, pl, nw, ld, few, same⟩ := h
  have e3 : k.toNat < ss.length := by omega
  have hn' : ¬ (findO os (ss.getD k.toNat (FK.zero .stop)).order).isNone = true := by simpa [Option.isSome_iff_ne_none] using hn
  rw [getD_drop (d := FK.zero .stop) e3, walkA, if_neg hn', toldA_two] at same
  have hT := take_more (l := ss) (FK.zero .stop) e3
  generalize ss.getD k.toNat (FK.zero .stop) = s at *
  obtain ⟨hs, hwin, hz⟩ := stop_known hw hn
  have ht := tm_bound hm at' (stopSite os s).pl
  have l1 := told1_length (d := d) (os := os) (ah := ss.take k.toNat) (s := s) (load := load)
  have l2 := told2_length (m := m) (d := d) (os := os) (s := s) (p := ⟨now, at', load⟩)
  have hsv := hs.sv
  have hst : startA m os s ⟨now, at', load⟩ = max (now + tm m at' (stopSite os s).pl) (stopSite os s).lo := rfl
  refine ⟨by omega, by omega, hs.pl, by rw [hst]; omega, ?_, by simp only [List.length_append]; omega, ?_⟩
  · unfold loadA loadOf
    split
    · omega
    · split <;> omega
  · rw [show (k + 1).toNat = k.toNat + 1 by omega, hT, ← same]
    simp [afterA]
/-- What is wrong behind. -/
structure Beh (d : Driver) (os : List Order) (ss : List Stop) (W : List Trouble) (k : Int) (out : List Trouble) : Prop where
  k0 : 0 ≤ k
  k1 : k ≤ ss.length
  few : out.length ≤ 160 + k.toNat
  same : out ++ lackA d os (ss.drop k.toNat) = W ++ lackA d os ss
theorem Beh.step {d : Driver} {os : List Order} {ss : List Stop} {W out : List Trouble} {k : Int} (h : Beh d os ss W k out) (hk : k < ss.length) : ∀ s, s = ss.getD k.toNat (FK.zero .stop) → Beh d os ss W (k + 1) (out ++ lack1 d os s (ss.drop (k.toNat + 1))) := by
  rintro s rfl
  obtain ⟨k0, k1, few, same⟩ := h
  have e3 : k.toNat < ss.length := by omega
  rw [getD_drop (d := FK.zero .stop) e3, lackA] at same
  have l1 := lack1_length (d := d) (os := os) (s := ss.getD k.toNat (FK.zero .stop)) (l := ss.drop (k.toNat + 1))
  refine ⟨by omega, by omega, by simp only [List.length_append]; omega, ?_⟩
  rw [show (k + 1).toNat = k.toNat + 1 by omega, ← same]
  simp
theorem lack_none {d : Driver} {os : List Order} {s : Stop} {l : List Stop} (h : (findO os s.order).isSome = false ∨ s.drop = true ∨ stands l ⟨s.order, true⟩ = true) : lack1 d os s l = [] := by
  unfold lack1
  rcases h with h | h | h <;> simp [h]
theorem lack_one {d : Driver} {os : List Order} {s : Stop} {l : List Stop} (h1 : (findO os s.order).isSome = true) (h2 : s.drop = false) (h3 : stands l ⟨s.order, true⟩ = false) : lack1 d os s l = [⟨d.id, s.order, 18⟩] := by
  unfold lack1
  simp [h1, h2, h3]
theorem stands_self {s : Stop} {l : List Stop} (h : s.drop = false) : stands (s :: l) ⟨s.order, true⟩ = stands l ⟨s.order, true⟩ := by
  simp [stands, sEq, h]
theorem along_ok : along_vc := by
  unfold along_vc
  simp only [bad_false, int0, nilOf, decide_eq_true_eq, decide_eq_false_iff_not, Bool.not_eq_true', Bool.not_eq_false', Bool.not_true, Bool.not_false, Bool.false_eq_true, Bool.true_eq_false, eq_self, true_and, and_true, false_or, or_false, false_implies, true_implies, implies_true, Int.not_lt, Int.not_le, gt_iff_lt, ge_iff_le, ne_eq]
  intro m hm d os hos ss hss hT
  have hss := hss.le
  have hmap := hT.map
  have h80 := hT.few
  refine ⟨At m d os ss, fun k _ _ _ _ => ss.length - k.toNat, At.start hT.driver, fun k now at' load out hi => ⟨fun h => ?_, fun h => ?_⟩⟩
  · have k0 := hi.k0
    obtain ⟨e1, e2, e3, e4⟩ := ix (FK.zero .stop) hss k0 h
    have hskip := hi.skip h
    have hstep := hi.step hmap h hT.known
    have few := hi.few
    have hp : part ss (Int.toNat 0) (k.toNat - Int.toNat 0) = ss.take k.toNat := by simp [part]
    rw [e1, hp]; dsimp only; rw [e2]
    generalize hs : ss.getD k.toNat (FK.zero .stop) = s at *
    refine ⟨⟨k0, h⟩, e3, fun q => ⟨by simp; omega, hskip q, by omega⟩, fun q => ?_⟩
    have hstep := hstep q s rfl
    obtain ⟨hst, hwin, hz⟩ := stop_known hT.known q
    have hl := hi.ld
    have hnow := hi.tn
    have w1 : wrap (load - (fo os s.order).size) = load - (fo os s.order).size := wrap_id (by omega) (by omega)
    have w2 : wrap (load + (fo os s.order).size) = load + (fo os s.order).size := wrap_id (by omega) (by omega)
    have hsite : siteOf (fo os s.order) s.drop = stopSite os s := rfl
    have hmt := mtime_in hi.pl.1 hi.pl.2 hst.pl.1 hst.pl.2
    have ht := tm_bound hmap at' (stopSite os s).pl
    rw [w1, w2, hsite, hmt]
    dsimp only
    have w3 : wrap (now + tm m at' (stopSite os s).pl) = now + tm m at' (stopSite os s).pl := wrap_id (by omega) (by omega)
    have hsv := hst.sv
    have w4 : wrap (max (now + tm m at' (stopSite os s).pl) (stopSite os s).lo + (stopSite os s).sv) = max (now + tm m at' (stopSite os s).pl) (stopSite os s).lo + (stopSite os s).sv := wrap_id (by omega) (by omega)
    rw [w3, w4]
    have hA : startA m os s ⟨now, at', load⟩ = max (now + tm m at' (stopSite os s).pl) (stopSite os s).lo := rfl
    have hL : lateA m d os s ⟨now, at', load⟩ = (decide ((stopSite os s).hi < max (now + tm m at' (stopSite os s).pl) (stopSite os s).lo) || decide (d.hi < max (now + tm m at' (stopSite os s).pl) (stopSite os s).lo + (stopSite os s).sv)) := rfl
    rw [hA] at hstep
    generalize max (now + tm m at' (stopSite os s).pl) (stopSite os s).lo = M at *
    have l1 := told1_length (d := d) (os := os) (ah := ss.take k.toNat) (s := s) (load := load)
    have pick : s.drop = false → (d.room < load + (fo os s.order).size → (out.length + [(⟨d.id, s.order, 14⟩ : Trouble)].length) * (8 * 3) ≤ 140737488355328 ∧ (load + (fo os s.order).size = loadA os (ss.take k.toNat) s load ∧ out ++ [⟨d.id, s.order, 14⟩] = out ++ told1 d os (ss.take k.toNat) s load)) ∧
        (load + (fo os s.order).size ≤ d.room → (load + (fo os s.order).size = loadA os (ss.take k.toNat) s load ∧ out = out ++ told1 d os (ss.take k.toNat) s load)) := by
      intro hd
      refine ⟨fun hr => ⟨by simp; omega, ?_, ?_⟩, fun hr => ⟨?_, ?_⟩⟩
      · simp [loadA, noPick, loadOf, hd]
      · simp [told1, noPick, loadOf, hd, hr]
      · simp [loadA, noPick, loadOf, hd]
      · have : ¬ d.room < load + (fo os s.order).size := by omega
        simp [told1, noPick, loadOf, hd, this]
    refine ⟨⟨by omega, by omega, by omega⟩, fun ld o => ld = loadA os (ss.take k.toNat) s load ∧ o = out ++ told1 d os (ss.take k.toNat) s load, ⟨fun hd => ⟨by simp; omega, fun hq => ⟨by simp; omega, ?_, ?_⟩, fun hq => ⟨fun _ => ⟨?_, ?_⟩, fun hd' => pick hd'⟩⟩, fun hd => ⟨fun hd' => absurd (hd.symm.trans hd') (by decide), pick⟩⟩, ?_⟩
    · simp [loadA, noPick, hd, hq]
    · simp [told1, noPick, hd, hq]
    · simp [loadA, noPick, loadOf, hd, hq]
    · simp [told1, noPick, loadOf, hd, hq]
    · rintro ld o ⟨rfl, rfl⟩
      have hlen : (out ++ told1 d os (ss.take k.toNat) s load).length ≤ 200 := by simp only [List.length_append]; omega
      refine ⟨fun x hx => by cases hx; exact hmap, fun o => o = out ++ told1 d os (ss.take k.toNat) s load ++ told2 m d os s ⟨now, at', load⟩, ⟨fun a => ⟨fun b => ⟨by simp only [List.length_cons, List.length_nil]; omega, ?_⟩, fun b => ?_⟩, fun a => ⟨by simp only [List.length_cons, List.length_nil]; omega, ?_⟩⟩, ?_⟩
      · simp [told2, hL, b]
      · have h1 : ¬ (stopSite os s).hi < M := by omega
        have h2 : ¬ d.hi < M + (stopSite os s).sv := by omega
        simp [told2, hL, h1, h2]
      · simp [told2, hL, a]
      · rintro o rfl
        exact ⟨hstep, by omega⟩
  · have k0 := hi.k0
    have k1 := hi.k1
    have few := hi.few
    have same := hi.same
    rw [ixEnd h] at same
    simp only [walkA, List.append_nil] at same
    refine ⟨Beh d os ss out, fun k _ => ss.length - k.toNat, ⟨by omega, by omega, by omega, by simp⟩, fun j o hj => ⟨fun g => ?_, fun g => ?_⟩⟩
    · have j0 := hj.k0
      obtain ⟨e1, e2, e3, e4⟩ := ix (FK.zero .stop) hss j0 g
      have hstep := hj.step g
      have jf := hj.few
      have hp : part ss j.toNat ((ss.length : Int).toNat - j.toNat) = ss.drop j.toNat := by
        unfold part
        rw [List.take_of_length_le]
        rw [List.length_drop]; omega
      rw [e1, hp, e4]; dsimp only; rw [e2]
      generalize hs : ss.getD j.toNat (FK.zero .stop) = s at *
      have hstep := hstep s rfl
      refine ⟨⟨j0, g⟩, e3, fun a => ⟨fun b => ⟨⟨by omega, by omega, by omega⟩, by simp; omega, fun c => ⟨by simp; omega, ?_, by omega⟩, fun c => ⟨?_, by omega⟩⟩, fun b => ⟨?_, by omega⟩⟩, fun a => ⟨?_, by omega⟩⟩
      · rw [stands_self b] at c
        rwa [lack_one a b c] at hstep
      · rw [stands_self b] at c
        rwa [lack_none (.inr (.inr c)), List.append_nil] at hstep
      · rwa [lack_none (.inr (.inl b)), List.append_nil] at hstep
      · rwa [lack_none (.inl a), List.append_nil] at hstep
    · have := hj.same
      rw [ixEnd g] at this
      simp only [lackA, List.append_nil] at this
      rw [this, same]; rfl
theorem along_in_ok : InlsOk Try.prog along_in := inlsOk_cons Try.func62 (by kernel_rfl) (inlsOk_cons Try.func63 (by kernel_rfl) inlsOk_nil)
theorem along_t : Told Try.prog 41 along_con := along_told (csOk_cons find_t (csOk_cons aordered_t (csOk_cons site_t (csOk_cons time_t csOk_nil)))) along_in_ok along_ok
theorem rAlong_ok : rAlong_vc := by
  unfold rAlong_vc
  simp only [bad_false, int0, nilOf, decide_eq_true_eq, decide_eq_false_iff_not, Bool.not_eq_true', Bool.not_eq_false', Bool.not_true, Bool.not_false, Bool.false_eq_true, Bool.true_eq_false, eq_self, true_and, and_true, false_or, or_false, false_implies, true_implies, implies_true, Int.not_lt, Int.not_le, gt_iff_lt, ge_iff_le, ne_eq]
  intro m hm d os hos ss hss hT
  have hss := hss.le
  have hmap := hT.map
  have h80 := hT.few
  refine ⟨fun out at' now load k => At m d os ss k now at' load out, fun _ _ _ _ k => ss.length - k.toNat, At.start hT.driver, fun out at' now load k hi => ⟨fun h => ?_, fun h => ?_⟩⟩
  · have k0 := hi.k0
    obtain ⟨e1, e2, e3, e4⟩ := ix (FK.zero .stop) hss k0 h
    have hskip := hi.skip h
    have hstep := hi.step hmap h hT.known
    have few := hi.few
    have hp : part ss (Int.toNat 0) (k.toNat - Int.toNat 0) = ss.take k.toNat := by simp [part]
    rw [e1, hp]; dsimp only; rw [e2]
    generalize hs : ss.getD k.toNat (FK.zero .stop) = s at *
    refine ⟨⟨k0, h⟩, e3, fun q => ⟨by simp; omega, hskip (by rw [ixO_neg q]; rfl), by omega⟩, fun q => ?_⟩
    obtain ⟨q1, q2, q3⟩ := ixO_pos q
    have q4 : (ixO os s.order 0).toNat < os.length := by omega
    have hstep := hstep q1 s rfl
    obtain ⟨hst, hwin, hz⟩ := stop_known hT.known q1
    have hl := hi.ld
    have hnow := hi.tn
    rw [q3]
    have w1 : wrap (load - (fo os s.order).size) = load - (fo os s.order).size := wrap_id (by omega) (by omega)
    have w2 : wrap (load + (fo os s.order).size) = load + (fo os s.order).size := wrap_id (by omega) (by omega)
    have hsite : siteOf (fo os s.order) s.drop = stopSite os s := rfl
    have hmt := mtime_in hi.pl.1 hi.pl.2 hst.pl.1 hst.pl.2
    have ht := tm_bound hmap at' (stopSite os s).pl
    rw [w1, w2, hsite, hmt]
    dsimp only
    have w3 : wrap (now + tm m at' (stopSite os s).pl) = now + tm m at' (stopSite os s).pl := wrap_id (by omega) (by omega)
    have hsv := hst.sv
    rw [w3]
    have hA : startA m os s ⟨now, at', load⟩ = max (now + tm m at' (stopSite os s).pl) (stopSite os s).lo := rfl
    have hL : lateA m d os s ⟨now, at', load⟩ = (decide ((stopSite os s).hi < max (now + tm m at' (stopSite os s).pl) (stopSite os s).lo) || decide (d.hi < max (now + tm m at' (stopSite os s).pl) (stopSite os s).lo + (stopSite os s).sv)) := rfl
    rw [hA] at hstep
    have hM1 : now + tm m at' (stopSite os s).pl < (stopSite os s).lo → (stopSite os s).lo = max (now + tm m at' (stopSite os s).pl) (stopSite os s).lo := by omega
    have hM2 : (stopSite os s).lo ≤ now + tm m at' (stopSite os s).pl → now + tm m at' (stopSite os s).pl = max (now + tm m at' (stopSite os s).pl) (stopSite os s).lo := by omega
    have hMb : max (now + tm m at' (stopSite os s).pl) (stopSite os s).lo ≤ 1000000000 ∧ 0 ≤ max (now + tm m at' (stopSite os s).pl) (stopSite os s).lo := by omega
    generalize max (now + tm m at' (stopSite os s).pl) (stopSite os s).lo = M at *
    have w4 : wrap (M + (stopSite os s).sv) = M + (stopSite os s).sv := wrap_id (by omega) (by omega)
    have l1 := told1_length (d := d) (os := os) (ah := ss.take k.toNat) (s := s) (load := load)
    have pick : s.drop = false → (0 ≤ ixO os s.order 0 ∧ ixO os s.order 0 < (os.length : Int)) ∧ (ixO os s.order 0).toNat < os.length ∧ (d.room < load + (fo os s.order).size → (out.length + [(⟨d.id, s.order, 14⟩ : Trouble)].length) * (8 * 3) ≤ 140737488355328 ∧ (out ++ [⟨d.id, s.order, 14⟩] = out ++ told1 d os (ss.take k.toNat) s load ∧ load + (fo os s.order).size = loadA os (ss.take k.toNat) s load)) ∧
        (load + (fo os s.order).size ≤ d.room → (out = out ++ told1 d os (ss.take k.toNat) s load ∧ load + (fo os s.order).size = loadA os (ss.take k.toNat) s load)) := by
      intro hd
      refine ⟨⟨q, q2⟩, q4, fun hr => ⟨by simp; omega, ?_, ?_⟩, fun hr => ⟨?_, ?_⟩⟩
      · simp [told1, noPick, loadOf, hd, hr]
      · simp [loadA, noPick, loadOf, hd]
      · have : ¬ d.room < load + (fo os s.order).size := by omega
        simp [told1, noPick, loadOf, hd, this]
      · simp [loadA, noPick, loadOf, hd]
    refine ⟨fun o ld => o = out ++ told1 d os (ss.take k.toNat) s load ∧ ld = loadA os (ss.take k.toNat) s load, ⟨fun hd => ⟨⟨by omega, by omega, by omega⟩, by simp; omega, fun hq => ⟨by simp; omega, ?_, ?_⟩, fun hq => ⟨fun _ => ⟨⟨q, q2⟩, q4, ?_, ?_⟩, fun hd' => pick hd'⟩⟩, fun hd => ⟨fun hd' => absurd (hd.symm.trans hd') (by decide), pick⟩⟩, ?_⟩
    · simp [told1, noPick, hd, whereS_iff.1.1 hq]
    · simp [loadA, noPick, hd, whereS_iff.1.1 hq]
    · simp [told1, noPick, loadOf, hd, whereS_iff.2.1 hq]
    · simp [loadA, noPick, loadOf, hd, whereS_iff.2.1 hq]
    · rintro o ld ⟨rfl, rfl⟩
      have hlen : (out ++ told1 d os (ss.take k.toNat) s load).length ≤ 200 := by simp only [List.length_append]; omega
      refine ⟨⟨q, q2⟩, q4, hmap, fun b => b = M, ⟨fun a => hM1 a, fun a => hM2 a⟩, ?_⟩
      intro b hb
      rw [hb, w4]
      refine ⟨fun o => o = out ++ told1 d os (ss.take k.toNat) s load ++ told2 m d os s ⟨now, at', load⟩, ⟨fun a => ⟨fun b => ⟨by simp only [List.length_cons, List.length_nil]; omega, ?_⟩, fun b => ?_⟩, fun a => ⟨by simp only [List.length_cons, List.length_nil]; omega, ?_⟩⟩, ?_⟩
      · simp [told2, hL, b]
      · have h1 : ¬ (stopSite os s).hi < M := by omega
        have h2 : ¬ d.hi < M + (stopSite os s).sv := by omega
        simp [told2, hL, h1, h2]
      · simp [told2, hL, a]
      · rintro o rfl
        exact ⟨hstep, by omega⟩
  · have k0 := hi.k0
    have k1 := hi.k1
    have few := hi.few
    have same := hi.same
    rw [ixEnd h] at same
    simp only [walkA, List.append_nil] at same
    refine ⟨fun o k => Beh d os ss out k o, fun _ k => ss.length - k.toNat, ⟨by omega, by omega, by omega, by simp⟩, fun o j hj => ⟨fun g => ?_, fun g => ?_⟩⟩
    · have j0 := hj.k0
      obtain ⟨e1, e2, e3, e4⟩ := ix (FK.zero .stop) hss j0 g
      have hstep := hj.step g
      have jf := hj.few
      rw [e1]; dsimp only; rw [e2]
      have hp : part ss (j.toNat + 1) ((ss.length : Int).toNat - (j.toNat + 1)) = ss.drop (j.toNat + 1) := by
        unfold part
        rw [List.take_of_length_le]
        rw [List.length_drop]; omega
      rw [hp]
      generalize hs : ss.getD j.toNat (FK.zero .stop) = s at *
      have hstep := hstep s rfl
      refine ⟨⟨j0, g⟩, e3, fun b => ⟨fun a => ⟨⟨by omega, by omega, by omega⟩, by simp; omega, fun c => ⟨by simp; omega, ?_, by omega⟩, fun c => ⟨?_, by omega⟩⟩, fun a => ⟨?_, by omega⟩⟩, fun b => ⟨?_, by omega⟩⟩
      · rwa [lack_one (ixO_pos a).1 b (whereS_iff.1.1 c)] at hstep
      · rwa [lack_none (.inr (.inr (whereS_iff.2.1 c))), List.append_nil] at hstep
      · rwa [lack_none (.inl (by rw [ixO_neg a]; rfl)), List.append_nil] at hstep
      · rwa [lack_none (.inr (.inl b)), List.append_nil] at hstep
    · have := hj.same
      rw [ixEnd g] at this
      simp only [lackA, List.append_nil] at this
      rw [this, same]; rfl
theorem rAlong_t : Told Try.prog 46 rAlong_con := rAlong_told (csOk_cons rFind_t (csOk_cons rWhere_t (csOk_cons rSite_t (csOk_cons rTime_t csOk_nil)))) rAlong_ok
theorem findD_mem {id : Int} {l : List Driver} {d : Driver} (h : findD id l = some d) : d ∈ l ∧ d.id = id := by
  induction l with
  | nil => cases h
  | cons a l ih =>
    rw [findD] at h
    split at h
    · cases h; simp [*]
    · exact ⟨List.mem_cons_of_mem _ (ih h).1, (ih h).2⟩
theorem well_driver {m : MapD} {ds : List Driver} {os : List Order} {p : List Route} (h : wellP (some m) ds os p = true) {d : Driver} (hd : d ∈ ds) : driverE (some m) d = 0 := by
  obtain ⟨k, hk, rfl⟩ := List.getElem_of_mem hd
  have := (okD_iff.1 ((wellP_iff.1 h).2.2.2.2 k hk)).1
  rwa [getD_get _ hk] at this
theorem well_timed {m : MapD} {ds : List Driver} {os : List Order} {p : List Route} (hm : MapOk m) (h : wellP (some m) ds os p = true) {r : Route} (hr : r ∈ p) {d : Driver} (hd : d ∈ ds) : TimedPre m d os r.stops :=
  ⟨hm, driverE_ok (well_driver h hd), (wellP_iff.1 h).2.2.1, (okR_mem (rightP_iff.1 (wellP_iff.1 h).2.2.2.1).2 r hr).2.2.1⟩
theorem flatMap_drop {α β : Type} {f : α → List β} {l : List α} {i : Nat} (d : α) (h : i < l.length) : (l.drop i).flatMap f = f (l.getD i d) ++ (l.drop (i + 1)).flatMap f := by
  rw [getD_drop h, List.flatMap_cons]
theorem audit_ok : audit_vc := by
  unfold audit_vc
  simp only [bad_false, int0, nilOf, decide_eq_true_eq, decide_eq_false_iff_not, Bool.not_eq_true', Bool.not_eq_false', Bool.not_true, Bool.not_false, Bool.false_eq_true, Bool.true_eq_false, eq_self, true_and, and_true, false_or, or_false, false_implies, true_implies, implies_true, Int.not_lt, Int.not_le, gt_iff_lt, ge_iff_le, ne_eq]
  refine ⟨fun ds _ os _ p _ hmo => ⟨hmo, fun _ => rfl, fun h => by cases h⟩, ?_⟩
  intro m hm ds hd os ho p hp hmo
  have ho := ho.le
  have hpl := hp.1.le
  refine ⟨hmo, fun h => by simp [auditA, h], fun hw => ?_⟩
  obtain ⟨_, w1, w2, w3, w4⟩ := wellP_iff.1 hw
  have hR := rightP_iff.1 w3
  have hos : os.length ≤ 40 := (known_at w2).1
  have hA : auditA (some m) ds os p = p.flatMap (routeA m ds os) ++ missA p os := by simp [auditA, hw]
  refine ⟨fun l i => 0 ≤ i ∧ i ≤ p.length ∧ l.length ≤ 240 * i.toNat ∧ l ++ (p.drop i.toNat).flatMap (routeA m ds os) = p.flatMap (routeA m ds os), fun _ i => p.length - i.toNat, ⟨by omega, by omega, by simp, by simp⟩, fun l i hi => ⟨fun h => ?_, fun h => ?_⟩⟩
  · obtain ⟨h0, h1, hL, hI⟩ := hi
    obtain ⟨e1, e2, e3, e4⟩ := ix rz hpl h0 h
    have hrm := getD_mem rz e3
    have hr := okR_mem hR.2 _ hrm
    have h8 := hR.1
    rw [flatMap_drop rz e3] at hI
    rw [e1]; dsimp only; rw [e2]
    change List Route at p
    generalize p.getD i.toNat { driver := 0, served := 0, stops := [] } = r at *
    refine ⟨⟨h0, h⟩, e3, fun q => ?_, fun q => ?_⟩
    · have hn : findD r.driver ds = none := by simpa using q
      have hx : routeA m ds os r = [⟨r.driver, 0, 8⟩] := by simp [routeA, hn]
      rw [hx] at hI
      refine ⟨by simp; omega, ⟨by omega, by omega, by simp; omega, by rw [← hI]; simp⟩, by omega⟩
    · obtain ⟨d, hd'⟩ := Option.isSome_iff_exists.1 q
      have hx : routeA m ds os r = alongA m d os r.stops := by simp [routeA, hd']
      have hlen := alongA_length (m := m) (d := d) (os := os) (ss := r.stops)
      rw [hx] at hI
      rw [hd']
      dsimp only [Option.getD]
      refine ⟨well_timed (hmo m rfl) hw hrm (findD_mem hd').1, by omega, ⟨by omega, by omega, by simp; omega, by rw [← hI]; simp⟩, by omega⟩
  · obtain ⟨h0, h1, hL, hI⟩ := hi
    rw [ixEnd h] at hI
    have h8 := hR.1
    refine ⟨fun l' j => 0 ≤ j ∧ j ≤ os.length ∧ l'.length ≤ 1920 + j.toNat ∧ l' ++ missA p (os.drop j.toNat) = auditA (some m) ds os p, fun _ j => os.length - j.toNat, ⟨by omega, by omega, by simp; omega, by rw [hA]; simpa using hI⟩, fun l' j hj => ⟨fun g => ?_, fun g => ?_⟩⟩
    · obtain ⟨j0, j1, jL, jI⟩ := hj
      obtain ⟨e1, e2, e3, e4⟩ := ix (FK.zero .order) ho j0 g
      unfold missA at jI
      rw [flatMap_drop (FK.zero .order) e3] at jI
      rw [e1]; dsimp only; rw [e2]
      generalize os.getD j.toNat (FK.zero .order) = o at *
      refine ⟨⟨j0, g⟩, e3, fun q => ?_, fun q => ?_⟩
      · have hn : (findP o.id p).isNone = true := by simpa using q
        rw [hn] at jI
        refine ⟨by simp; omega, ⟨by omega, by omega, by simp; omega, by rw [← jI]; simp [missA]⟩, by omega⟩
      · have hn : (findP o.id p).isNone = false := by simpa [Option.isSome_iff_ne_none] using q
        rw [hn] at jI
        exact ⟨⟨by omega, by omega, by omega, by rw [← jI]; simp [missA]⟩, by omega⟩
    · obtain ⟨j0, j1, jL, jI⟩ := hj
      rw [ixEnd g] at jI
      simpa [missA] using jI
theorem audit_t : Told Try.prog 16 audit_con := audit_told (csOk_cons ctog_t (csOk_cons cdriver_t (csOk_cons along_t (csOk_cons pfind_t csOk_nil)))) audit_ok
theorem rAudit_ok : rAudit_vc := by
  unfold rAudit_vc
  simp only [bad_false, int0, nilOf, decide_eq_true_eq, decide_eq_false_iff_not, Bool.not_eq_true', Bool.not_eq_false', Bool.not_true, Bool.not_false, Bool.false_eq_true, Bool.true_eq_false, eq_self, true_and, and_true, false_or, or_false, false_implies, true_implies, implies_true, Int.not_lt, Int.not_le, gt_iff_lt, ge_iff_le, ne_eq]
  refine ⟨fun ds _ os _ p _ hmo => ⟨hmo, fun _ => rfl, fun h => by cases h⟩, ?_⟩
  intro m hm ds hd os ho p hp hmo
  have ho := ho.le
  have hpl := hp.1.le
  refine ⟨hmo, fun h => by simp [auditA, h], fun hw => ?_⟩
  obtain ⟨_, w1, w2, w3, w4⟩ := wellP_iff.1 hw
  have hR := rightP_iff.1 w3
  have hos : os.length ≤ 40 := (known_at w2).1
  have hA : auditA (some m) ds os p = p.flatMap (routeA m ds os) ++ missA p os := by simp [auditA, hw]
  refine ⟨fun l i => 0 ≤ i ∧ i ≤ p.length ∧ l.length ≤ 240 * i.toNat ∧ l ++ (p.drop i.toNat).flatMap (routeA m ds os) = p.flatMap (routeA m ds os), fun _ i => p.length - i.toNat, ⟨by omega, by omega, by simp, by simp⟩, fun l i hi => ⟨fun h => ?_, fun h => ?_⟩⟩
  · obtain ⟨h0, h1, hL, hI⟩ := hi
    obtain ⟨e1, e2, e3, e4⟩ := ix rz hpl h0 h
    have hrm := getD_mem rz e3
    have hr := okR_mem hR.2 _ hrm
    have h8 := hR.1
    rw [flatMap_drop rz e3] at hI
    rw [e1]; dsimp only; rw [e2]
    change List Route at p
    generalize p.getD i.toNat { driver := 0, served := 0, stops := [] } = r at *
    refine ⟨⟨h0, h⟩, e3, fun q => ⟨⟨h0, h⟩, e3, ?_⟩, fun q => ⟨⟨h0, h⟩, e3, ?_⟩⟩
    · have hn : findD r.driver ds = none := by simpa using q
      have hx : routeA m ds os r = [⟨r.driver, 0, 8⟩] := by simp [routeA, hn]
      rw [hx] at hI
      refine ⟨by simp; omega, ⟨by omega, by omega, by simp; omega, by rw [← hI]; simp⟩, by omega⟩
    · obtain ⟨d, hd'⟩ := Option.isSome_iff_exists.1 q
      have hx : routeA m ds os r = alongA m d os r.stops := by simp [routeA, hd']
      have hlen := alongA_length (m := m) (d := d) (os := os) (ss := r.stops)
      rw [hx] at hI
      rw [hd']
      dsimp only [Option.getD]
      refine ⟨well_timed (hmo m rfl) hw hrm (findD_mem hd').1, by omega, ⟨by omega, by omega, by simp; omega, by rw [← hI]; simp⟩, by omega⟩
  · obtain ⟨h0, h1, hL, hI⟩ := hi
    rw [ixEnd h] at hI
    have h8 := hR.1
    refine ⟨fun l' j => 0 ≤ j ∧ j ≤ os.length ∧ l'.length ≤ 1920 + j.toNat ∧ l' ++ missA p (os.drop j.toNat) = auditA (some m) ds os p, fun _ j => os.length - j.toNat, ⟨by omega, by omega, by simp; omega, by rw [hA]; simpa using hI⟩, fun l' j hj => ⟨fun g => ?_, fun g => ?_⟩⟩
    · obtain ⟨j0, j1, jL, jI⟩ := hj
      obtain ⟨e1, e2, e3, e4⟩ := ix (FK.zero .order) ho j0 g
      unfold missA at jI
      rw [flatMap_drop (FK.zero .order) e3] at jI
      rw [e1]; dsimp only; rw [e2]
      generalize os.getD j.toNat (FK.zero .order) = o at *
      refine ⟨⟨j0, g⟩, e3, fun q => ⟨⟨j0, g⟩, e3, ?_⟩, fun q => ?_⟩
      · have hn : (findP o.id p).isNone = true := by simpa using q
        rw [hn] at jI
        refine ⟨by simp; omega, ⟨by omega, by omega, by simp; omega, by rw [← jI]; simp [missA]⟩, by omega⟩
      · have hn : (findP o.id p).isNone = false := by simpa [Option.isSome_iff_ne_none] using q
        rw [hn] at jI
        exact ⟨⟨by omega, by omega, by omega, by rw [← jI]; simp [missA]⟩, by omega⟩
    · obtain ⟨j0, j1, jL, jI⟩ := hj
      rw [ixEnd g] at jI
      simpa [missA] using jI
theorem rAudit_t : Told Try.prog 21 rAudit_con := rAudit_told (csOk_cons rWell_t (csOk_cons rCdriver_t (csOk_cons rAlong_t (csOk_cons rPfind_t csOk_nil)))) rAudit_ok
end Go.Eng
