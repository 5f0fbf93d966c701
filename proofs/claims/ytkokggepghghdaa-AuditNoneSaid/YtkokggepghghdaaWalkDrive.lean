/- A walk that finds nothing wrong is a drive. -/
import Derived.Test.YtkokggepghghdaaPlanLaw
import Derived.Test.YtkokggepghghdaaRouteApart
set_option linter.unusedVariables false
set_option linter.unusedSimpArgs false
namespace Go.Eng
open Go Go.Proofs
theorem good_zero {k : Int} {e : Int} (h : e ≠ 0) : good ⟨k, e⟩ = false := by simp [good, h]
theorem good_match {r : Except Fault (List Visit)} {v : Visit} : good (fauR (match r with | .error f => .error f | .ok vs => .ok (v :: vs))) = good (fauR r) := by
  cases r <;> rfl
theorem served_late {m : MapD} {d : Driver} {os : List Order} {s : Stop} {p : Pos} (hw : 0 ≤ (stopSite os s).lo ∧ (stopSite os s).lo ≤ (stopSite os s).hi ∧ (stopSite os s).hi ≤ 1000000) :
    (lateA m d os s p = true → served m p.pos p.now (stopSite os s) d.hi = none) ∧ (lateA m d os s p = false → served m p.pos p.now (stopSite os s) d.hi = some (startA m os s p, startA m os s p + (stopSite os s).sv)) := by
  have hr : right (stopSite os s).win = true := right_iff.2 hw
  have hA : startA m os s p = max (p.now + tm m p.pos (stopSite os s).pl) (stopSite os s).lo := rfl
  have hL : lateA m d os s p = (decide ((stopSite os s).hi < startA m os s p) || decide (d.hi < startA m os s p + (stopSite os s).sv)) := rfl
  have hb : begin_ (stopSite os s).win (p.now + tm m p.pos (stopSite os s).pl) = if decide (p.now + tm m p.pos (stopSite os s).pl ≤ (stopSite os s).hi) = true then (startA m os s p, true) else (0, false) := by
    unfold begin_
    rw [hr, Bool.true_and]; rfl
  unfold served
  rw [hb, hL]
  by_cases h : p.now + tm m p.pos (stopSite os s).pl ≤ (stopSite os s).hi
  · have h1 : ¬ (stopSite os s).hi < startA m os s p := by rw [hA]; omega
    rw [if_pos (decide_eq_true h)]
    by_cases h2 : d.hi < startA m os s p + (stopSite os s).sv
    · have h3 : ¬ startA m os s p + (stopSite os s).sv ≤ d.hi := by omega
      simp [h1, h2, h3]
    · have h3 : startA m os s p + (stopSite os s).sv ≤ d.hi := by omega
      simp [h1, h2, h3]
  · have h1 : (stopSite os s).hi < startA m os s p := by rw [hA]; omega
    have hc : ¬ decide (p.now + tm m p.pos (stopSite os s).pl ≤ (stopSite os s).hi) = true := by simpa using h
    rw [if_neg hc]
    simp [h1]
theorem walk_drive {m : MapD} {d : Driver} {os : List Order} (hm : MapOk m) (hk : knownO (some m) os = true) : ∀ (l ah : List Stop) (p : Pos), Paired ah → p.load = carried ah os → p.load ≤ d.room → (ah ++ l).Nodup →
    (good (fauR (driveGo m d os ah l p)) = true ↔ walkA m d os ah l p = [] ∧ carried (ah ++ l) os ≤ 0)
  | [], ah, p, hP, hl, hr, hn => by
    simp only [driveGo, walkA, List.append_nil, true_and]
    rw [← hl]
    by_cases h : 0 < p.load
    · rw [if_pos h]
      have : ¬ p.load ≤ 0 := by omega
      simp [fauR, good, this]
    · rw [if_neg h]
      have : p.load ≤ 0 := by omega
      simp [fauR, good, this]
  | s :: l, ah, p, hP, hl, hr, hn => by
    have hns : stands ah s = false := by
      rw [← Bool.not_eq_true, stands_iff]
      intro q
      have := List.nodup_append.1 hn
      exact this.2.2 s q s (by simp) rfl
    rw [driveGo, walkA]
    cases hf : (findO os s.order).isSome with
    | false =>
      have hf' : (findO os s.order).isNone = true := by simpa using hf
      have hw : wrongE os ah s = 8 := by unfold wrongE; rw [if_pos hf']
      have ht : tryStop m d os ah s p = .error 8 := by unfold tryStop; rw [hw]; rfl
      rw [ht, if_pos hf']
      simp [fauR, good]
    | true =>
      have hf' : ¬ (findO os s.order).isNone = true := by simpa [Option.isSome_iff_ne_none] using hf
      rw [if_neg hf']
      obtain ⟨hst, hwin, hz⟩ := stop_known hk hf
      cases hp : noPick ah s with
      | true =>
        have hw : wrongE os ah s = 17 := by
          unfold wrongE
          rw [if_neg hf', if_neg (by rw [hns]; simp)]
          rw [if_pos (show (s.drop && !stands ah ⟨s.order, false⟩) = true from hp)]
        have ht : tryStop m d os ah s p = .error 17 := by unfold tryStop; rw [hw]; rfl
        rw [ht]
        simp [fauR, good, toldA, hp]
      | false =>
        have hw : wrongE os ah s = 0 := by
          unfold wrongE
          rw [if_neg hf', if_neg (by rw [hns]; simp)]
          rw [if_neg (by unfold noPick at hp; rw [hp]; simp)]
        obtain ⟨hP', hl'⟩ := load_step hk hw hP hl
        have hla : loadA os ah s p.load = loadOf os s p.load := by unfold loadA; rw [hp]; rfl
        by_cases hroom : d.room < loadOf os s p.load
        · have hd : s.drop = false := by
            cases hd : s.drop with
            | false => rfl
            | true => simp only [loadOf, hd, if_true] at hroom; omega
          have ht : tryStop m d os ah s p = .error 14 := by
            unfold tryStop
            rw [hw]
            simp [hroom]
          rw [ht]
          simp [fauR, good, toldA, hp, hd, hroom]
        · obtain ⟨l1, l2⟩ := served_late (m := m) (d := d) (os := os) (s := s) (p := p) hwin
          cases hlate : lateA m d os s p with
          | true =>
            have ht : tryStop m d os ah s p = .error 15 := by
              unfold tryStop
              rw [hw, l1 hlate]
              simp [hroom]
            rw [ht]
            simp [fauR, good, toldA, hlate]
          | false =>
            have ht : tryStop m d os ah s p = .ok ⟨s.order, s.drop, p.now + tm m p.pos (stopSite os s).pl, startA m os s p, startA m os s p + (stopSite os s).sv, loadOf os s p.load⟩ := by
              unfold tryStop
              rw [hw, l2 hlate]
              simp [hroom]
            have htold : toldA m d os ah s p = [] := by simp [toldA, hp, hlate, hroom]
            rw [ht, htold, List.nil_append]
            dsimp only
            have ha : after os s ⟨s.order, s.drop, p.now + tm m p.pos (stopSite os s).pl, startA m os s p, startA m os s p + (stopSite os s).sv, loadOf os s p.load⟩ = afterA m os ah s p := by
              simp [after, afterA, hla]
            rw [ha]
            have := walk_drive hm hk l (ah ++ [s]) (afterA m os ah s p) hP' (by show loadA os ah s p.load = carried (ah ++ [s]) os; rw [hla]; exact hl') (by show loadA os ah s p.load ≤ d.room; rw [hla]; omega) (by simpa using hn)
            have e : ah ++ [s] ++ l = ah ++ s :: l := by simp
            rw [e] at this
            generalize driveGo m d os (ah ++ [s]) l (afterA m os ah s p) = G at *
            cases G with
            | error f => exact this
            | ok vs => exact this
/-- Where nothing is wrong, no delivery stands ahead of its pickup. -/
theorem walk_paired {m : MapD} {d : Driver} {os : List Order} : ∀ (A ah B : List Stop) (p : Pos), walkA m d os ah (A ++ B) p = [] → Paired ah → Paired (ah ++ A)
  | [], ah, B, p, _, hP => by simpa using hP
  | s :: A, ah, B, p, h, hP => by
    rw [List.cons_append, walkA] at h
    split at h
    · cases h
    · obtain ⟨h1, h2⟩ := List.append_eq_nil_iff.1 h
      have hnp : noPick ah s = false := by
        cases e : noPick ah s with
        | false => rfl
        | true => simp [toldA, e] at h1
      have hP' : Paired (ah ++ [s]) := by
        intro id hid
        rw [stands_app] at hid ⊢
        cases e : stands ah ⟨id, true⟩ with
        | true => rw [hP id e, Bool.true_or]
        | false =>
          rw [e, Bool.false_or] at hid
          obtain ⟨q1, q2⟩ := sEq_iff.1 hid
          dsimp only at q1 q2
          unfold noPick at hnp
          rw [q2, Bool.true_and] at hnp
          rw [q1] at hnp
          have : stands ah ⟨id, false⟩ = true := by simpa using hnp
          rw [this, Bool.true_or]
      have := walk_paired A (ah ++ [s]) B _ h2 hP'
      simpa using this
theorem walk_known {m : MapD} {d : Driver} {os : List Order} : ∀ (l ah : List Stop) (p : Pos), walkA m d os ah l p = [] → ∀ s ∈ l, (findO os s.order).isSome = true
  | [], _, _, _ => by simp
  | s :: l, ah, p, h => by
    rw [walkA] at h
    split at h
    · cases h
    · rename_i hn
      obtain ⟨h1, h2⟩ := List.append_eq_nil_iff.1 h
      intro t ht
      rcases List.mem_cons.1 ht with rfl | ht
      · simpa [Option.isSome_iff_ne_none] using hn
      · exact walk_known l _ _ h2 t ht
theorem lackA_iff {d : Driver} {os : List Order} : ∀ (l : List Stop), lackA d os l = [] ↔ ∀ A s B, l = A ++ s :: B → (findO os s.order).isSome = true → s.drop = false → stands B ⟨s.order, true⟩ = true
  | [] => by simp [lackA]
  | t :: l => by
    rw [lackA, List.append_eq_nil_iff, lackA_iff l]
    constructor
    · rintro ⟨h1, h2⟩ A s B e hf hd
      cases A with
      | nil =>
        simp only [List.nil_append, List.cons.injEq] at e
        obtain ⟨rfl, rfl⟩ := e
        cases hs : stands l ⟨t.order, true⟩ with
        | true => rfl
        | false => rw [lack_one hf hd hs] at h1; cases h1
      | cons a A =>
        simp only [List.cons_append, List.cons.injEq] at e
        exact h2 A s B e.2 hf hd
    · intro h
      refine ⟨?_, fun A s B e => h (t :: A) s B (by rw [e]; rfl)⟩
      cases hf : (findO os t.order).isSome with
      | false => exact lack_none (.inl hf)
      | true =>
        cases hd : t.drop with
        | true => exact lack_none (.inr (.inl hd))
        | false => exact lack_none (.inr (.inr (h [] t l rfl hf hd)))
theorem carried_zero {ss : List Stop} : ∀ {os : List Order}, (∀ o ∈ os, 1 ≤ o.size) → (carried ss os ≤ 0 ↔ ∀ o ∈ os, held ss o.id = false)
  | [], _ => by simp [carried]
  | o :: l, h => by
    have h1 := carried_zero (ss := ss) (os := l) fun x hx => h x (by simp [hx])
    have h2 := h o (by simp)
    have h3 := carried_pos (ahead := ss) (os := l) fun x hx => by have := h x (by simp [hx]); omega
    rw [carried]
    simp only [List.forall_mem_cons, ← h1]
    cases e : held ss o.id with
    | true => simp; omega
    | false => simp
theorem along_drive {m : MapD} {d : Driver} {os : List Order} {ss : List Stop} (hT : TimedPre m d os ss) (hn : ss.Nodup) (hd : driverE (some m) d = 0) : alongA m d os ss = [] ↔ good (fauR (drive (some m) d os ss)) = true := by
  have hf : fitB (some m) d os ss = true := by simp [fitB, hd, hT.known, hT.few]
  have hdr : drive (some m) d os ss = driveGo m d os [] ss ⟨d.lo, d.home, 0⟩ := by
    unfold drive
    dsimp only
    rw [if_pos hf]; rfl
  have hroom := hT.driver.room
  rw [hdr, walk_drive hT.map hT.known ss [] _ (fun id h => by cases h) (carried_nil os).symm (by dsimp only; omega) (by simpa using hn)]
  unfold alongA
  rw [List.append_eq_nil_iff]
  refine and_congr_right fun hw => ?_
  obtain ⟨_, hs, hA⟩ := known_iff.1 hT.known
  rw [lackA_iff, List.nil_append, carried_zero fun o ho => (orderE_ok (hs o ho)).size.1]
  constructor
  · intro h o ho
    cases hp : stands ss ⟨o.id, false⟩ with
    | false => simp [held, hp]
    | true =>
      obtain ⟨A, B, e⟩ := List.append_of_mem (stands_iff.1 hp)
      have := h A _ B e (by rw [findO_of hA ho]; rfl) rfl
      have : stands ss ⟨o.id, true⟩ = true := by
        rw [stands_iff, e]
        have := stands_iff.1 this
        simp [this]
      simp [held, this]
  · intro h A s B e hf hdr
    obtain ⟨o, ho⟩ := Option.isSome_iff_exists.1 hf
    obtain ⟨hm, hid⟩ := findO_mem ho
    have hh := h o hm
    have hss : s = ⟨s.order, false⟩ := by cases s; simp_all
    have hp : stands ss ⟨o.id, false⟩ = true := by
      rw [stands_iff, hid, ← hss, e]; simp
    unfold held at hh
    rw [hp, Bool.true_and] at hh
    have ht : stands ss ⟨s.order, true⟩ = true := by rw [← hid]; simpa using hh
    have ht' := stands_iff.1 ht
    rw [e] at ht'
    rcases List.mem_append.1 ht' with q | q
    · -- ahead: then its pickup too
      have hP := walk_paired A [] (s :: B) _ (by rw [← e]; exact hw) (fun id h => by cases h)
      have := stands_iff.1 (hP s.order (stands_iff.2 (by simpa using q)))
      rw [List.nil_append, ← hss] at this
      rw [e] at hn
      have := (List.nodup_append.1 hn).2.2 s this s (by simp)
      exact absurd rfl this
    · rcases List.mem_cons.1 q with q | q
      · rw [← q] at hdr; cases hdr
      · exact stands_iff.2 q
end Go.Eng
