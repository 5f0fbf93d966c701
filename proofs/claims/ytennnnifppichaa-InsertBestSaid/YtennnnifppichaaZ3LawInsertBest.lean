/- An order's place looked for, without any program: the price that is told is what the route costs more. -/
import Derived.Test.YtennnnifppichaaZ2LawInsertBest
set_option linter.unusedVariables false
set_option linter.unusedSimpArgs false
namespace Go.Eng
open Go Go.Proofs
def RightGo (os : List Order) : List Stop → List Stop → Prop
  | _, [] => True
  | ah, s :: l => wrongE os ah s = 0 ∧ RightGo os (ah ++ [s]) l
theorem rightGo_app {os : List Order} : ∀ (x y ah : List Stop), RightGo os ah (x ++ y) ↔ RightGo os ah x ∧ RightGo os (ah ++ x) y
  | [], y, ah => by simp [RightGo]
  | s :: x, y, ah => by
    rw [List.cons_append, RightGo, RightGo, rightGo_app x y (ah ++ [s]), and_assoc, List.append_assoc]; rfl
theorem wrongE_zero {os : List Order} {ah : List Stop} {s : Stop} : wrongE os ah s = 0 ↔ (findO os s.order).isSome = true ∧ s ∉ ah ∧ (s.drop = true → ⟨s.order, false⟩ ∈ ah) := by
  have h1 := @stands_iff ah s
  have h2 := @stands_iff ah ⟨s.order, false⟩
  unfold wrongE
  rw [findO_isNone]
  cases hf : (findO os s.order).isSome <;> cases hs : stands ah s <;> cases hd : s.drop <;> cases hp : stands ah ⟨s.order, false⟩ <;> simp [hs, hp] at h1 h2 ⊢ <;> first | exact h1 | exact ⟨h1, h2⟩ | grind
theorem rightGo_more {os os' : List Order} (hk : ∀ id, (findO os id).isSome = true → (findO os' id).isSome = true) : ∀ (l ah ah' : List Stop), RightGo os ah l → (∀ x ∈ ah, x ∈ ah') → (∀ s ∈ l, s ∈ ah' → s ∈ ah) → RightGo os' ah' l
  | [], _, _, _, _, _ => trivial
  | s :: l, ah, ah', h, h1, h2 => by
    obtain ⟨hw, hr⟩ := h
    obtain ⟨a, b, c⟩ := wrongE_zero.1 hw
    refine ⟨wrongE_zero.2 ⟨hk _ a, fun q => b (h2 s (by simp) q), fun q => h1 _ (c q)⟩, rightGo_more hk l (ah ++ [s]) (ah' ++ [s]) hr (fun x hx => ?_) fun x hx q => ?_⟩
    · rcases List.mem_append.1 hx with q | q
      · exact List.mem_append_left _ (h1 x q)
      · exact List.mem_append_right _ q
    · rcases List.mem_append.1 q with q | q
      · exact List.mem_append_left _ (h2 x (by simp [hx]) q)
      · exact List.mem_append_right _ q
theorem rightGo_known {os : List Order} : ∀ (l ah : List Stop), RightGo os ah l → ∀ s ∈ l, (findO os s.order).isSome = true
  | [], _, _ => by simp
  | t :: l, ah, h => fun s hs => by
    rcases List.mem_cons.1 hs with rfl | hs
    · exact (wrongE_zero.1 h.1).1
    · exact rightGo_known l _ h.2 s hs
theorem driveGo_right {m : MapD} {d : Driver} {os : List Order} : ∀ (l ah : List Stop) (p : Pos) (v : List Visit), driveGo m d os ah l p = .ok v → RightGo os ah l
  | [], _, _, _, _ => trivial
  | s :: l, ah, p, v, h => by
    rw [driveGo] at h
    cases ht : tryStop m d os ah s p with
    | error e => rw [ht] at h; cases h
    | ok w =>
      rw [ht] at h
      dsimp only at h
      cases hg : driveGo m d os (ah ++ [s]) l (after os s w) with
      | error f => rw [hg] at h; cases h
      | ok vs =>
        refine ⟨?_, driveGo_right l _ _ vs hg⟩
        unfold tryStop at ht
        split at ht
        · cases ht
        · omega
structure AtS (m : MapD) (st : State) (K : Nat) : Prop where
  pos : 0 ≤ st.pos ∧ st.pos < m.n
  now : 0 ≤ st.now ∧ st.now ≤ 1000000
  load : -(1000 * (K : Int)) ≤ st.load ∧ st.load ≤ 1000 * K
  way : 0 ≤ st.way ∧ st.way ≤ 1000000 * K
def moreL : List Leg → Int
  | [] => 0
  | l :: ls => l.more + moreL ls
theorem moreL_app : ∀ (x y : List Leg), moreL (x ++ y) = moreL x + moreL y
  | [], y => by simp [moreL]
  | l :: x, y => by rw [List.cons_append, moreL, moreL, moreL_app x y]; omega
theorem leg_site {os : List Order} {s : Stop} : (legT os s).pl = (stopSite os s).pl ∧ (legT os s).lo = (stopSite os s).lo ∧ (legT os s).hi = (stopSite os s).hi ∧ (legT os s).sv = (stopSite os s).sv := by
  unfold legT stopSite legO siteOf
  cases s.drop <;> exact ⟨rfl, rfl, rfl, rfl⟩
theorem leg_more {m : MapD} {os : List Order} {s : Stop} {load : Int} (hk : OrderOk m (fo os s.order)) : loadOf os s load = load + (legT os s).more ∧ -1000 ≤ (legT os s).more ∧ (legT os s).more ≤ 1000 := by
  have h := hk.size
  unfold loadOf legT legO
  cases s.drop
  · simp; omega
  · have : wrap (-(fo os s.order).size) = -(fo os s.order).size := wrap_id (by omega) (by omega)
    simp [this]; omega
theorem step_try {m : MapD} {d : Driver} {os : List Order} {ah : List Stop} {s : Stop} {st : State} {K : Nat} (hm : MapOk m) (hd : DriverOk m d) (hk : knownO (some m) os = true) (hw : wrongE os ah s = 0) (hK : K ≤ 1000) (ha : AtS m st K) :
    ((stepS m d st (legT os s)).2 = true → ∃ v, tryStop m d os ah s ⟨st.now, st.pos, st.load⟩ = .ok v ∧ after os s v = ⟨(stepS m d st (legT os s)).1.now, (stepS m d st (legT os s)).1.pos, (stepS m d st (legT os s)).1.load⟩ ∧ AtS m (stepS m d st (legT os s)).1 (K + 1) ∧
      (stepS m d st (legT os s)).1.way = st.way + tm m st.pos (stopSite os s).pl ∧ (stepS m d st (legT os s)).1.load = st.load + (legT os s).more ∧ (stepS m d st (legT os s)).1.pos = (stopSite os s).pl) ∧
    ((stepS m d st (legT os s)).2 = false → ∃ e, tryStop m d os ah s ⟨st.now, st.pos, st.load⟩ = .error e ∧ e ≠ 0) := by
  obtain ⟨hO, _, _⟩ := fo_ok hk (wrongE_some hw)
  have hS : SiteOk m (stopSite os s) := siteOf_ok hO s.drop
  obtain ⟨lm, lm1, lm2⟩ := leg_more (load := st.load) hO
  obtain ⟨l1, l2, l3, l4⟩ := @leg_site os s
  have hT : stepT m st (legT os s) = tm m st.pos (stopSite os s).pl := by
    unfold stepT; rw [l1, mtime_in ha.pos.1 ha.pos.2 hS.pl.1 hS.pl.2]
  obtain ⟨t0, t1⟩ := tm_bound hm st.pos (stopSite os s).pl
  have hB : stepB m st (legT os s) = begin_ (stopSite os s).win (st.now + tm m st.pos (stopSite os s).pl) := by
    unfold stepB
    have := ha.now
    rw [hT, wrap_id (by omega) (by omega), l2, l3]; rfl
  have hlw : wrap (st.load + (legT os s).more) = st.load + (legT os s).more := wrap_id (by have := ha.load; omega) (by have := ha.load; omega)
  have hww : wrap (st.way + stepT m st (legT os s)) = st.way + tm m st.pos (stopSite os s).pl := by rw [hT]; exact wrap_id (by have := ha.way; omega) (by have := ha.way; omega)
  have e1 : (stepS m d st (legT os s)).1.load = st.load + (legT os s).more := hlw
  have e2 : (stepS m d st (legT os s)).1.way = st.way + tm m st.pos (stopSite os s).pl := hww
  have e3 : (stepS m d st (legT os s)).1.pos = (stopSite os s).pl := l1
  have e4 : (stepS m d st (legT os s)).1.now = wrap ((stepB m st (legT os s)).1 + (stopSite os s).sv) := by rw [← l4]; rfl
  have e5 : (stepS m d st (legT os s)).2 = ((stepB m st (legT os s)).2 && decide ((stepS m d st (legT os s)).1.now ≤ d.hi) && decide ((stepS m d st (legT os s)).1.load ≤ d.room)) := rfl
  have hT0 : tryStop m d os ah s ⟨st.now, st.pos, st.load⟩ = if loadOf os s st.load > d.room then .error 14 else match served m st.pos st.now (stopSite os s) d.hi with
    | none => .error 15
    | some b => .ok ⟨s.order, s.drop, st.now + tm m st.pos (stopSite os s).pl, b.1, b.2, loadOf os s st.load⟩ := by
    unfold tryStop; rw [if_neg (by omega)]; rfl
  cases hb : (stepB m st (legT os s)).2 with
  | false =>
    rw [e5, hb]
    refine ⟨fun h => (by simp at h), fun _ => ?_⟩
    rw [hB] at hb
    rw [hT0, served_none (.inl hb)]
    by_cases h : loadOf os s st.load > d.room
    · rw [if_pos h]; exact ⟨14, rfl, by decide⟩
    · rw [if_neg h]; exact ⟨15, rfl, by decide⟩
  | true =>
    have hb' := hb
    rw [hB] at hb'
    obtain ⟨⟨w0, w1, w2⟩, w3, w4⟩ := begin_true hb'
    have hwn : wrap ((stepB m st (legT os s)).1 + (stopSite os s).sv) = (begin_ (stopSite os s).win (st.now + tm m st.pos (stopSite os s).pl)).1 + (stopSite os s).sv := by
      have := hS.sv
      have := ha.now
      rw [hB]; exact wrap_id (by rw [w4]; omega) (by rw [w4]; omega)
    rw [hwn] at e4
    rw [e5, hb, e1, e4, hT0, lm]
    refine ⟨fun h => ?_, fun h => ?_⟩
    · simp only [Bool.true_and, Bool.and_eq_true, decide_eq_true_eq] at h
      rw [if_neg (by omega), served_some hb' h.1]
      refine ⟨_, rfl, ?_, ⟨?_, ?_, ?_, ?_⟩, e2, rfl, e3⟩
      · unfold after; rw [e3]
      · rw [e3]; exact hS.pl
      · rw [e4, w4]; have := hS.sv; have := ha.now; have := hd.win; omega
      · rw [e1]; have := ha.load; omega
      · rw [e2]; have := ha.way; omega
    · by_cases hl : st.load + (legT os s).more > d.room
      · rw [if_pos hl]; exact ⟨14, rfl, by decide⟩
      · have hn : ¬ ((begin_ (stopSite os s).win (st.now + tm m st.pos (stopSite os s).pl)).1 + (stopSite os s).sv ≤ d.hi) := fun q => by
          have : st.load + (legT os s).more ≤ d.room := by omega
          simp [q, this] at h
        rw [if_neg hl, served_none (.inr (by omega))]; exact ⟨15, rfl, by decide⟩
theorem runS_app {m : MapD} {d : Driver} : ∀ (x y : List Leg) (r : State × Bool), runS m d r (x ++ y) = runS m d (runS m d r x) y
  | [], _, _ => rfl
  | l :: x, y, ⟨s, true⟩ => by rw [List.cons_append, runS_true, runS_true, runS_app x y]
  | l :: x, y, ⟨s, false⟩ => by rw [runS_false, runS_false, runS_false]
theorem run_drive {m : MapD} {d : Driver} {os : List Order} (hm : MapOk m) (hd : DriverOk m d) (hk : knownO (some m) os = true) : ∀ (l ah : List Stop) (st : State) (K : Nat), RightGo os ah l → K + l.length ≤ 1000 → AtS m st K →
    (good (fauR (driveGo m d os ah l ⟨st.now, st.pos, st.load⟩)) = true ↔ (runS m d (st, true) (l.map (legT os))).2 = true ∧ (runS m d (st, true) (l.map (legT os))).1.load ≤ 0) ∧
    ((runS m d (st, true) (l.map (legT os))).2 = true → (runS m d (st, true) (l.map (legT os))).1.way = st.way + wayGo m os st.pos l ∧ (runS m d (st, true) (l.map (legT os))).1.load = st.load + moreL (l.map (legT os)))
  | [], ah, st, K, _, _, _ => by
    rw [driveGo, List.map_nil, runS, wayGo, moreL]
    refine ⟨⟨fun h => ⟨rfl, ?_⟩, fun h => ?_⟩, fun _ => ⟨(by dsimp only; omega), (by dsimp only; omega)⟩⟩
    · dsimp only
      by_cases q : 0 < st.load
      · rw [if_pos q] at h; simp [fauR, good] at h
      · omega
    · rw [if_neg (by dsimp only at h ⊢; omega)]; rfl
  | s :: l, ah, st, K, hR, hK, ha => by
    rw [List.length_cons] at hK
    obtain ⟨h1, h2⟩ := step_try (d := d) (s := s) hm hd hk hR.1 (by omega : K ≤ 1000) ha
    rw [List.map_cons, runS_true, driveGo]
    cases hs : (stepS m d st (legT os s)).2 with
    | true =>
      obtain ⟨v, e1, e2, e3, e4, e5, e6⟩ := h1 hs
      have e7 : stepS m d st (legT os s) = ((stepS m d st (legT os s)).1, true) := by rw [← hs]
      obtain ⟨i1, i2⟩ := run_drive hm hd hk l (ah ++ [s]) (stepS m d st (legT os s)).1 (K + 1) hR.2 (by omega) e3
      rw [e7, e1]
      dsimp only
      rw [e2]
      refine ⟨?_, fun h => ?_⟩
      · rw [← i1]
        cases driveGo m d os (ah ++ [s]) l ⟨(stepS m d st (legT os s)).1.now, (stepS m d st (legT os s)).1.pos, (stepS m d st (legT os s)).1.load⟩ with
        | ok vs => simp [fauR, good]
        | error f => exact Iff.rfl
      · obtain ⟨j1, j2⟩ := i2 h
        rw [j1, j2, e4, e5, e6, wayGo, moreL]
        exact ⟨by omega, by omega⟩
    | false =>
      obtain ⟨e, e1, e2⟩ := h2 hs
      have e7 : stepS m d st (legT os s) = ((stepS m d st (legT os s)).1, false) := by rw [← hs]
      rw [e7, e1, runS_false]
      refine ⟨⟨fun h => ?_, fun h => (by cases h.1)⟩, fun h => (by cases h)⟩
      simp [fauR, good, e2] at h
theorem pre_run {m : MapD} {d : Driver} {os : List Order} : ∀ (l : List Stop) (st : State), (runS m d (st, true) (l.map (legT os))).2 = true → ∀ k, k ≤ l.length → runS m d (st, true) ((l.take k).map (legT os)) = ((st :: preGo m d os st l).getD k sz, true)
  | _, st, _, 0, _ => by rw [List.take_zero, List.map_nil, runS]; rfl
  | [], st, _, k + 1, hk => by simp at hk
  | s :: l, st, h, k + 1, hk => by
    rw [List.map_cons, runS_true] at h
    rw [List.take_succ_cons, List.map_cons, runS_true]
    cases hs : (stepS m d st (legT os s)).2 with
    | true =>
      have e7 : stepS m d st (legT os s) = (stepN m st (legT os s), true) := by rw [← hs]; rfl
      rw [e7] at h ⊢
      rw [pre_run l _ h k (by simpa using hk), preGo]
      rfl
    | false =>
      have e7 : stepS m d st (legT os s) = ((stepS m d st (legT os s)).1, false) := by rw [← hs]
      rw [e7, runS_false] at h
      cases h
theorem findO_add {os : List Order} {o : Order} : ∀ {id : Int}, findO (os ++ [o]) id = if (findO os id).isSome then findO os id else if o.id = id then some o else none := by
  intro id
  induction os with
  | nil => simp [findO]
  | cons a l ih =>
    rw [List.cons_append, findO, findO]
    by_cases h : a.id = id
    · rw [if_pos h, if_pos h]; rfl
    · rw [if_neg h, if_neg h, ih]
theorem findO_isSome_iff {os : List Order} {id : Int} : (findO os id).isSome = true ↔ ∃ o ∈ os, o.id = id := by
  induction os with
  | nil => simp [findO]
  | cons a l ih =>
    rw [findO]
    by_cases h : a.id = id
    · rw [if_pos h]; exact ⟨fun _ => ⟨a, by simp, h⟩, fun _ => rfl⟩
    · rw [if_neg h, ih]
      constructor
      · rintro ⟨x, hx, e⟩; exact ⟨x, by simp [hx], e⟩
      · rintro ⟨x, hx, e⟩
        rcases List.mem_cons.1 hx with rfl | hx
        · exact absurd e h
        · exact ⟨x, hx, e⟩
theorem known_add {m : Option MapD} {os : List Order} {o : Order} (hk : knownO m os = true) (ho : orderE m o = 0) (hf : (findO os o.id).isSome = false) : knownO m (os ++ [o]) = true ↔ os.length < 40 := by
  obtain ⟨a, b, c⟩ := known_iff.1 hk
  refine ⟨fun h => ?_, fun h => known_iff.2 ⟨?_, fun x hx => ?_, ?_⟩⟩
  · have := (known_iff.1 h).1
    simp at this; omega
  · simp; omega
  · rcases List.mem_append.1 hx with q | q
    · exact b x q
    · simp at q; subst q; exact ho
  · refine List.pairwise_append.2 ⟨c, by simp, fun x hx y hy => ?_⟩
    simp at hy; subst hy
    intro q
    rw [findO_isSome_iff.2 ⟨x, hx, q⟩] at hf
    cases hf
structure PutPre (m : MapD) (d : Driver) (os : List Order) (ss : List Stop) (o : Order) : Prop where
  map : MapOk m
  good : good (fauR (drive (some m) d os ss)) = true
  order : orderE (some m) o = 0
  fresh : (findO os o.id).isSome = false
  few : ss.length ≤ 78
theorem leg_add {os : List Order} {o : Order} {s : Stop} (h : (findO os s.order).isSome = true) : legT (os ++ [o]) s = legT os s := by
  unfold legT fo
  rw [findO_add, if_pos h]
theorem leg_new {os : List Order} {o : Order} (h : (findO os o.id).isSome = false) (b : Bool) : legT (os ++ [o]) ⟨o.id, b⟩ = legO o b := by
  unfold legT fo
  dsimp only
  rw [findO_add, if_neg (by rw [h]; decide), if_pos rfl]; rfl
theorem map_add {os : List Order} {o : Order} {l : List Stop} (h : ∀ s ∈ l, (findO os s.order).isSome = true) : l.map (legT (os ++ [o])) = l.map (legT os) := List.map_congr_left fun s hs => leg_add (h s hs)
theorem drop_split {α : Type} {l : List α} {i j : Nat} (hij : i ≤ j) : l = l.take i ++ (l.drop i).take (j - i) ++ l.drop j := by
  rw [List.append_assoc]
  have : (l.drop i).take (j - i) ++ l.drop j = l.drop i := by
    have h := List.take_append_drop (j - i) (l.drop i)
    rw [List.drop_drop, show i + (j - i) = j by omega] at h
    exact h
  rw [this, List.take_append_drop]
theorem price_eq {m : MapD} {d : Driver} {os : List Order} {ss : List Stop} {o : Order} {i j : Int} (h : PutPre m d os ss o) (hi : 0 ≤ i ∧ i ≤ j ∧ j ≤ ss.length) :
    (priceS (mkS m d os ss o) i j).2 = (alongPr m d os ss o i j).2 ∧ ((priceS (mkS m d os ss o) i j).2 = true → (priceS (mkS m d os ss o) i j).1 = (alongPr m d os ss o i j).1) := by
  obtain ⟨x, vs, hx, hfit, hT, hD⟩ := drive_good h.good
  injection hx with hx
  subst hx
  obtain ⟨hdE, hk, hl80⟩ := fitB_iff.1 hfit
  have hd := (fit_pre h.map hfit).driver
  have hR : RightGo os [] ss := driveGo_right _ _ _ _ hT
  have hknown := rightGo_known _ _ hR
  have hS : AtS m (start d) 0 := ⟨hd.home, ⟨hd.win.1, by have := hd.win; show d.lo ≤ 1000000; omega⟩, ⟨by simp [start], by simp [start]⟩, ⟨by simp [start], by simp [start]⟩⟩
  obtain ⟨g1, g2⟩ := run_drive h.map hd hk ss [] (start d) 0 hR (by have := h.few; omega) hS
  have hg : good (fauR (driveGo m d os [] ss ⟨d.lo, d.home, 0⟩)) = true := by
    have : driveGo m d os [] ss ⟨d.lo, d.home, 0⟩ = .ok vs := hT
    rw [this]; rfl
  obtain ⟨r1, r2⟩ := g1.1 hg
  obtain ⟨w1, w2⟩ := g2 r1
  have hpre := pre_run ss (start d) r1
  -- the stops with the order put in
  have hsplit := drop_split (l := ss) (show i.toNat ≤ j.toNat by omega)
  have hput := putS_in (id := o.id) hi
  have hmem : ∀ s ∈ ss, s.order ≠ o.id := fun s hs q => by
    have := hknown s hs
    rw [q, h.fresh] at this; cases this
  have hA : ∀ s ∈ ss.take i.toNat, s ∈ ss := fun s hs => List.mem_of_mem_take hs
  have hB : ∀ s ∈ (ss.drop i.toNat).take (j.toNat - i.toNat), s ∈ ss := fun s hs => List.mem_of_mem_drop (List.mem_of_mem_take hs)
  have hC : ∀ s ∈ ss.drop j.toNat, s ∈ ss := fun s hs => List.mem_of_mem_drop hs
  generalize hAe : ss.take i.toNat = A at *
  generalize hBe : (ss.drop i.toNat).take (j.toNat - i.toNat) = B at *
  generalize hCe : ss.drop j.toNat = C at *
  have hlegs : (putS ss o.id i j).map (legT (os ++ [o])) = A.map (legT os) ++ (legO o false :: (B.map (legT os) ++ (legO o true :: C.map (legT os)))) := by
    rw [hput]
    simp only [List.map_append, List.map_cons, List.map_nil, leg_new h.fresh]
    rw [map_add fun s hs => hknown s (hA s hs), map_add fun s hs => hknown s (hB s hs), map_add fun s hs => hknown s (hC s hs)]
    simp
  have hRi : (runS m d (start d, true) ((putS ss o.id i j).map (legT (os ++ [o])))) = priceR (mkS m d os ss o) i j := by
    rw [hlegs, runS_app]
    have := hpre i.toNat (by omega)
    rw [hAe] at this
    rw [this, runS_true]
    unfold priceR mkS
    dsimp only
    rw [← hBe, ← hCe, List.map_take, List.map_drop, List.map_drop]
  have hRight : RightGo (os ++ [o]) [] (putS ss o.id i j) := by
    rw [hsplit] at hR
    obtain ⟨hR1, hR3⟩ := (rightGo_app _ _ _).1 hR
    obtain ⟨hR1, hR2⟩ := (rightGo_app _ _ _).1 hR1
    rw [List.nil_append] at hR2 hR3
    have hkk : ∀ id, (findO os id).isSome = true → (findO (os ++ [o]) id).isSome = true := fun id q => by rw [findO_add, if_pos q]; exact q
    have ho : (findO (os ++ [o]) o.id).isSome = true := by rw [findO_add, if_neg (by rw [h.fresh]; decide), if_pos rfl]; rfl
    have nm : ∀ (b : Bool), ∀ s ∈ ss, s ≠ ⟨o.id, b⟩ := fun b s hs q => hmem s hs (by rw [q])
    rw [hput]
    refine (rightGo_app _ _ _).2 ⟨(rightGo_app _ _ _).2 ⟨(rightGo_app _ _ _).2 ⟨(rightGo_app _ _ _).2 ⟨rightGo_more hkk A [] [] hR1 (fun _ q => q) fun _ _ q => q, ⟨wrongE_zero.2 ⟨ho, fun q => nm false _ (hA _ (by simpa using q)) rfl, fun q => (by cases q)⟩, trivial⟩⟩, rightGo_more hkk B A _ hR2 (fun x q => by simp [q]) fun s hs q => ?_⟩, ⟨wrongE_zero.2 ⟨ho, fun q => ?_, fun _ => by simp⟩, trivial⟩⟩, rightGo_more hkk C (A ++ B) _ hR3 (fun x q => ?_) fun s hs q => ?_⟩
    · simp only [List.nil_append, List.mem_append, List.mem_singleton] at q
      rcases q with q | q
      · exact q
      · exact absurd q (nm false s (hB s hs))
    · simp only [List.nil_append, List.mem_append, List.mem_singleton] at q
      rcases q with (q | q) | q
      · exact nm true _ (hA _ q) rfl
      · cases q
      · exact nm true _ (hB _ q) rfl
    · simp only [List.nil_append, List.mem_append, List.mem_singleton] at q ⊢
      rcases q with q | q
      · exact .inl (.inl (.inl q))
      · exact .inl (.inr q)
    · simp only [List.nil_append, List.mem_append, List.mem_singleton] at q ⊢
      rcases q with ((q | q) | q) | q
      · exact .inl q
      · exact absurd q (nm false s (hC s hs))
      · exact .inr q
      · exact absurd q (nm true s (hC s hs))
  have hlen : (putS ss o.id i j).length = ss.length + 2 := putS_length hi
  have hwayS : ((mkS m d os ss o).pre.getD (mkS m d os ss o).legs.length sz).way = way m d os ss := by
    have e := hpre ss.length (Nat.le_refl _)
    rw [List.take_length] at e
    have : (mkS m d os ss o).legs.length = ss.length := by simp [mkS]
    rw [this]
    show ((start d :: preGo m d os (start d) ss).getD ss.length sz).way = _
    rw [e] at w1
    rw [w1]
    show 0 + wayGo m os d.home ss = _
    rw [Int.zero_add]; rfl
  have hcost := cost_good h.good
  have hfull : (mkS m d os ss o).full = decide (40 ≤ (os.length : Int)) := rfl
  by_cases hfu : os.length < 40
  · have hk' := (known_add hk h.order h.fresh).2 hfu
    have hfit' : fitB (some m) d (os ++ [o]) (putS ss o.id i j) = true := fitB_iff.2 ⟨hdE, hk', by have := h.few; omega⟩
    obtain ⟨p1, p2⟩ := run_drive h.map hd hk' (putS ss o.id i j) [] (start d) 0 hRight (by have := h.few; omega) hS
    rw [hRi] at p1 p2
    have hload : moreL ((putS ss o.id i j).map (legT (os ++ [o]))) = moreL (ss.map (legT os)) := by
      rw [hlegs]
      have e : ss.map (legT os) = A.map (legT os) ++ (B.map (legT os) ++ C.map (legT os)) := by
        conv => lhs; rw [hsplit]
        simp
      rw [e]
      have hsz := (orderE_ok h.order).size
      have hw : (legO o true).more = -o.size := wrap_id (by omega) (by omega)
      have hw' : (legO o false).more = o.size := rfl
      simp only [moreL_app, moreL, hw, hw']
      omega
    have hdr : drive (some m) d (os ++ [o]) (putS ss o.id i j) = driveGo m d (os ++ [o]) [] (putS ss o.id i j) ⟨(start d).now, (start d).pos, (start d).load⟩ := drive_fit hfit'
    have hgood : good (fauR (drive (some m) d (os ++ [o]) (putS ss o.id i j))) = (priceR (mkS m d os ss o) i j).2 := by
      rw [hdr]
      cases hp : (priceR (mkS m d os ss o) i j).2 with
      | true =>
        refine p1.2 ⟨hp, ?_⟩
        rw [(p2 hp).2, hload]
        rw [w2] at r2
        exact r2
      | false =>
        cases hq : good (fauR (driveGo m d (os ++ [o]) [] (putS ss o.id i j) ⟨(start d).now, (start d).pos, (start d).load⟩)) with
        | false => rfl
        | true => rw [(p1.1 hq).1] at hp; cases hp
    have hp2 : (priceS (mkS m d os ss o) i j).2 = (priceR (mkS m d os ss o) i j).2 := by
      unfold priceS
      have : decide (40 ≤ (os.length : Int)) = false := by simp; omega
      rw [hfull, this]; simp
    rw [hp2]
    unfold alongPr
    refine ⟨?_, fun hp => ?_⟩
    · cases hp : (priceR (mkS m d os ss o) i j).2 with
      | true => rw [hp] at hgood; rw [cost_good hgood]
      | false => rw [hp] at hgood; rw [cost_bad hgood]
    · rw [hp] at hgood
      rw [cost_good hgood, hcost]
      show wrap ((priceR (mkS m d os ss o) i j).1.way - _) = wrap (way m d (os ++ [o]) (putS ss o.id i j) - way m d os ss)
      rw [hwayS, (p2 hp).1]
      show wrap (0 + way m d (os ++ [o]) (putS ss o.id i j) - way m d os ss) = _
      rw [Int.zero_add]
  · have hk' : knownO (some m) (os ++ [o]) = false := by
      cases q : knownO (some m) (os ++ [o]) with
      | false => rfl
      | true => exact absurd ((known_add hk h.order h.fresh).1 q) hfu
    have hbad : good (fauR (drive (some m) d (os ++ [o]) (putS ss o.id i j))) = false := by
      rw [drive_unfit (by unfold fitB; rw [hk']; simp)]; rfl
    have hp2 : (priceS (mkS m d os ss o) i j).2 = false := by
      unfold priceS
      have : decide (40 ≤ (os.length : Int)) = true := by simp; omega
      rw [hfull, this]; simp
    rw [hp2]
    unfold alongPr
    rw [cost_bad hbad]
    exact ⟨rfl, fun q => (by cases q)⟩
theorem rowP_mem {i : Int} : ∀ (k : Nat) (j : Int) (p : Int × Int), p ∈ rowP i k j ↔ p.1 = i ∧ j ≤ p.2 ∧ p.2 < j + k
  | 0, j, p => by simp [rowP] <;> omega
  | k + 1, j, p => by
    rw [rowP, List.mem_cons, rowP_mem k (j + 1) p]
    constructor
    · rintro (rfl | h)
      · exact ⟨rfl, by dsimp only; omega, by dsimp only; omega⟩
      · exact ⟨h.1, by omega, by omega⟩
    · rintro ⟨a, b, c⟩
      by_cases q : p.2 = j
      · exact .inl (Prod.ext a q)
      · exact .inr ⟨a, by omega, by omega⟩
theorem pairsP_mem : ∀ (k : Nat) (i : Int) (p : Int × Int), p ∈ pairsP k i ↔ i ≤ p.1 ∧ p.1 ≤ p.2 ∧ p.2 < i + k
  | 0, i, p => by simp [pairsP] <;> omega
  | k + 1, i, p => by
    rw [pairsP, List.mem_append, rowP_mem, pairsP_mem k (i + 1) p]
    omega
theorem places_mem {s : Int} {n : Nat} {p : Int × Int} (h : p ∈ places_ s n) : s ≤ p.1 ∧ p.1 ≤ p.2 ∧ p.2 ≤ n := by
  unfold places_ at h
  have := (pairsP_mem _ _ _).1 h
  omega
theorem huntGo_congr {id : Int} {pr pr' : Int → Int → Int × Bool} {b : Int} : ∀ (l : List (Int × Int)) (h : Hunt), (∀ p ∈ l, (pr p.1 p.2).2 = (pr' p.1 p.2).2 ∧ ((pr p.1 p.2).2 = true → (pr p.1 p.2).1 = (pr' p.1 p.2).1)) → huntGo id pr b l h = huntGo id pr' b l h
  | [], _, _ => rfl
  | p :: l, h, hp => by
    have e : huntStep id pr h p = huntStep id pr' h p := by
      obtain ⟨a, c⟩ := hp p (by simp)
      unfold huntStep
      cases q : (pr p.1 p.2).2 with
      | true => rw [← a, q, ← c q]
      | false => rw [← a, q]; rfl
    rw [huntGo, huntGo, e, huntGo_congr l _ fun x hx => hp x (by simp [hx])]
theorem hunt_eq {m : MapD} {d : Driver} {os : List Order} {ss : List Stop} {o : Order} {served b : Int} {h : Hunt} (hp : PutPre m d os ss o) (hs : 0 ≤ served) :
    huntGo d.id (priceS (mkS m d os ss o)) b (places_ served ss.length) h = huntGo d.id (alongPr m d os ss o) b (places_ served ss.length) h := huntGo_congr _ _ fun p hp' => by
  have := places_mem hp'
  exact price_eq hp ⟨by omega, by omega, by omega⟩
theorem best_eq {m : MapD} {d : Driver} {os : List Order} {ss : List Stop} {o : Order} {served b : Int} (hp : PutPre m d os ss o) (hs : 0 ≤ served) :
    bestS (mkS m d os ss o) served b = huntGo d.id (alongPr m d os ss o) b (places_ served ss.length) hz := by
  rw [← hunt_eq hp hs]
  unfold bestS
  have : (mkS m d os ss o).legs.length = ss.length := by simp [mkS]
  rw [this]; rfl
theorem bar_zero {m : Option MapD} {d : Driver} {os : List Order} {r : Route} {o : Order} {b : Int} (h : barP m d os r o b = 0) :
    orderE m o = 0 ∧ (findO os o.id).isSome = false ∧ 0 ≤ b ∧ b ≤ 100000 ∧ r.driver = d.id ∧ 0 ≤ r.served ∧ r.served ≤ r.stops.length ∧ good (fauR (drive m d os r.stops)) = true ∧ d.retired = false ∧ r.stops.length ≤ 78 := by
  unfold barP at h
  split at h
  · cases h
  · rename_i h1
    simp only [Bool.or_eq_true, Bool.not_eq_true', decide_eq_true_eq, not_or, askedP, Bool.and_eq_true, Bool.not_eq_false, Bool.not_not, Decidable.not_not] at h1
    split at h
    · cases h
    · rename_i h2
      split at h
      · cases h
      · rename_i h3
        split at h
        · cases h
        · rename_i h4
          obtain ⟨⟨⟨⟨⟨⟨a, b⟩, c⟩, e⟩, f⟩, g⟩, i⟩ := h1
          exact ⟨a, b, c, e, f, by omega, by omega, by simpa using h2, by simpa using h3, by omega⟩
theorem bestP_eq {m : Option MapD} {d : Driver} {os : List Order} {r : Route} {o : Order} {b : Int} (hm : MapOkO m) : bestP m d os r o b = rBestP m d os r o b := by
  unfold bestP rBestP
  by_cases h : barP m d os r o b = 0
  · rw [if_neg (by rw [h]; decide), if_neg (by rw [h]; decide)]
    cases m with
    | none => rfl
    | some x =>
      obtain ⟨a, b', c, e, f, g, i, j, k, l⟩ := bar_zero h
      dsimp only
      rw [best_eq ⟨hm x rfl, j, a, b', l⟩ g]
      rfl
  · rw [if_pos h, if_pos h]
/-- The routes that are looked along. -/
structure LookOk (m : MapD) (ds : List Driver) (os : List Order) (o : Order) (r : Route) : Prop where
  served : 0 ≤ r.served
  good : good (fauR (drive (some m) (fdD ds r.driver) os r.stops)) = true
end Go.Eng

/- Chapter 12's runs. -/
set_option linter.unusedVariables false
set_option linter.unusedSimpArgs false
namespace Go.Eng
open Go Go.Proofs
theorem isH_of {h : Hunt × Int} {s : Spot} {n e : Int} : isH h s n e = true ↔ ((hspot h.1).driver = s.driver ∧ (hspot h.1).pick = s.pick ∧ (hspot h.1).drop = s.drop ∧ (hspot h.1).cost = s.cost) ∧ h.1.steps = n ∧ h.2 = e := by
  unfold isH hspot
  rw [decide_eq_true_eq]
  dsimp only
  constructor <;> (intro h; simp only [h, and_self, true_and])
theorem lbest_gen (h : Hunt × Int) (s : Spot) (n e : Int) (P : Prop) (hP : P) : P ∧ ((decide ((hspot h.1).driver = s.driver) && (decide ((hspot h.1).pick = s.pick) && (decide ((hspot h.1).drop = s.drop) && (decide ((hspot h.1).cost = s.cost) && true)))) = true → (decide (h.1.steps = n) = true → decide (h.2 = e) = isH h s n e) ∧ (decide (h.1.steps = n) = !true → false = isH h s n e)) ∧
    ((decide ((hspot h.1).driver = s.driver) && (decide ((hspot h.1).pick = s.pick) && (decide ((hspot h.1).drop = s.drop) && (decide ((hspot h.1).cost = s.cost) && true)))) = !true → false = isH h s n e) := by
  have k := @isH_of h s n e
  refine ⟨hP, fun a => ⟨fun b => ?_, fun b => ?_⟩, fun a => ?_⟩ <;> cases q : isH h s n e <;> rw [q] at k <;> simp_all
theorem lbest_ok : lbest_vc := ⟨fun d os _ r _ o b s n e hm => lbest_gen _ _ _ _ _ hm, fun m _ d os _ r _ o b s n e hm => lbest_gen _ _ _ _ _ hm⟩
theorem lbest_t : Told Try.prog 22 lbest_con := lbest_told (csOk_cons ibest_t csOk_nil) lbest_ok
theorem insertRuns_ok : insertRuns_vc := by
  have hm : ∀ (x : MapD), some ⟨2, [0, 5, 7, 0]⟩ = some x → MapOk x := mapOkO_some (by decide)
  have b0 : isH (bestP (some ⟨2, [0, 5, 7, 0]⟩) ⟨4, 4, 1, 1, 30, false⟩ [] ⟨4, 0, []⟩ ⟨1, 3, 0, 2, 9, 1, 1, 0, 20, 2⟩ 9) ⟨4, 0, 0, 12⟩ 1 0 = true := by kernel_rfl
  have b1 : isH (bestP (some ⟨2, [0, 5, 7, 0]⟩) ⟨4, 4, 1, 1, 30, false⟩ [⟨1, 3, 0, 2, 9, 1, 1, 0, 20, 2⟩] ⟨4, 0, [⟨1, false⟩, ⟨1, true⟩]⟩ ⟨2, 1, 0, 0, 100, 1, 1, 0, 100, 2⟩ 9) ⟨4, 0, 1, 0⟩ 6 0 = true := by kernel_rfl
  have b2 : isH (bestP (some ⟨2, [0, 5, 7, 0]⟩) ⟨4, 4, 1, 1, 30, false⟩ [⟨1, 3, 0, 2, 9, 1, 1, 0, 20, 2⟩] ⟨4, 0, [⟨1, false⟩, ⟨1, true⟩]⟩ ⟨2, 1, 0, 0, 100, 1, 1, 0, 100, 2⟩ 2) ⟨4, 0, 1, 0⟩ 2 0 = true := by kernel_rfl
  have b3 : isH (bestP (some ⟨2, [0, 5, 7, 0]⟩) ⟨4, 4, 1, 1, 30, false⟩ [⟨1, 3, 0, 2, 9, 1, 1, 0, 20, 2⟩] ⟨4, 0, [⟨1, false⟩, ⟨1, true⟩]⟩ ⟨2, 1, 0, 0, 100, 1, 1, 0, 100, 2⟩ 1) ⟨0, 0, 0, 0⟩ 1 20 = true := by kernel_rfl
  have b4 : isH (bestP (some ⟨2, [0, 5, 7, 0]⟩) ⟨4, 4, 1, 1, 30, false⟩ [⟨1, 3, 0, 2, 9, 1, 1, 0, 20, 2⟩] ⟨4, 0, [⟨1, false⟩, ⟨1, true⟩]⟩ ⟨2, 1, 0, 0, 100, 1, 1, 0, 100, 2⟩ 0) ⟨0, 0, 0, 0⟩ 0 20 = true := by kernel_rfl
  have b5 : isH (bestP (some ⟨2, [0, 5, 7, 0]⟩) ⟨4, 4, 1, 1, 30, false⟩ [⟨1, 3, 0, 2, 9, 1, 1, 0, 20, 2⟩] ⟨4, 3, [⟨1, false⟩, ⟨1, true⟩]⟩ ⟨2, 1, 0, 0, 100, 1, 1, 0, 100, 2⟩ 9) ⟨0, 0, 0, 0⟩ 0 1 = true := by kernel_rfl
  have b6 : isH (bestP (some ⟨2, [0, 5, 7, 0]⟩) ⟨4, 4, 1, 1, 30, true⟩ [⟨1, 3, 0, 2, 9, 1, 1, 0, 20, 2⟩] ⟨4, 0, [⟨1, false⟩, ⟨1, true⟩]⟩ ⟨2, 1, 0, 0, 100, 1, 1, 0, 100, 2⟩ 9) ⟨0, 0, 0, 0⟩ 0 23 = true := by kernel_rfl
  have rA : rightP [⟨4, 0, [⟨1, false⟩, ⟨1, true⟩]⟩, ⟨5, 0, []⟩] = true := rightP_iff.2 ⟨by simp, by simp [okR, okR1, okS]⟩
  have kO : knownO (some ⟨2, [0, 5, 7, 0]⟩) [⟨1, 3, 0, 2, 9, 1, 1, 0, 20, 2⟩] = true := by kernel_rfl
  have d0 : okD (some ⟨2, [0, 5, 7, 0]⟩) [⟨4, 4, 1, 1, 30, false⟩, ⟨5, 4, 0, 1, 30, false⟩] 0 = true := by kernel_rfl
  have d1 : okD (some ⟨2, [0, 5, 7, 0]⟩) [⟨4, 4, 1, 1, 30, false⟩, ⟨5, 4, 0, 1, 30, false⟩] 1 = true := by kernel_rfl
  have dl : ∀ k, k < ([⟨4, 4, 1, 1, 30, false⟩, ⟨5, 4, 0, 1, 30, false⟩] : List Driver).length → okD (some ⟨2, [0, 5, 7, 0]⟩) [⟨4, 4, 1, 1, 30, false⟩, ⟨5, 4, 0, 1, 30, false⟩] k = true := fun k hk => by
    have : k = 0 ∨ k = 1 := by simp at hk; omega
    rcases this with rfl | rfl
    · exact d0
    · exact d1
  have w1 : wellP (some ⟨2, [0, 5, 7, 0]⟩) [⟨4, 4, 1, 1, 30, false⟩, ⟨5, 4, 0, 1, 30, false⟩] [⟨1, 3, 0, 2, 9, 1, 1, 0, 20, 2⟩] [⟨4, 0, [⟨1, false⟩, ⟨1, true⟩]⟩, ⟨5, 0, []⟩] = true := wellP_iff.2 ⟨rfl, by decide, kO, rA, dl⟩
  have g1 : good (cfauR (makeP (some ⟨2, [0, 5, 7, 0]⟩) [⟨4, 4, 1, 1, 30, false⟩, ⟨5, 4, 0, 1, 30, false⟩] [⟨1, 3, 0, 2, 9, 1, 1, 0, 20, 2⟩] [⟨4, 0, [⟨1, false⟩, ⟨1, true⟩]⟩, ⟨5, 0, []⟩])) = true := by
    simp only [makeP, w1, if_true]; kernel_rfl
  have a1 : askedP (some ⟨2, [0, 5, 7, 0]⟩) [⟨1, 3, 0, 2, 9, 1, 1, 0, 20, 2⟩] ⟨2, 1, 0, 0, 100, 1, 1, 0, 100, 2⟩ 100 = true := by kernel_rfl
  have c1 : cheapP (some ⟨2, [0, 5, 7, 0]⟩) [⟨4, 4, 1, 1, 30, false⟩, ⟨5, 4, 0, 1, 30, false⟩] [⟨1, 3, 0, 2, 9, 1, 1, 0, 20, 2⟩] [⟨4, 0, [⟨1, false⟩, ⟨1, true⟩]⟩, ⟨5, 0, []⟩] ⟨2, 1, 0, 0, 100, 1, 1, 0, 100, 2⟩ 100 = tellH (lookP (some ⟨2, [0, 5, 7, 0]⟩) [⟨4, 4, 1, 1, 30, false⟩, ⟨5, 4, 0, 1, 30, false⟩] [⟨1, 3, 0, 2, 9, 1, 1, 0, 20, 2⟩] [⟨4, 0, [⟨1, false⟩, ⟨1, true⟩]⟩, ⟨5, 0, []⟩] ⟨2, 1, 0, 0, 100, 1, 1, 0, 100, 2⟩ 100) := by
    unfold cheapP; rw [if_pos (by rw [g1, a1]; rfl)]
  have c2 : tellH (lookP (some ⟨2, [0, 5, 7, 0]⟩) [⟨4, 4, 1, 1, 30, false⟩, ⟨5, 4, 0, 1, 30, false⟩] [⟨1, 3, 0, 2, 9, 1, 1, 0, 20, 2⟩] [⟨4, 0, [⟨1, false⟩, ⟨1, true⟩]⟩, ⟨5, 0, []⟩] ⟨2, 1, 0, 0, 100, 1, 1, 0, 100, 2⟩ 100) = (⟨4, 0, 1, 0, true, 7⟩, 0) := by kernel_rfl
  rw [c2] at c1
  unfold insertRuns_vc
  simp only [bad_false, int0, nilOf, decide_eq_true_eq, decide_eq_false_iff_not, Bool.not_eq_true', Bool.not_eq_false', Bool.not_true, Bool.not_false, Bool.false_eq_true, Bool.true_eq_false, eq_self, true_and, and_true, false_or, or_false, false_implies, true_implies, implies_true, Int.not_lt, Int.not_le, gt_iff_lt, ge_iff_le, ne_eq, eq_true hm, b0, b1, b2, b3, b4, b5, b6, c1, hspot]
  simp
theorem insertRuns_t : Told Try.prog 5 yes_con := insertRuns_told (csOk_cons newC_t (csOk_cons lbest_t (csOk_cons cheap_t csOk_nil))) insertRuns_ok
end Go.Eng

/- The best place on a route: the document's own answer. -/
set_option linter.unusedVariables false
set_option linter.unusedSimpArgs false
namespace Go.Eng
open Go Go.Proofs
theorem oneR_ok : oneR_vc := by
  unfold oneR_vc
  intro p hp at'
  have hpl := hp.1.le
  refine ⟨fun h => ?_, fun h => ?_⟩
  · have h0 : p.length = 0 := by have := of_decide_eq_true h; omega
    have e : oneP p at' = ⟨0, 0, []⟩ := by unfold oneP; rw [if_pos h0]
    rw [e]
    exact ⟨⟨rfl, rfl⟩, rfl⟩
  · have h0 : ¬ p.length = 0 := by have := of_decide_eq_false h; omega
    have w1 : wrap ((p.length : Int) - 1) = (p.length : Int) - 1 := wrap_id (by omega) (by omega)
    have e : oneP p at' = p.getD (bwithin at' 0 ((p.length : Int) - 1)).toNat ⟨0, 0, []⟩ := by unfold oneP; rw [if_neg h0]
    have hb := @bwithin_bound at' 0 ((p.length : Int) - 1) (by omega)
    rw [w1, e]
    exact ⟨⟨by omega, Int.le_refl _, by omega⟩, ⟨hb.1, by omega⟩, by omega, ⟨rfl, rfl⟩, rfl⟩
theorem oneR_t : Told Try.prog 11 oneR_con := oneR_told (csOk_cons bWithin_t csOk_nil) oneR_ok
theorem insertBest_ok : insertBest_vc := by
  unfold insertBest_vc
  intro w hwl o at' who b hg
  have hz : w.plan.length * 40 ≤ 140737488351232 ∧ ∀ (r : Route), List.Mem r w.plan → r.stops.length * 16 ≤ 140737488351232 := by
    have := hg.is.1.2
    simp only [AV.szd, SK.enc, List.forall_mem_cons] at this
    exact this.2.2.2.2.1
  have sp : sameP w.plan w.plan = true := sameP_iff.2 rfl
  have key : ∀ (m : Option MapD), MapOkO m → ∀ d r, bestP m d w.orders r o b = rBestP m d w.orders r o b := fun m hm d r => bestP_eq hm
  refine ⟨fun h => ⟨fun q => (by cases q), fun _ => ⟨hz, mapOkO_none, mapOkO_none, ?_⟩⟩, fun h => ⟨fun q => (by cases q), fun _ => ⟨hz, mapOkO_some h, mapOkO_some h, ?_⟩⟩⟩
  · rw [key none mapOkO_none, sp]; simp
  · rw [key _ (mapOkO_some h), sp]; simp
theorem insertBest_t : Told Try.prog 6 insertBest_con := insertBest_told (csOk_cons maps_t (csOk_cons kcopy_t (csOk_cons oneR_t (csOk_cons wDriver_t (csOk_cons ibest_t (csOk_cons rbest_t (csOk_cons kroutes_t (csOk_cons insertRuns_t csOk_nil)))))))) insertBest_ok
end Go.Eng
