/- The order put where it is told to be cheapest. -/
import Derived.Test.YtennnnifppichaaZ2LawInsertFits
set_option linter.unusedVariables false
set_option linter.unusedSimpArgs false
namespace Go.Eng
open Go Go.Proofs
theorem huntGo_inv {id : Int} {pr : Int → Int → Int × Bool} {b : Int} {Q : Hunt → Prop} : ∀ (l : List (Int × Int)) (h : Hunt), Q h → (∀ h p, p ∈ l → Q h → Q (huntStep id pr h p)) → Q (huntGo id pr b l h)
  | [], _, q, _ => q
  | p :: l, h, q, hs => by
    rw [huntGo]
    split
    · exact q
    · exact huntGo_inv l _ (hs h p (by simp) q) fun h' p' hp' => hs h' p' (by simp [hp'])
/-- Where what was found stands. -/
structure FoundAt (m : MapD) (ds : List Driver) (os : List Order) (o : Order) (h : Hunt) (r : Route) (d : Driver) : Prop where
  ok : RouteOk m ds os r d
  closed : closedTo d r = false
  driver : h.driver = d.id
  at' : r.served ≤ h.pick ∧ h.pick ≤ h.drop ∧ h.drop ≤ r.stops.length
  price : alongPr m d os r.stops o h.pick h.drop = (h.cost, true)
def SrcH (m : MapD) (ds : List Driver) (os : List Order) (o : Order) (P : List Route) (h : Hunt) : Prop := h.found = true → ∃ r ∈ P, ∃ d, FoundAt m ds os o h r d
theorem look_src {m : MapD} {ds : List Driver} {os : List Order} {o : Order} {b : Int} {P : List Route} (hP : ∀ r ∈ P, ∃ d, RouteOk m ds os r d) : ∀ (p : List Route) (h : Hunt), (∀ r ∈ p, r ∈ P) → SrcH m ds os o P h → SrcH m ds os o P (rlookGo m ds os o b p h)
  | [], _, _, hs => hs
  | r :: p, h, hp, hs => by
    rw [rlookGo]
    by_cases q : closedTo (fdD ds r.driver) r = true
    · rw [if_pos q]; exact look_src hP p h (fun x hx => hp x (by simp [hx])) hs
    · rw [if_neg q]
      refine look_src hP p _ (fun x hx => hp x (by simp [hx])) ?_
      obtain ⟨d, hd⟩ := hP r (hp r (by simp))
      rw [hd.fd] at q ⊢
      refine huntGo_inv (Q := SrcH m ds os o P) _ h hs fun h' pl hpl hs' => ?_
      have hm := places_mem hpl
      unfold huntStep
      split
      · rename_i hc
        rw [Bool.and_eq_true] at hc
        intro _
        exact ⟨r, hp r (by simp), d, hd, by simpa using q, rfl, hm, Prod.ext rfl hc.1⟩
      · intro q
        obtain ⟨r1, hr1, d1, f1, f2, f3, f4, f5⟩ := hs' q
        exact ⟨r1, hr1, d1, f1, f2, f3, f4, f5⟩
theorem drive_add {m : MapD} {d : Driver} {os : List Order} {o : Order} : ∀ (l ah : List Stop) (p : Pos), (∀ s ∈ l, (findO os s.order).isSome = true) → driveGo m d (os ++ [o]) ah l p = driveGo m d os ah l p
  | [], _, _, _ => by rw [driveGo, driveGo]
  | s :: l, ah, p, h => by
    have hs := h s (by simp)
    have hf : findO (os ++ [o]) s.order = findO os s.order := by rw [findO_add, if_pos hs]
    have e1 : fo (os ++ [o]) s.order = fo os s.order := by unfold fo; rw [hf]
    have e2 : tryStop m d (os ++ [o]) ah s p = tryStop m d os ah s p := by
      unfold tryStop wrongE loadOf stopSite; rw [hf, e1]
    rw [driveGo, driveGo, e2]
    cases tryStop m d os ah s p with
    | error e => rfl
    | ok v =>
      have e3 : after (os ++ [o]) s v = after os s v := by unfold after stopSite; rw [e1]
      dsimp only
      rw [e3, drive_add l _ _ fun x hx => h x (by simp [hx])]
theorem way_add {m : MapD} {os : List Order} {o : Order} : ∀ (l : List Stop) (a : Int), (∀ s ∈ l, (findO os s.order).isSome = true) → wayGo m (os ++ [o]) a l = wayGo m os a l
  | [], _, _ => rfl
  | s :: l, a, h => by
    have hs := h s (by simp)
    have e1 : fo (os ++ [o]) s.order = fo os s.order := by unfold fo; rw [findO_add, if_pos hs]
    have e2 : stopSite (os ++ [o]) s = stopSite os s := by unfold stopSite; rw [e1]
    rw [wayGo, wayGo, e2, way_add l _ fun x hx => h x (by simp [hx])]
theorem good_known {m : MapD} {d : Driver} {os : List Order} {ss : List Stop} (hg : good (fauR (drive (some m) d os ss)) = true) : ∀ s ∈ ss, (findO os s.order).isSome = true := by
  obtain ⟨x, vs, hx, hfit, hT, hD⟩ := drive_good hg
  injection hx with hx
  subst hx
  exact rightGo_known _ _ (driveGo_right _ _ _ _ hT)
theorem good_add {m : MapD} {d : Driver} {os : List Order} {o : Order} {ss : List Stop} (hk : knownO (some m) (os ++ [o]) = true) (hg : good (fauR (drive (some m) d os ss)) = true) : good (fauR (drive (some m) d (os ++ [o]) ss)) = true ∧ cost (some m) d (os ++ [o]) ss = cost (some m) d os ss := by
  have hkn := good_known hg
  have hg0 := hg
  obtain ⟨x, vs, hx, hfit, hT, hD⟩ := drive_good hg
  injection hx with hx
  subst hx
  obtain ⟨f1, f2, f3⟩ := fitB_iff.1 hfit
  have hg' : good (fauR (drive (some m) d (os ++ [o]) ss)) = true := by
    rw [drive_fit (fitB_iff.2 ⟨f1, hk, f3⟩)]
    unfold driveT at hT ⊢
    rw [drive_add ss _ _ hkn, hT]; rfl
  refine ⟨hg', ?_⟩
  rw [cost_good hg', cost_good hg0]
  unfold way
  rw [way_add ss _ hkn]
def putR (id : Int) (s : Spot) (r : Route) : Route := if r.driver = s.driver then ⟨r.driver, r.served, putS r.stops id s.pick s.drop⟩ else r
theorem with_map {id : Int} {s : Spot} : ∀ {p : List Route} {last : Int} {all : List Stop}, okR last all p → (∃ r ∈ p, r.driver = s.driver ∧ spotOk r s = true) → withAt id s p = some (p.map (putR id s))
  | [], _, _, _, h => by obtain ⟨r, hr, _⟩ := h; cases hr
  | a :: l, last, all, hok, h => by
    rw [withAt]
    obtain ⟨r, hr, h1, h2⟩ := h
    by_cases q : a.driver = s.driver
    · have hra : r = a := by
        rcases List.mem_cons.1 hr with e | e
        · exact e
        · have := (okR_mem hok.2.2 r e).1; omega
      subst hra
      have hl : l.map (putR id s) = l := by
        conv => rhs; rw [← List.map_id l]
        refine List.map_congr_left fun x hx => ?_
        have := (okR_mem hok.2.2 x hx).1
        unfold putR
        rw [if_neg (by omega)]; rfl
      rw [if_pos q, if_pos h2, List.map_cons, hl]
      unfold putR
      rw [if_pos q]
    · have hrl : r ∈ l := by
        rcases List.mem_cons.1 hr with e | e
        · subst e; exact absurd h1 q
        · exact e
      rw [if_neg q, with_map hok.2.2 ⟨r, hrl, h1, h2⟩, List.map_cons]
      have : putR id s a = a := by unfold putR; rw [if_neg q]
      rw [this]
theorem findP_new {id : Int} : ∀ {p : List Route}, (∀ r ∈ p, ∀ s ∈ r.stops, s.order ≠ id) → findP id p = none
  | [], _ => rfl
  | r :: l, h => by
    have no : ∀ b, whereS ⟨id, b⟩ r.stops < 0 := fun b => whereS_iff.1.2 (by
      cases q : stands r.stops ⟨id, b⟩ with
      | false => rfl
      | true => exact absurd rfl (h r (by simp) _ (stands_iff.1 q)))
    have n1 := no false
    have n2 := no true
    rw [findP, if_neg (by simp only [spotAt]; omega)]
    exact findP_new fun x hx => h x (by simp [hx])
theorem go_good {m : MapD} {ds : List Driver} {os : List Order} : ∀ (p : List Route) (i : Nat), (∀ r ∈ p, ∃ d, findD r.driver ds = some d ∧ good (fauR (drive (some m) d os r.stops)) = true) → good (cfauR (makeGo m ds os i p)) = true
  | [], _, _ => rfl
  | r :: l, i, h => by
    obtain ⟨d, h1, h2⟩ := h r (by simp)
    obtain ⟨x, vs, hx, hfit, hT, hD⟩ := drive_good h2
    have ih := go_good l (i + 1) fun x hx => h x (by simp [hx])
    rw [makeGo, h1]
    dsimp only
    rw [hD]
    dsimp only
    cases hq : makeGo m ds os (i + 1) l with
    | ok v => rfl
    | error f => rw [hq] at ih; exact ih
/-- All that is asked of the plan with the order in it. -/
structure FitAll (m : MapD) (ds : List Driver) (os : List Order) (o : Order) (p : List Route) (h : Hunt) : Prop where
  few : os.length < 40
  is : withP p o.id (hspot h) = some (p.map (putR o.id (hspot h)))
  good : good (cfauR (makeP (some m) ds (os ++ [o]) (p.map (putR o.id (hspot h))))) = true
  each : ∀ r ∈ p, ∃ d, RouteOk m ds os r d ∧ (cost (some m) d os r.stops).2 = true ∧ (cost (some m) d (os ++ [o]) (putR o.id (hspot h) r).stops).2 = true ∧
    (r.driver = h.driver → d.retired = false ∧ wrap ((cost (some m) d (os ++ [o]) (putR o.id (hspot h) r).stops).1 - (cost (some m) d os r.stops).1) = h.cost) ∧
    (r.driver ≠ h.driver → (cost (some m) d os r.stops).1 = (cost (some m) d (os ++ [o]) (putR o.id (hspot h) r).stops).1)
theorem put_driver {id : Int} {s : Spot} {r : Route} : (putR id s r).driver = r.driver := by unfold putR; split <;> rfl
theorem fit_all {m : MapD} {ds : List Driver} {os : List Order} {p : List Route} {o : Order} {b : Int} {h : Hunt} (hm : MapOk m) (hg : Go.Eng.good (cfauR (makeP (some m) ds os p)) = true) (ha : askedP (some m) os o b = true)
    (hl : rlookP (some m) ds os p o b = h) (hf : h.found = true) : FitAll m ds os o p h := by
  obtain ⟨a1, a2, a3, a4⟩ := asked_iff.1 ha
  have hr := make_route hg
  have hsrc : SrcH m ds os o p h := by rw [← hl]; exact look_src hr p hz (fun _ q => q) (fun q => (by cases q))
  obtain ⟨x, hx, hwell, hgo⟩ := good_make hg
  injection hx with hx
  subst hx
  obtain ⟨_, hd8, hk, hRp, hu⟩ := wellP_iff.1 hwell
  have hR := rightP_iff.1 hRp
  obtain ⟨r0, hr0, d0, hF⟩ := hsrc hf
  have hdr : r0.driver = h.driver := by rw [hF.driver, hF.ok.id]
  have hcost : cost (some m) d0 (os ++ [o]) (putS r0.stops o.id h.pick h.drop) = ((cost (some m) d0 (os ++ [o]) (putS r0.stops o.id h.pick h.drop)).1, true) := Prod.ext rfl (by have := congrArg Prod.snd hF.price; exact this)
  have hgp : Go.Eng.good (fauR (drive (some m) d0 (os ++ [o]) (putS r0.stops o.id h.pick h.drop))) = true := by
    cases q : Go.Eng.good (fauR (drive (some m) d0 (os ++ [o]) (putS r0.stops o.id h.pick h.drop))) with
    | true => rfl
    | false => rw [cost_bad q] at hcost; cases hcost
  have hk' := (fitB_iff.1 (by obtain ⟨x, vs, hx, hfit, _⟩ := drive_good hgp; exact hfit)).2.1
  have hcl := hF.closed
  simp only [closedTo, Bool.or_eq_false_iff, decide_eq_false_iff_not] at hcl
  have hsp : spotOk r0 (hspot h) = true := by
    have := hF.at'
    have h78 : r0.stops.length ≤ 78 := by omega
    simp [spotOk, hspot, h78, this.1, this.2.1, this.2.2]
  have hwa : withAt o.id (hspot h) p = some (p.map (putR o.id (hspot h))) := with_map hR.2 ⟨r0, hr0, hdr, hsp⟩
  have hoid := (orderE_ok a1).id
  have hnew : findP o.id p = none := findP_new fun r hr' s hs q => by
    obtain ⟨d, hd⟩ := hr r hr'
    have := good_known hd.good s hs
    rw [q, a2] at this; cases this
  have hw : withP p o.id (hspot h) = some (p.map (putR o.id (hspot h))) := by
    unfold withP
    rw [if_pos (by simp [hRp, hoid, hnew]), hwa]
  have huniq : ∀ r ∈ p, r.driver = h.driver → r = r0 := fun r hr' q => by
    have e1 := routed_self hR.2 r hr'
    have e2 := routed_self hR.2 r0 hr0
    rw [q] at e1; rw [hdr, e1] at e2
    injection e2
  have heach : ∀ r ∈ p, ∃ d, RouteOk m ds os r d ∧ Go.Eng.good (fauR (drive (some m) d (os ++ [o]) (putR o.id (hspot h) r).stops)) = true ∧
      (r.driver = h.driver → r = r0 ∧ d = d0) ∧ (r.driver ≠ h.driver → putR o.id (hspot h) r = r) := by
    intro r hr'
    obtain ⟨d, hd⟩ := hr r hr'
    by_cases q : r.driver = h.driver
    · have e := huniq r hr' q
      subst e
      have ed : d = d0 := by have := hd.fd; rw [hF.ok.fd] at this; exact this.symm
      subst ed
      refine ⟨d, hd, ?_, fun _ => ⟨rfl, rfl⟩, fun z => absurd q z⟩
      have e3 : (putR o.id (hspot h) r).stops = putS r.stops o.id h.pick h.drop := by
        unfold putR; rw [if_pos (show r.driver = (hspot h).driver from q)]; rfl
      rw [e3]; exact hgp
    · have e3 : putR o.id (hspot h) r = r := by unfold putR; rw [if_neg (show ¬ r.driver = (hspot h).driver from q)]
      refine ⟨d, hd, ?_, fun z => absurd z q, fun _ => e3⟩
      rw [e3]; exact (good_add hk' hd.good).1
  refine ⟨(known_add hk a1 a2).1 hk', hw, ?_, fun r hr' => ?_⟩
  · have hRx := (with_right hw).2.1
    have hwx : wellP (some m) ds (os ++ [o]) (p.map (putR o.id (hspot h))) = true := wellP_iff.2 ⟨rfl, hd8, hk', rightP_iff.2 hRx, hu⟩
    unfold makeP
    dsimp only
    rw [if_pos hwx]
    refine go_good _ 0 fun x hx => ?_
    obtain ⟨r, hr', rfl⟩ := List.mem_map.1 hx
    obtain ⟨d, hd, hgd, _⟩ := heach r hr'
    exact ⟨d, by rw [put_driver]; exact hd.find, hgd⟩
  · obtain ⟨d, hd, hgd, h1, h2⟩ := heach r hr'
    refine ⟨d, hd, by rw [cost_good hd.good], by rw [cost_good hgd], fun q => ?_, fun q => ?_⟩
    · obtain ⟨e1, e2⟩ := h1 q
      subst e1 e2
      refine ⟨hcl.1, ?_⟩
      have e3 : (putR o.id (hspot h) r).stops = putS r.stops o.id h.pick h.drop := by
        unfold putR; rw [if_pos (show r.driver = (hspot h).driver from q)]; rfl
      rw [e3]
      exact congrArg Prod.fst hF.price
    · have e3 := h2 q
      rw [e3, (good_add hk' hd.good).2]
theorem findD_app {id : Int} {D : Driver} : ∀ {A B : List Driver}, findD id A = none → D.id = id → findD id (A ++ D :: B) = some D
  | [], _, _, h => by rw [List.nil_append, findD, if_pos h]
  | a :: A, B, h, e => by
    rw [findD] at h
    split at h
    · cases h
    · rename_i q
      rw [List.cons_append, findD, if_neg q, findD_app h e]
theorem findD_at {m : Option MapD} {ds : List Driver} (h : ∀ k, k < ds.length → okD m ds k = true) {k : Nat} (hk : k < ds.length) : findD (ds.getD k (FK.zero .driver)).id ds = some (ds.getD k (FK.zero .driver)) := by
  have e : ds = ds.take k ++ ds.getD k (FK.zero .driver) :: ds.drop (k + 1) := by
    conv => lhs; rw [← List.take_append_drop k ds]
    rw [drop_at (FK.zero .driver) hk]
  have h1 := (okD_iff.1 (h k hk)).2
  generalize ds.getD k (FK.zero .driver) = D at *
  rw [e]
  exact findD_app h1 rfl
theorem getD_map {α β : Type} {f : α → β} {l : List α} {k : Nat} {a : α} {b : β} (hk : k < l.length) : (l.map f).getD k b = f (l.getD k a) := by
  simp [List.getD, hk]
theorem insertFits_ok : insertFits_vc := by
  unfold insertFits_vc
  simp only [bad_false, int0, nilOf, decide_eq_true_eq, decide_eq_false_iff_not, Bool.not_eq_true', Bool.not_eq_false', Bool.not_true, Bool.not_false, Bool.false_eq_true, Bool.true_eq_false, eq_self, true_and, and_true, false_or, or_false, false_implies, true_implies, implies_true, Int.not_lt, Int.not_le, gt_iff_lt, ge_iff_le, ne_eq]
  intro w hwl o hg
  have hpl := hwl.2.2.2.1.le
  have hdl := hwl.2.1.le
  refine ⟨fun h => ?_, fun h => ?_⟩
  · have e : cheapP none w.drivers w.orders w.plan o 100000 = (hz, 1) := rfl
    rw [e]
    refine ⟨mapOkO_none, ?_, fun q => (by cases q)⟩
    simp [hz, hspot]
  · have hm := mapOkO_some h
    generalize MapD.mk w.n w.times = m at *
    have hmm := hm m rfl
    rw [cheapP_eq hm]
    unfold rcheapP
    by_cases hgood : (good (cfauR (makeP (some m) w.drivers w.orders w.plan)) && askedP (some m) w.orders o 100000) = true
    · rw [if_pos hgood]
      rw [Bool.and_eq_true] at hgood
      generalize hl : rlookP (some m) w.drivers w.orders w.plan o 100000 = h
      cases hf : h.found with
      | false =>
        rw [tell_no hf]
        refine ⟨hm, ?_, fun q => (by cases q)⟩
        simp [hspot]
      | true =>
        rw [tell_yes hf]
        obtain ⟨f1, f2, f3, f4⟩ := fit_all hmm hgood.1 hgood.2 hl hf
        rw [f2]
        refine ⟨hm, fun q => absurd rfl q, fun _ => ?_⟩
        have hos : w.orders.length < 40 := f1
        have hu : ∀ k, k < w.drivers.length → okD (some m) w.drivers k = true := by
          obtain ⟨x, hx, hwell, _⟩ := good_make hgood.1
          injection hx with hx
          subst hx
          exact (wellP_iff.1 hwell).2.2.2.2
        have hS : (hspot h).driver = h.driver ∧ (hspot h).cost = h.cost := ⟨rfl, rfl⟩
        generalize hspot h = S at *
        simp only [Option.getD_some, List.nil_append, List.length_map, Option.isSome_some, List.length_singleton]
        refine ⟨by omega, by omega, hm, fun _ => ⟨fun _ => ⟨fun q => absurd trivial q, fun _ => ?_⟩, fun q => (by rw [f3] at q; cases q)⟩, fun q => (by cases q)⟩
        refine ⟨fun i _ => 0 ≤ i ∧ i ≤ w.plan.length, fun i _ => w.plan.length - i.toNat, ⟨by omega, by omega⟩, fun i _ hI hi => ⟨fun k => 0 ≤ k ∧ k ≤ w.drivers.length, fun k => w.drivers.length - k.toNat, ⟨by omega, by omega⟩, fun k hJ => ⟨fun hk => ?_, fun hk => ?_⟩⟩⟩
        · have hil : i.toNat < w.plan.length := by omega
          have hkl : k.toNat < w.drivers.length := by omega
          have w2 : wrap (k + 1) = k + 1 := wrap_id (by omega) (by omega)
          have next : (0 ≤ wrap (k + 1) ∧ wrap (k + 1) ≤ w.drivers.length) ∧ w.drivers.length - (wrap (k + 1)).toNat < w.drivers.length - k.toNat := by rw [w2]; omega
          have hrm := getD_mem (⟨0, 0, []⟩ : Route) hil
          rw [getD_map (a := (⟨0, 0, []⟩ : Route)) hil]
          have hfk := findD_at hu hkl
          generalize w.plan.getD i.toNat ⟨0, 0, []⟩ = r at *
          generalize w.drivers.getD k.toNat (FK.zero .driver) = D at *
          rw [put_driver]
          refine ⟨⟨hJ.1, hk⟩, hkl, ⟨hI.1, hi⟩, hil, fun _ => next, fun heq => ?_⟩
          obtain ⟨d, g1, g2, g3, g4, g5⟩ := f4 r hrm
          have ed : D = d := by rw [heq, g1.find] at hfk; injection hfk with e; exact e.symm
          subst ed
          refine ⟨⟨hJ.1, hk⟩, hkl, ⟨hI.1, hi⟩, hil, hm, ⟨hJ.1, hk⟩, hkl, ⟨hI.1, hi⟩, hil, hm, ?_⟩
          have nx : (0 ≤ i ∧ i < w.plan.length) ∧ i.toNat < w.plan.length := ⟨⟨hI.1, hi⟩, hil⟩
          have no : ∀ {b : Bool}, b = true → b = false → False := fun a b => by rw [a] at b; cases b
          rw [hS.1, hS.2]
          refine ⟨fun _ => ⟨fun _ => ⟨nx.1, nx.2, fun q => ⟨fun _ => ⟨⟨hJ.1, hk⟩, hkl, fun _ => ⟨nx.1, nx.2, fun z => absurd q z, fun _ => next⟩, fun z => no z (g4 q).1⟩, fun z => z (g4 q).2⟩, fun q => ⟨nx.1, nx.2, fun _ => ⟨fun z => z (g5 q), fun _ => next⟩, fun z => absurd z q⟩⟩, no g3⟩, no g2⟩
        · have w1 : wrap (i + 1) = i + 1 := wrap_id (by omega) (by omega)
          rw [w1]
          exact ⟨⟨by omega, by omega⟩, by dsimp only; omega⟩
    · rw [if_neg hgood]
      refine ⟨hm, ?_, fun q => (by cases q)⟩
      simp [hz, hspot]
theorem insertFits_t : Told Try.prog 4 insertFits_con := insertFits_told (csOk_cons maps_t (csOk_cons cheap_t (csOk_cons insertRuns_t (csOk_cons pwith_t (csOk_cons cmake_t (csOk_cons goodF_t (csOk_cons cost_t csOk_nil))))))) insertFits_ok
end Go.Eng
