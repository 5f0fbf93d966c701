/- A stop's Window begun later: all can be made just up to its latest time. Plain words. -/
import Derived.Test.YtindbdefjandkaaSlackOk
import Derived.Test.YtindbdefjandkaaRouteMono
import Derived.Test.YtindbdefjandkaaRouteApart
import Derived.Test.YtindbdefjandkaaRouteSoon
set_option linter.unusedVariables false
set_option linter.unusedSimpArgs false
namespace Go.Eng
open Go Go.Proofs
/-- Sites that are driven to one behind the other are all reached in time. -/
def tRun (m : MapD) (hi : Int) : List Site → Int → Int → Prop
  | [], _, _ => True
  | s :: l, a, now => ∃ b, served m a now s hi = some b ∧ tRun m hi l s.pl b.2
def untilS (m : MapD) (hi : Int) (s : Site) : List Site → List Int → Int
  | n :: _, t :: _ => min hi (t - tm m s.pl n.pl)
  | _, _ => hi
def latS (m : MapD) (hi : Int) : List Site → List Int
  | [] => []
  | s :: l => (last_ s.win s.sv (untilS m hi s l (latS m hi l))).1 :: latS m hi l
theorem latest_sites {m : MapD} {d : Driver} {os : List Order} : ∀ l : List Stop, latest m d os l = latS m d.hi (l.map (stopSite os))
  | [] => rfl
  | s :: l => by
    have ih := latest_sites (m := m) (d := d) (os := os) l
    have hu : ∀ L : List Int, untilOf m d os s l L = untilS m d.hi (stopSite os s) (l.map (stopSite os)) L := fun L => by
      cases l <;> cases L <;> rfl
    show (last_ (stopSite os s).win (stopSite os s).sv (untilOf m d os s l (latest m d os l))).1 :: latest m d os l = (last_ (stopSite os s).win (stopSite os s).sv (untilS m d.hi (stopSite os s) (l.map (stopSite os)) (latS m d.hi (l.map (stopSite os))))).1 :: latS m d.hi (l.map (stopSite os))
    rw [hu, ih]
structure SOk (s : Site) : Prop where
  win : 0 ≤ s.lo ∧ s.lo ≤ s.hi ∧ s.hi ≤ 1000000
  sv : 0 ≤ s.sv ∧ s.sv ≤ 1000000
/-- None is too late whatever. -/
def Val (m : MapD) (hi : Int) : List Site → Prop
  | [] => True
  | s :: l => s.lo ≤ untilS m hi s l (latS m hi l) - s.sv ∧ Val m hi l
def first (m : MapD) (hi : Int) (s : Site) (l : List Site) : Int := (last_ s.win s.sv (untilS m hi s l (latS m hi l))).1
theorem first_bound {m : MapD} {hi : Int} {s : Site} {l : List Site} : 0 ≤ first m hi s l ∧ first m hi s l ≤ 1000000 := last_bound _ _ _
theorem untilS_bound {m : MapD} {hi : Int} {s : Site} {l : List Site} (hm : MapOk m) (hh : 0 ≤ hi ∧ hi ≤ 1000000) : -1000000 ≤ untilS m hi s l (latS m hi l) ∧ untilS m hi s l (latS m hi l) ≤ 1000000 := by
  cases l with
  | nil => exact ⟨by show -1000000 ≤ hi; omega, hh.2⟩
  | cons n l =>
    have h1 := first_bound (m := m) (hi := hi) (s := n) (l := l)
    have h2 := tm_bound hm s.pl n.pl
    show -1000000 ≤ min hi (first m hi n l - tm m s.pl n.pl) ∧ min hi (first m hi n l - tm m s.pl n.pl) ≤ 1000000
    omega
theorem first_val {m : MapD} {hi : Int} {s : Site} {l : List Site} (hm : MapOk m) (hh : 0 ≤ hi ∧ hi ≤ 1000000) (hs : SOk s) (hv : s.lo ≤ untilS m hi s l (latS m hi l) - s.sv) : first m hi s l = min s.hi (untilS m hi s l (latS m hi l) - s.sv) := by
  have hb := untilS_bound (s := s) (l := l) hm hh
  have hw := hs.win
  have hsv := hs.sv
  unfold first last_
  rw [wrap_id (by omega) (by omega), if_pos]
  · rfl
  · simp only [Bool.and_eq_true, decide_eq_true_eq]
    exact ⟨⟨⟨right_iff.2 hw, by omega⟩, by omega⟩, hv⟩
theorem run_first {m : MapD} {hi : Int} (hm : MapOk m) (hh : 0 ≤ hi ∧ hi ≤ 1000000) : ∀ (l : List Site) (s : Site) (b : Int), (∀ x ∈ s :: l, SOk x) → Val m hi (s :: l) → s.lo ≤ b → b ≤ s.hi → ((b + s.sv ≤ hi ∧ tRun m hi l s.pl (b + s.sv)) ↔ b ≤ first m hi s l)
  | [], s, b, hs, hv, h1, h2 => by
    have hss := hs s (List.mem_cons_self ..)
    rw [first_val hm hh hss hv.1]
    show (b + s.sv ≤ hi ∧ True) ↔ b ≤ min s.hi (hi - s.sv)
    have : (b + s.sv ≤ hi ∧ True) ↔ b + s.sv ≤ hi := ⟨fun h => h.1, fun h => ⟨h, trivial⟩⟩
    rw [this]
    omega
  | n :: l, s, b, hs, hv, h1, h2 => by
    have hss := hs s (List.mem_cons_self ..)
    have hn := hs n (List.mem_cons_of_mem _ (List.mem_cons_self ..))
    have ih := run_first hm hh l n
    have hvn : Val m hi (n :: l) := hv.2
    have hfn := first_val hm hh hn hvn.1
    have hfs := first_val hm hh hss hv.1
    have hu : untilS m hi s (n :: l) (latS m hi (n :: l)) = min hi (first m hi n l - tm m s.pl n.pl) := rfl
    rw [hfs, hu]
    have nw := hn.win
    have hvn1 := hvn.1
    have key : tRun m hi (n :: l) s.pl (b + s.sv) ↔ b + s.sv + tm m s.pl n.pl ≤ first m hi n l := by
      constructor
      · rintro ⟨c, hc, hr⟩
        obtain ⟨_, c2, c3, c4, c5⟩ := served_spec hc
        have := (ih c.1 (fun x hx => hs x (List.mem_cons_of_mem _ hx)) hvn (by omega) (by omega)).1 ⟨by omega, by rw [← c4]; exact hr⟩
        omega
      · intro h
        have hle : b + s.sv + tm m s.pl n.pl ≤ n.hi := by omega
        have := (ih (max (b + s.sv + tm m s.pl n.pl) n.lo) (fun x hx => hs x (List.mem_cons_of_mem _ hx)) hvn (by omega) (by omega)).2 (by omega)
        exact ⟨_, served_by nw hle this.1, this.2⟩
    rw [key]
    omega
theorem run_val {m : MapD} {hi : Int} (hm : MapOk m) (hh : 0 ≤ hi ∧ hi ≤ 1000000) : ∀ (l : List Site) (s : Site) (b : Int), (∀ x ∈ s :: l, SOk x) → s.lo ≤ b → b + s.sv ≤ hi → tRun m hi l s.pl (b + s.sv) → Val m hi (s :: l)
  | [], s, b, hs, h1, h2, _ => ⟨by show s.lo ≤ hi - s.sv; omega, trivial⟩
  | n :: l, s, b, hs, h1, h2, hr => by
    obtain ⟨c, hc, hr⟩ := hr
    obtain ⟨nw, c2, c3, c4, c5⟩ := served_spec hc
    have hn : ∀ x ∈ n :: l, SOk x := fun x hx => hs x (List.mem_cons_of_mem _ hx)
    rw [c4] at hr
    have hv := run_val hm hh l n c.1 hn (by omega) (by omega) hr
    have hf := (run_first hm hh l n c.1 hn hv (by omega) (by omega)).1 ⟨by omega, hr⟩
    refine ⟨?_, hv⟩
    show s.lo ≤ min hi (first m hi n l - tm m s.pl n.pl) - s.sv
    omega

/-! ### The drive -/
theorem driveGo_next {m : MapD} {d : Driver} {os : List Order} {ahead l : List Stop} {s : Stop} {p : Pos} {xs : List Visit} (h : driveGo m d os ahead (s :: l) p = .ok xs) : ∃ v ys, xs = v :: ys ∧ tryStop m d os ahead s p = .ok v ∧ driveGo m d os (ahead ++ [s]) l (after os s v) = .ok ys := by
  unfold driveGo at h
  split at h
  · cases h
  · rename_i v hv
    split at h
    · cases h
    · rename_i ys hys
      injection h with h
      exact ⟨v, ys, h.symm, hv, hys⟩
theorem go_run {m : MapD} {d : Driver} {os os' : List Order} (hw : ∀ ahead s, wrongE os' ahead s = wrongE os ahead s) (hld : ∀ s n, loadOf os' s n = loadOf os s n) : ∀ (l ahead : List Stop) (p : Pos) (vs : List Visit), driveGo m d os ahead l p = .ok vs → ∀ a now : Int,
    ((∃ ws, driveGo m d os' ahead l ⟨now, a, p.load⟩ = .ok ws) ↔ tRun m d.hi (l.map (stopSite os')) a now)
  | [], ahead, p, vs, h, a, now => by
    unfold driveGo at h
    split at h
    · cases h
    · rename_i hl
      refine ⟨fun _ => trivial, fun _ => ⟨[], ?_⟩⟩
      unfold driveGo
      rw [if_neg hl]
  | s :: l, ahead, p, vs, h, a, now => by
    obtain ⟨v, ys, _, hv, hr⟩ := driveGo_next h
    obtain ⟨w1, w2, b, hb, rfl⟩ := tryStop_ok hv
    have ih := go_run hw hld l (ahead ++ [s]) _ ys hr (stopSite os' s).pl
    constructor
    · rintro ⟨ws, h'⟩
      obtain ⟨v', ys', _, hv', hr'⟩ := driveGo_next h'
      obtain ⟨_, _, c, hc, rfl⟩ := tryStop_ok hv'
      refine ⟨c, hc, (ih c.2).1 ⟨ys', ?_⟩⟩
      have e : after os' s ⟨s.order, s.drop, now + tm m a (stopSite os' s).pl, c.1, c.2, loadOf os' s p.load⟩ = ⟨c.2, (stopSite os' s).pl, (after os s ⟨s.order, s.drop, p.now + tm m p.pos (stopSite os s).pl, b.1, b.2, loadOf os s p.load⟩).load⟩ := by
        unfold after; rw [hld]
      rw [← e]; exact hr'
    · rintro ⟨c, hc, hr'⟩
      obtain ⟨ws, hws⟩ := (ih c.2).2 hr'
      refine ⟨⟨s.order, s.drop, now + tm m a (stopSite os' s).pl, c.1, c.2, loadOf os' s p.load⟩ :: ws, ?_⟩
      have ht := tryStop_of (m := m) (d := d) (os := os') (ahead := ahead) (s := s) (p := ⟨now, a, p.load⟩) (by rw [hw]; exact w1) (by rw [hld]; exact w2) hc
      have e : after os' s ⟨s.order, s.drop, now + tm m a (stopSite os' s).pl, c.1, c.2, loadOf os' s p.load⟩ = ⟨c.2, (stopSite os' s).pl, (after os s ⟨s.order, s.drop, p.now + tm m p.pos (stopSite os s).pl, b.1, b.2, loadOf os s p.load⟩).load⟩ := by
        unfold after; rw [hld]
      unfold driveGo
      rw [ht]
      dsimp only
      rw [e, hws]
theorem go_apart {m : MapD} {d : Driver} {os : List Order} : ∀ (l ahead : List Stop) (p : Pos) (vs : List Visit), driveGo m d os ahead l p = .ok vs → (∀ s ∈ l, stands ahead s = false) ∧ l.Pairwise fun a b => sEq a b = false
  | [], ahead, p, vs, h => ⟨fun s hs => (by cases hs), List.Pairwise.nil⟩
  | s :: l, ahead, p, vs, h => by
    obtain ⟨v, ys, _, hv, hr⟩ := driveGo_next h
    obtain ⟨w1, _⟩ := tryStop_ok hv
    obtain ⟨h1, h2⟩ := go_apart l _ _ _ hr
    have h3 : ∀ x ∈ l, stands ahead x = false ∧ sEq s x = false := fun x hx => by
      have := h1 x hx
      rw [stands_app, Bool.or_eq_false_iff] at this
      exact this
    have h4 : stands ahead s = false := by
      unfold wrongE at w1
      split at w1
      · cases w1
      · split at w1
        · cases w1
        · rename_i hh
          simpa using hh
    refine ⟨fun x hx => ?_, List.pairwise_cons.2 ⟨fun x hx => (h3 x hx).2, h2⟩⟩
    rcases List.mem_cons.1 hx with rfl | hx
    · exact h4
    · exact (h3 x hx).1
def Site.from_ (s : Site) (t : Int) : Site := ⟨s.pl, t, s.hi, s.sv⟩
theorem go_limit {m : MapD} {d : Driver} {os : List Order} (hm : MapOk m) (hh : 0 ≤ d.hi ∧ d.hi ≤ 1000000) : ∀ (l ahead : List Stop) (p : Pos) (vs : List Visit) (k : Nat), driveGo m d os ahead l p = .ok vs → (∀ s ∈ l, SOk (stopSite os s)) → k < l.length → 
    ((stopSite os (l.getD k (FK.zero .stop))).lo ≤ (vs.getD k (FK.zero .visit)).start ∧ (vs.getD k (FK.zero .visit)).start ≤ (stopSite os (l.getD k (FK.zero .stop))).hi ∧ (vs.getD k (FK.zero .visit)).start ≤ (latest m d os l).getD k 0 ∧ (latest m d os l).getD k 0 ≤ (stopSite os (l.getD k (FK.zero .stop))).hi) ∧
    ∀ t : Int, (vs.getD k (FK.zero .visit)).start ≤ t → t ≤ (stopSite os (l.getD k (FK.zero .stop))).hi → (tRun m d.hi ((l.map (stopSite os)).set k ((stopSite os (l.getD k (FK.zero .stop))).from_ t)) p.pos p.now ↔ t ≤ (latest m d os l).getD k 0)
  | [], ahead, p, vs, k, h, hs, hk => absurd hk (Nat.not_lt_zero _)
  | s :: l, ahead, p, vs, 0, h, hs, hk => by
    obtain ⟨v, ys, rfl, hv, hr⟩ := driveGo_next h
    obtain ⟨w1, w2, b, hb, rfl⟩ := tryStop_ok hv
    obtain ⟨sw, b2, b3, b4, b5⟩ := served_spec hb
    have hrun := (go_run (os' := os) (fun _ _ => rfl) (fun _ _ => rfl) l _ _ ys hr (stopSite os s).pl b.2).1 ⟨ys, hr⟩
    have hsites : ∀ x ∈ stopSite os s :: l.map (stopSite os), SOk x := fun x hx => by
      rcases List.mem_cons.1 hx with rfl | hx
      · exact hs s (List.mem_cons_self ..)
      · obtain ⟨y, hy, rfl⟩ := List.mem_map.1 hx
        exact hs y (List.mem_cons_of_mem _ hy)
    rw [b4] at hrun
    have hval := run_val hm hh (l.map (stopSite os)) (stopSite os s) b.1 hsites (by omega) (by omega) hrun
    have hf := run_first hm hh (l.map (stopSite os)) (stopSite os s)
    have hL : (latest m d os (s :: l)).getD 0 0 = first m d.hi (stopSite os s) (l.map (stopSite os)) := by rw [latest_sites]; rfl
    have hfv := first_val hm hh (hsites _ (List.mem_cons_self ..)) hval.1
    rw [hL]
    show ((stopSite os s).lo ≤ b.1 ∧ b.1 ≤ (stopSite os s).hi ∧ b.1 ≤ first m d.hi (stopSite os s) (l.map (stopSite os)) ∧ first m d.hi (stopSite os s) (l.map (stopSite os)) ≤ (stopSite os s).hi) ∧
      ∀ t : Int, b.1 ≤ t → t ≤ (stopSite os s).hi → (tRun m d.hi ((stopSite os s).from_ t :: l.map (stopSite os)) p.pos p.now ↔ t ≤ first m d.hi (stopSite os s) (l.map (stopSite os)))
    refine ⟨⟨by omega, by omega, (hf b.1 hsites hval (by omega) (by omega)).1 ⟨by omega, hrun⟩, by omega⟩, fun t t1 t2 => ?_⟩
    rw [← hf t hsites hval (by omega) t2]
    constructor
    · rintro ⟨c, hc, hr'⟩
      obtain ⟨_, c2, c3, c4, c5⟩ := served_spec hc
      have e : c.1 = t := by
        show c.1 = t
        have : c.1 = max (p.now + tm m p.pos (stopSite os s).pl) t := c3
        omega
      have e4 : c.2 = t + (stopSite os s).sv := by rw [← e]; exact c4
      rw [e4] at hr' c5
      exact ⟨c5, hr'⟩
    · rintro ⟨h1, h2⟩
      have hmax : max (p.now + tm m p.pos (stopSite os s).pl) t = t := by omega
      have hsb := served_by (m := m) (a := p.pos) (l := p.now) (u := d.hi) (s := (stopSite os s).from_ t) ⟨by show 0 ≤ t; omega, t2, sw.2.2⟩ (by show p.now + tm m p.pos (stopSite os s).pl ≤ (stopSite os s).hi; omega) (by show max (p.now + tm m p.pos (stopSite os s).pl) t + (stopSite os s).sv ≤ d.hi; rw [hmax]; exact h1)
      refine ⟨_, hsb, ?_⟩
      show tRun m d.hi (l.map (stopSite os)) (stopSite os s).pl (max (p.now + tm m p.pos (stopSite os s).pl) t + (stopSite os s).sv)
      rw [hmax]
      exact h2
  | s :: l, ahead, p, vs, k + 1, h, hs, hk => by
    obtain ⟨v, ys, rfl, hv, hr⟩ := driveGo_next h
    obtain ⟨w1, w2, b, hb, rfl⟩ := tryStop_ok hv
    obtain ⟨i1, i2⟩ := go_limit hm hh l _ _ ys k hr (fun x hx => hs x (List.mem_cons_of_mem _ hx)) (by simpa using hk)
    refine ⟨i1, fun t t1 t2 => ?_⟩
    rw [← show _ ↔ t ≤ (latest m d os (s :: l)).getD (k + 1) 0 from i2 t t1 t2]
    show tRun m d.hi (stopSite os s :: (l.map (stopSite os)).set k ((stopSite os (l.getD k (FK.zero .stop))).from_ t)) p.pos p.now ↔ tRun m d.hi ((l.map (stopSite os)).set k ((stopSite os (l.getD k (FK.zero .stop))).from_ t)) (stopSite os s).pl b.2
    constructor
    · rintro ⟨c, hc, hr'⟩
      rw [hb] at hc
      injection hc with hc
      subst hc
      exact hr'
    · exact fun h => ⟨b, hb, h⟩

/-! ### An order is turned -/
def turnO (o : Order) (drop : Bool) (t : Int) : Order := if drop then ⟨o.id, o.size, o.pp, o.pf, o.pt, o.ps, o.dp, t, o.dt, o.ds⟩ else ⟨o.id, o.size, o.pp, t, o.pt, o.ps, o.dp, o.df, o.dt, o.ds⟩
theorem turnO_id {o : Order} {b : Bool} {t : Int} : (turnO o b t).id = o.id ∧ (turnO o b t).size = o.size := by cases b <;> exact ⟨rfl, rfl⟩
theorem turnO_site {o : Order} {b : Bool} {t : Int} : siteOf (turnO o b t) b = (siteOf o b).from_ t ∧ siteOf (turnO o b t) (!b) = siteOf o (!b) := by cases b <;> exact ⟨rfl, rfl⟩
theorem apart_iff {os : List Order} : Apart os ↔ (os.map Order.id).Pairwise (· ≠ ·) := by
  unfold Apart; rw [List.pairwise_map]
theorem set_ids {os : List Order} {i : Nat} {o : Order} (hi : i < os.length) (h : o.id = os[i].id) : (os.set i o).map Order.id = os.map Order.id := by
  rw [List.map_set, h]
  refine List.ext_getElem (by simp) fun j h1 h2 => ?_
  rw [List.getElem_set]
  split
  · rename_i e; subst e; simp
  · rfl
theorem findO_set {os : List Order} {i : Nat} {o : Order} {id : Int} (hi : i < os.length) (ha : Apart os) (h : o.id = os[i].id) : findO (os.set i o) id = if id = o.id then some o else findO os id := by
  have ha' : Apart (os.set i o) := apart_iff.2 (by rw [set_ids hi h]; exact apart_iff.1 ha)
  split
  · rename_i e
    subst e
    exact findO_of ha' (List.mem_set hi o)
  · rename_i e
    refine findO_same ha' ha fun x hx => ⟨fun hm => ?_, fun hm => ?_⟩
    · rcases List.mem_or_eq_of_mem_set hm with h' | h'
      · exact h'
      · subst h'; exact absurd hx.symm e
    · obtain ⟨j, hj, rfl⟩ := List.getElem_of_mem hm
      have hne : i ≠ j := fun e' => by subst e'; exact e (by rw [h]; exact hx.symm)
      rw [List.mem_iff_getElem]
      refine ⟨j, by simpa using hj, ?_⟩
      rw [List.getElem_set_ne hne]
theorem fo_eq {os : List Order} {id : Int} {o : Order} (h : findO os id = some o) : fo os id = o := by unfold fo; rw [h]; rfl
/-- The law. -/
theorem limit_law {m : MapD} {d : Driver} {os : List Order} {ss : List Stop} {k i : Nat} (hm : MapOk m) (hg : good (fauR (drive (some m) d os ss)) = true) (hk : k < ss.length) (hi : i < os.length) (hid : (os.getD i (FK.zero .order)).id = (ss.getD k (FK.zero .stop)).order) :
    let S := siteOf (os.getD i (FK.zero .order)) (ss.getD k (FK.zero .stop)).drop
    let b := ((visR (drive (some m) d os ss)).getD k (FK.zero .visit)).start
    let L := (latest m d os ss).getD k 0
    (0 ≤ S.lo ∧ S.lo ≤ b ∧ b ≤ S.hi ∧ S.hi ≤ 1000000 ∧ b ≤ L ∧ L ≤ S.hi) ∧ ∀ t : Int, b ≤ t → t ≤ S.hi → good (fauR (drive (some m) d (os.set i (turnO (os.getD i (FK.zero .order)) (ss.getD k (FK.zero .stop)).drop t)) ss)) = decide (t ≤ L) := by
  obtain ⟨x, vs, hx, hf, hr, hd⟩ := drive_good hg
  injection hx with hx
  subst hx
  obtain ⟨f1, f2, f3⟩ := fitB_iff.1 hf
  obtain ⟨k1, k2, k3⟩ := known_iff.1 f2
  have hdr := driverE_ok f1
  have hw := hdr.win
  have hall := (driveGo_all hr).2
  have hsites : ∀ s ∈ ss, SOk (stopSite os s) := fun s hs => ⟨siteWin f2 (hall s hs), (siteOf_ok (fo_ok f2 (hall s hs)).1 s.drop).sv⟩
  obtain ⟨l1, l2⟩ := go_limit hm ⟨by omega, hw.2.2⟩ ss [] _ vs k hr hsites hk
  have ho : os.getD i (FK.zero .order) = os[i] := getD_of hi
  have hfi : findO os (ss.getD k (FK.zero .stop)).order = some os[i] := by rw [← hid, ho]; exact findO_of k3 (List.getElem_mem hi)
  have hS : stopSite os (ss.getD k (FK.zero .stop)) = siteOf (os.getD i (FK.zero .order)) (ss.getD k (FK.zero .stop)).drop := by unfold stopSite; rw [fo_eq hfi, ho]
  have hv : visR (drive (some m) d os ss) = vs := by rw [hd]; rfl
  have hmem : ss.getD k (FK.zero .stop) ∈ ss := by rw [getD_of hk]; exact List.getElem_mem _
  have hsk := hsites _ hmem
  have hskw := hsk.win
  rw [hv]
  intro S b L
  rw [hS] at l1 l2 hskw
  refine ⟨⟨hskw.1, l1.1, l1.2.1, hskw.2.2, l1.2.2.1, l1.2.2.2⟩, fun t t1 t2 => ?_⟩
  generalize ho' : turnO (os.getD i (FK.zero .order)) (ss.getD k (FK.zero .stop)).drop t = o'
  have hid' : o'.id = os[i].id := by rw [← ho', turnO_id.1, ho]
  have hok' : orderE (some m) o' = 0 := by
    have hoo := orderE_ok (k2 os[i] (List.getElem_mem hi))
    have ht : 0 ≤ t := by omega
    rw [← ho', ho]
    obtain ⟨a1, a2, a3, a4, a5, a6, a7, a8⟩ := hoo
    cases hdp : (ss.getD k (FK.zero .stop)).drop with
    | true =>
      have tt : t ≤ os[i].dt := by
        have : S.hi = os[i].dt := by show (siteOf (os.getD i (FK.zero .order)) (ss.getD k (FK.zero .stop)).drop).hi = _; rw [hdp, ho]; rfl
        omega
      exact orderE_of' ⟨a1, a2, a3, a4, a5, ⟨ht, tt, a6.2.2⟩, a7, a8⟩
    | false =>
      have tt : t ≤ os[i].pt := by
        have : S.hi = os[i].pt := by show (siteOf (os.getD i (FK.zero .order)) (ss.getD k (FK.zero .stop)).drop).hi = _; rw [hdp, ho]; rfl
        omega
      exact orderE_of' ⟨a1, a2, a3, a4, ⟨ht, tt, a5.2.2⟩, a6, a7, a8⟩
  have hk' : knownO (some m) (os.set i o') = true := known_iff.2 ⟨by simpa using k1, fun y hy => by
    rcases List.mem_or_eq_of_mem_set hy with h | h
    · exact k2 y h
    · rw [h]; exact hok', apart_iff.2 (by rw [set_ids hi hid']; exact apart_iff.1 k3)⟩
  have hff := fun id => findO_set (os := os) (i := i) (o := o') (id := id) hi k3 hid'
  have hoid : o'.id = (ss.getD k (FK.zero .stop)).order := by rw [hid', ← ho]; exact hid
  have hsize : ∀ id, (fo (os.set i o') id).size = (fo os id).size := fun id => by
    by_cases e : id = o'.id
    · rw [fo_eq (by rw [hff id, if_pos e])]
      rw [e, hoid, fo_eq hfi, ← ho', turnO_id.2, ho]
    · unfold fo; rw [hff id, if_neg e]
  have hsome : ∀ id, (findO (os.set i o') id).isNone = (findO os id).isNone := fun id => by
    rw [hff id]
    split
    · rename_i e; rw [e, hoid, hfi]; rfl
    · rfl
  have hw' : ∀ ahead s, wrongE (os.set i o') ahead s = wrongE os ahead s := fun ahead s => by unfold wrongE; rw [hsome]
  have hld' : ∀ s n, loadOf (os.set i o') s n = loadOf os s n := fun s n => by unfold loadOf; rw [hsize]
  have hmap : ss.map (stopSite (os.set i o')) = (ss.map (stopSite os)).set k (S.from_ t) := by
    refine List.ext_getElem (by simp) fun j h1 h2 => ?_
    rw [List.getElem_set, List.getElem_map, List.getElem_map]
    have hj : j < ss.length := by simpa using h1
    split
    · rename_i e
      subst e
      have e2 : ss[k] = ss.getD k (FK.zero .stop) := (getD_of hk).symm
      rw [e2]
      unfold stopSite
      rw [fo_eq (by rw [hff, if_pos hoid.symm]), ← ho']
      exact turnO_site.1
    · rename_i e
      unfold stopSite
      by_cases e2 : ss[j].order = o'.id
      · have hne : ss[j].drop = !(ss.getD k (FK.zero .stop)).drop := by
          have hp := (go_apart ss [] _ vs hr).2
          rw [List.pairwise_iff_getElem] at hp
          have hne : ¬ (ss[j].order = ss[k].order ∧ ss[j].drop = ss[k].drop) := by
            intro hc
            rcases Nat.lt_or_gt_of_ne e with h | h
            · have := hp k j hk hj h
              rw [sEq_iff.2 ⟨hc.1.symm, hc.2.symm⟩] at this
              cases this
            · have := hp j k hj hk h
              rw [sEq_iff.2 hc] at this
              cases this
          rw [getD_of hk]
          have : ss[j].order = ss[k].order := by rw [e2, hoid, getD_of hk]
          cases hA : ss[j].drop <;> cases hB : ss[k].drop <;> simp_all
        rw [fo_eq (by rw [hff, if_pos e2]), hne, ← ho', turnO_site.2, e2, hoid, fo_eq hfi, ho]
      · unfold fo; rw [hff, if_neg e2]
  have hd' := drive_fit (fitB_iff.2 ⟨f1, hk', f3⟩)
  rw [hd']
  have hrun := go_run (m := m) (d := d) hw' hld' ss [] _ vs hr d.home d.lo
  rw [hmap] at hrun
  have hl := l2 t t1 t2
  have hboth : (∃ ws, driveT m d (os.set i o') ss = .ok ws) ↔ t ≤ L := hrun.trans hl
  by_cases hc : t ≤ L
  · obtain ⟨ws, hws⟩ := hboth.2 hc
    rw [hws, decide_eq_true hc]; rfl
  · rw [decide_eq_false hc]
    cases hws : driveT m d (os.set i o') ss with
    | ok ws => exact absurd (hboth.1 ⟨ws, hws⟩) hc
    | error f =>
      have := driveGo_why hws
      exact decide_eq_false this
where
  orderE_of' {m : MapD} {o : Order} (h : OrderOk m o) : orderE (some m) o = 0 := by
    obtain ⟨h1, h2, h3, h4, h5, h6, h7, h8⟩ := h
    unfold orderE
    rw [if_neg, if_neg, if_neg, if_neg, if_neg] <;>
      simp only [Option.isNone_some, Bool.false_or, Bool.not_eq_true', Bool.not_eq_false, Bool.and_eq_true, within_iff, right_iff, place, inMap_iff] <;> omega
end Go.Eng
