/- The engine: EVc, ESeq, EGhost, EFit, EFit2. -/
import Derived.Test.YtidneanbjijjjaaEMore
/- The conditions of a function's body: what its walk asks for, as a plain proposition. -/
set_option linter.unusedVariables false
set_option linter.unusedSimpArgs false
namespace Go.Eng
open Go Go.RowKit

structure St where (e : Env) (H : Heap) (n : Nat)
noncomputable def deads (n : Nat) (x : HB) : Heap := Nat.rec (motive := fun _ => Heap) [x] (fun _ ih => .dead :: ih) n
noncomputable def setAt (l : Heap) (n : Nat) (x : HB) : Heap := List.rec (motive := fun _ => Nat → Heap) (fun n => deads n x) (fun y l ih n => Nat.casesOn (motive := fun _ => Heap) n (x :: l) (fun m => y :: ih m)) l n
theorem setAt_nz (x : HB) : setAt [] 0 x = [x] := rfl
theorem setAt_ns (n : Nat) (x : HB) : setAt [] (n + 1) x = .dead :: setAt [] n x := rfl
theorem setAt_cz (y x : HB) (l : Heap) : setAt (y :: l) 0 x = x :: l := rfl
theorem setAt_cs (y x : HB) (l : Heap) (n : Nat) : setAt (y :: l) (n + 1) x = y :: setAt l n x := rfl
noncomputable def applyL (H : Heap) : List (Nat × HB) → Heap
  | [] => H
  | (i, x) :: l => applyL (setAt H i x) l
noncomputable def lk {α : Type} (l : List (Nat × α)) (t : Nat) : Option α := List.rec (motive := fun _ => Option α) none (fun x _ ih => Bool.rec (motive := fun _ => Option α) ih (some x.2) (Nat.beq x.1 t)) l
theorem lk_nil {α : Type} (t : Nat) : lk ([] : List (Nat × α)) t = none := rfl
theorem lk_cons' {α : Type} (x : Nat × α) (l : List (Nat × α)) (t : Nat) : lk (x :: l) t = if x.1 = t then some x.2 else lk l t := by
  show Bool.rec (motive := fun _ => Option α) (lk l t) (some x.2) (Nat.beq x.1 t) = _
  by_cases h : x.1 = t
  · rw [if_pos h, h, Nat.beq_refl]
  · rw [if_neg h]
    cases hb : Nat.beq x.1 t with
    | false => rfl
    | true => exact absurd (Nat.eq_of_beq_eq_true hb) h
def andO : Option Prop → Option Prop → Option Prop
  | none, q => q
  | p, none => p
  | some p, some q => some (p ∧ q)
def conj : Option Prop → Prop → Prop
  | none, q => q
  | some p, q => p ∧ q
def imp : Option Prop → Prop → Prop
  | none, q => q
  | some p, q => p → q
def conjL : List Prop → Prop → Prop
  | [], q => q
  | p :: l, q => p ∧ conjL l q

/-- What the evaluation does not cover: false. -/
inductive Bad (why : Nat) (α : Type) (x : α) : Prop

/-! ### Values that pass between functions -/
inductive AC where
  | i (n : Int)
  | b (x : Bool)
  | a (k : K) (xs : List k.T)
  | o (fk : FK) (e : Nat) (xs : List fk.T)
  | od (k : K) (e : Nat) (xs : List k.T)
  | fn (f : Nat)
  | np
  | pm (ty : Nat) (n : Int) (l : List Int)   -- a pointer to a map
  | al (i : Nat)                             -- in a result's variable: the i-th argument, a pointer
inductive AV where
  | c (x : AC)
  | r (l : List AC)
  | p (own : Bool) (ty : Nat) (l : List AC)
/-- Kinds of cells, of structs. -/
structure MapD where (n : Int) (l : List Int)
inductive CK where
  | i | b | a (k : K) | fn | pm (ty : Nat)
@[reducible] def CK.T : CK → Type
  | .i => Int | .b => Bool | .a k => List k.T | .fn => Nat | .pm _ => MapD
def CK.enc : (k : CK) → k.T → AC
  | .i, n => .i n | .b, x => .b x | .a k, xs => .a k xs | .fn, f => .fn f | .pm ty, m => .pm ty m.n m.l
structure SearchD where (m : MapD) (d : Driver) (legs : List Leg) (pre : List State) (pick drop : Leg) (full : Bool)
structure WorldD where (n : Int) (times : List Int) (drivers : List Driver) (orders : List Order) (plan : List Route)
inductive SK where
  | f (k : FK) | route | world | map | search (ty : Nat)
@[reducible] def SK.T : SK → Type
  | .f k => FK.T k | .route => Route | .world => WorldD | .map => MapD | .search _ => SearchD
def SK.cks : SK → List CK
  | .f .int => [.i] | .f .bool => [.b] | .f .win => [.i, .i] | .f .order => [.i, .i, .i, .i, .i, .i, .i, .i, .i, .i] | .f .driver => [.i, .i, .i, .i, .i, .b] | .f .stop => [.i, .b]
  | .f .visit => [.i, .b, .i, .i, .i, .i] | .f .trouble => [.i, .i, .i] | .f .leg => [.i, .i, .i, .i, .i] | .f .state => [.i, .i, .i, .i] | .f .site => [.i, .i, .i, .i]
  | .f .fault => [.i, .i] | .f .spot => [.i, .i, .i, .i] | .f .hunt => [.i, .i, .i, .i, .b, .i]
  | .route => [.i, .i, .a (.f .stop)]
  | .world => [.i, .a (.f .int), .a (.f .driver), .a (.f .order), .a .route]
  | .map => [.i, .a (.f .int)]
  | .search ty => [.pm ty, .i, .i, .i, .i, .i, .b, .a (.f .leg), .a (.f .state), .i, .i, .i, .i, .i, .i, .i, .i, .i, .i, .b]
def encCV : List CV → List AC
  | [] => []
  | .i n :: l => .i n :: encCV l
  | .b x :: l => .b x :: encCV l
  | .sl k xs :: l => .a (.f k) xs :: encCV l
def SK.enc : (k : SK) → k.T → List AC
  | .f k, x => encCV (k.enc x)
  | .route, x => [.i x.driver, .i x.served, .a (.f .stop) x.stops]
  | .world, x => [.i x.n, .a (.f .int) x.times, .a (.f .driver) x.drivers, .a (.f .order) x.orders, .a .route x.plan]
  | .map, x => [.i x.n, .a (.f .int) x.l]
  | .search ty, x => [.pm ty x.m.n x.m.l, .i x.d.id, .i x.d.room, .i x.d.home, .i x.d.lo, .i x.d.hi, .b x.d.retired, .a (.f .leg) x.legs, .a (.f .state) x.pre, .i x.pick.pl, .i x.pick.lo, .i x.pick.hi, .i x.pick.sv, .i x.pick.more, .i x.drop.pl, .i x.drop.lo, .i x.drop.hi, .i x.drop.sv, .i x.drop.more, .b x.full]
def SK.dec : (k : SK) → List AC → Option k.T
  | .f .int, [.i n] => some n
  | .f .bool, [.b n] => some n
  | .f .win, [.i xa, .i xb] => some ⟨xa, xb⟩
  | .f .order, [.i xa, .i xb, .i xc, .i xd, .i xe, .i xf, .i xg, .i xh, .i xi, .i xj] => some ⟨xa, xb, xc, xd, xe, xf, xg, xh, xi, xj⟩
  | .f .driver, [.i xa, .i xb, .i xc, .i xd, .i xe, .b xf] => some ⟨xa, xb, xc, xd, xe, xf⟩
  | .f .stop, [.i xa, .b xb] => some ⟨xa, xb⟩
  | .f .visit, [.i xa, .b xb, .i xc, .i xd, .i xe, .i xf] => some ⟨xa, xb, xc, xd, xe, xf⟩
  | .f .trouble, [.i xa, .i xb, .i xc] => some ⟨xa, xb, xc⟩
  | .f .leg, [.i xa, .i xb, .i xc, .i xd, .i xe] => some ⟨xa, xb, xc, xd, xe⟩
  | .f .state, [.i xa, .i xb, .i xc, .i xd] => some ⟨xa, xb, xc, xd⟩
  | .f .site, [.i xa, .i xb, .i xc, .i xd] => some ⟨xa, xb, xc, xd⟩
  | .f .fault, [.i xa, .i xb] => some ⟨xa, xb⟩
  | .f .spot, [.i xa, .i xb, .i xc, .i xd] => some ⟨xa, xb, xc, xd⟩
  | .f .hunt, [.i xa, .i xb, .i xc, .i xd, .b xe, .i xf] => some ⟨xa, xb, xc, xd, xe, xf⟩
  | .route, [.i xa, .i xb, .a (.f .stop) xc] => some ⟨xa, xb, xc⟩
  | .world, [.i xa, .a (.f .int) xb, .a (.f .driver) xc, .a (.f .order) xd, .a .route xe] => some ⟨xa, xb, xc, xd, xe⟩
  | .map, [.i xa, .a (.f .int) xb] => some ⟨xa, xb⟩
  | .search ty, [.pm ty' a b, .i c1, .i c2, .i c3, .i c4, .i c5, .b c6, .a (.f .leg) d, .a (.f .state) e, .i f1, .i f2, .i f3, .i f4, .i f5, .i g1, .i g2, .i g3, .i g4, .i g5, .b z] => if ty' = ty then some ⟨⟨a, b⟩, ⟨c1, c2, c3, c4, c5, c6⟩, d, e, ⟨f1, f2, f3, f4, f5⟩, ⟨g1, g2, g3, g4, g5⟩, z⟩ else none
  | _, _ => none
theorem SK.enc_dec {k : SK} {l : List AC} {x : k.T} (h : k.dec l = some x) : k.enc x = l := by
  unfold SK.dec at h
  split at h <;> first
    | (injection h with h; subst h; rfl)
    | (split at h; (rename_i ht; subst ht; injection h with h; subst h; rfl); cases h)
    | cases h
/-- Kinds of parameters. -/
inductive PK where
  | c (k : CK)
  | r (s : SK)
  | p (s : SK) (ty : Nat)
  | q (s : SK) (ty : Nat)
@[reducible] def PK.T : PK → Type
  | .c k => CK.T k | .r s => SK.T s | .p s _ => SK.T s | .q s _ => Option (SK.T s)
def PK.enc : (k : PK) → k.T → AV
  | .c k, x => .c (k.enc x)
  | .r s, x => .r (s.enc x)
  | .p s ty, x => .p false ty (s.enc x)
  | .q s ty, x => match x with | none => .c .np | some x => .p false ty (s.enc x)
/-- No list is longer. -/
structure LenOk (n : Nat) : Prop where
  le : n ≤ 9223372036854775807
def K.ok : (k : K) → List k.T → Prop
  | .f _, xs => LenOk xs.length
  | .route, xs => LenOk xs.length ∧ ∀ r ∈ xs, LenOk (r : Route).stops.length
  | .rows _, xs => LenOk xs.length ∧ ∀ r ∈ xs, LenOk r.length
def CK.ok : (k : CK) → k.T → Option Prop
  | .a k, xs => some (k.ok xs)
  | .pm _, m => some (LenOk m.l.length)
  | _, _ => none
def SK.ok : (k : SK) → k.T → Option Prop
  | .f _, _ => none
  | .route, x => some (LenOk x.stops.length)
  | .world, x => some (LenOk x.times.length ∧ LenOk x.drivers.length ∧ LenOk x.orders.length ∧ K.ok .route x.plan)
  | .map, x => some (LenOk x.l.length)
  | .search _, x => some (LenOk x.m.l.length ∧ LenOk x.legs.length ∧ LenOk x.pre.length)
def PK.ok : (k : PK) → k.T → Option Prop
  | .c k, x => k.ok x
  | .r s, x => s.ok x
  | .p s _, x => s.ok x
  | .q s _, x => match x with | none => none | some x => s.ok x
def Fun : List PK → Type → Type
  | [], R => R
  | p :: l, R => p.T → Fun l R
/-- A value as symbolic cells: names from n on. -/
def AC.conc (n : Nat) : AC → SC × List HB
  | .i x => (.i x, [])
  | .b x => (.b x, [])
  | .a k xs => (.fs n, [.arr k 0 false xs])
  | .o fk e xs => (.fs n, [.arr (.f fk) e true xs])
  | .od k e xs => (.fs n, [.arr k e true xs])
  | .fn f => (.fn f, [])
  | .np => (.nlp, [])
  | .al _ => (.u, [])
  | .pm ty m l => (.p n 0, [.cells false ty [.i m, .fs (n + 1)], .arr (.f .int) 0 false l])
noncomputable def concL : List AC → Nat → List SC × List HB
  | [], _ => ([], [])
  | x :: l, n => match x.conc n with
    | (c, h) => match concL l (n + len h) with
      | (cs, hs) => (c :: cs, app h hs)
noncomputable def AV.conc (n : Nat) : AV → SW × List HB
  | .c x => match x.conc n with | (c', h) => (.c c', h)
  | .r l => match concL l n with | (cs, h) => (.g cs, h)
  | .p own ty l => match concL l (n + 1) with | (cs, h) => (.c (.p n 0), .cells own ty cs :: h)
noncomputable def concV : List AV → Nat → List SW × List HB
  | [], _ => ([], [])
  | x :: l, n => match x.conc n with
    | (c, h) => match concV l (n + len h) with
      | (cs, hs) => (c :: cs, app h hs)
/-- What a call comes to. -/
structure Alt where (h : Option Prop) (r : List AV)
structure Res where (pre : Option Prop) (alts : List Alt)
structure Con where (ps : List PK) (run : Fun ps Res)
abbrev Cons := List (Nat × Con)
/-- All values of a parameter; of a pointer that may be nil: nil, and every other. -/
def overP : (p : PK) → (p.T → Prop) → Prop
  | .c k, f => ∀ x : CK.T k, f x
  | .r s, f => ∀ x : SK.T s, f x
  | .p s _, f => ∀ x : SK.T s, f x
  | .q s _, f => f none ∧ ∀ x : SK.T s, f (some x)
/-- All arguments: each one's symbolic state. -/
def allArgs {R : Type} : (ps : List PK) → Env → Heap → Fun ps R → (Env → Heap → R → Prop) → Prop
  | [], e, H, r, k => k e H r
  | p :: ps, e, H, f, k => overP p fun x => imp (p.ok x) (match (p.enc x).conc (len H) with
    | (s, h) => allArgs ps (app e [.w s]) (app H h) (f x) k)
noncomputable def absA (H : Heap) : SC → Option (List Int)
  | .nls => some []
  | .fs id => match hget H id with
    | .arr (.f .int) _ _ xs => some xs
    | _ => none
  | _ => none
/-- A cell of the caller's as an argument's. -/
noncomputable def absC (H : Heap) : CK → SC → Option (AC × Option Prop)
  | .i, .i n => some (.i n, none)
  | .b, .b x => some (.b x, none)
  | .b, .l x => some (.b x, none)
  | .fn, .fn f => some (.fn f, none)
  | .pm ty, .p id 0 => match hget H id with
    | .cells _ ty' [.i m, c] => if ty' = ty then (match absA H c with | some l => some (.pm ty m l, none) | none => none) else none
    | _ => none
  | .a k, .nls => some (.a k [], none)
  | .a k, .fs id => match hget H id with
    | .arr k' _ _ xs => match K.same k' k with
      | some ⟨h⟩ => some (.a k (h ▸ xs), none)
      | none => none
    | _ => none
  | .a k, .st id m => match hget H id with
    | .pre fk ys _ => match K.same (.f fk) k with
      | some ⟨h⟩ => some (.a k (h ▸ (ys.take m : List (K.f fk).T)), some (m ≤ ys.length))
      | none => none
    | _ => none
  | .a k, .s id lo n sz => match hget H id with
    | .arr k' _ _ xs => match K.same k' k with
      | some ⟨h⟩ => if sz = k.size then some (.a k (part (h ▸ xs) lo n), some (lo + n ≤ (h ▸ xs : List k.T).length)) else none
      | none => none
    | _ => none
  | _, _ => none
noncomputable def absL (H : Heap) : List CK → List SC → Option (List AC × Option Prop)
  | [], [] => some ([], none)
  | k :: ks, c :: cs => match absC H k c, absL H ks cs with
    | some (x, p), some (xs, q) => some (x :: xs, andO p q)
    | _, _ => none
  | _, _ => none
def AC.ofCK : (k : CK) → AC → Option k.T
  | .i, .i n => some n
  | .b, .b x => some x
  | .fn, .fn f => some f
  | .pm ty, .pm ty' m l => if ty' = ty then some ⟨m, l⟩ else none
  | .a k, .a k' xs => match K.same k' k with | some ⟨h⟩ => some (h ▸ xs) | none => none
  | _, _ => none
noncomputable def absP (H : Heap) : (k : PK) → SV → Option (k.T × Option Prop)
  | .c k, .w (.c x) => match absC H k x with
    | some (y, p) => match AC.ofCK k y with
      | some z => some (z, p)
      | none => none
    | none => none
  | .r s, .w (.g l) => match absL H s.cks l with
    | some (ys, p) => match s.dec ys with
      | some z => some (z, p)
      | none => none
    | none => none
  | .p s ty, .w (.c (.p id 0)) => match hget H id with
    | .cells _ ty' l => if ty = ty' then (match absL H s.cks l with
      | some (ys, p) => match s.dec ys with
        | some z => some (z, p)
        | none => none
      | none => none) else none
    | _ => none
  | .q s ty, .w (.c .nlp) => some (none, none)
  | .q s ty, .w (.c (.p id 0)) => match hget H id with
    | .cells _ ty' l => if ty = ty' then (match absL H s.cks l with
      | some (ys, p) => match s.dec ys with
        | some z => some (some z, p)
        | none => none
      | none => none) else none
    | _ => none
  | _, _ => none
noncomputable def runArgs {R : Type} (H : Heap) : (ps : List PK) → List SV → Fun ps R → Option (R × Option Prop)
  | [], [], r => some (r, none)
  | p :: ps, s :: ss, f => match absP H p s with
    | some (x, c) => match runArgs H ps ss (f x) with
      | some (r, c') => some (r, andO c c')
      | none => none
    | none => none
  | _, _, _ => none

/-! ### Fitting a state to a form -/
abbrev Srcs := List (Nat × SC)
def sameSrc : SC → SC → Bool
  | .fs a, .fs b => a == b
  | .p a 0, .p b 0 => a == b
  | .m a, .m b => a == b
  | .nls, .nls => true
  | _, _ => false
noncomputable def addM (m : Srcs) (i : Nat) (c : SC) : Option Srcs := match lk m i with
  | none => some ((i, c) :: m)
  | some c' => match sameSrc c c' with | true => some m | false => none
noncomputable def fitC (m : Srcs) : SC → SC → Option (Srcs × Option Prop)
  | .u, _ => some (m, none)
  | .i x, .i y => some (m, some (y = x))
  | .b x, .b y => some (m, some (y = x))
  | .b x, .l y => some (m, some (y = x))
  | .l x, .b y => some (m, some (y = x))
  | .l x, .l y => match x == y with | true => some (m, none) | false => none
  | .nls, .nls => some (m, none)
  | .nlp, .nlp => some (m, none)
  | .fn f, .fn g => if f = g then some (m, none) else none
  | .p i o, .p j o' => if o = o' then (match addM m i (.p j 0) with | some m' => some (m', none) | none => none) else none
  | .fs i, .fs j => match addM m i (.fs j) with | some m' => some (m', none) | none => none
  | .m i, .m j => match addM m i (.m j) with | some m' => some (m', none) | none => none
  | .fs i, .nls => match addM m i .nls with | some m' => some (m', none) | none => none
  | .fs i, .s j lo n sz => match lk m i with | none => some ((i, .s j lo n sz) :: m, none) | some _ => none
  | .s i lo n sz, .s j lo' n' sz' => if sz = sz' then (match addM m i (.fs j) with | some m' => some (m', some (lo' = lo ∧ n' = n)) | none => none) else none
  | _, _ => none
noncomputable def fitL (m : Srcs) : List SC → List SC → Option (Srcs × Option Prop)
  | [], [] => some (m, none)
  | t :: ts, c :: cs => match fitC m t c with
    | some (m', p) => match fitL m' ts cs with
      | some (m'', q) => some (m'', andO p q)
      | none => none
    | none => none
  | _, _ => none
noncomputable def fitW (m : Srcs) : SW → SW → Option (Srcs × Option Prop)
  | .c t, .c c => fitC m t c
  | .g t, .g c => fitL m t c
  | _, _ => none
noncomputable def fitWs (m : Srcs) : List SW → List SW → Option (Srcs × Option Prop)
  | [], [] => some (m, none)
  | t :: ts, c :: cs => match fitW m t c with
    | some (m', p) => match fitWs m' ts cs with
      | some (m'', q) => some (m'', andO p q)
      | none => none
    | none => none
  | _, _ => none
def SV.isU : SV → Bool
  | .w (.c .u) => true
  | _ => false
noncomputable def fitV (m : Srcs) : SV → SV → Option (Srcs × Option Prop)
  | .w (.c .u), _ => some (m, none)
  | .w t, .w c => fitW m t c
  | .t t, .t c => fitWs m t c
  | _, _ => none
def tlE : Env → Env
  | [] => []
  | _ :: l => l
noncomputable def fitE (m : Srcs) : Env → Env → Option (Srcs × Option Prop)
  | [], _ => some (m, none)
  | t :: ts, cs => match fitV m t (nth .u cs 0) with
    | some (m', p) => match fitE m' ts (tlE cs) with
      | some (m'', q) => some (m'', andO p q)
      | none => none
    | none => none
/-- The variables' cells, in the names' order. -/
noncomputable def fitX (H : Heap) (m : Srcs) : Nat → Heap → Option (Srcs × Option Prop × List Nat)
  | _, [] => some (m, none, [])
  | i, .cells own ty l :: hs => match lk m i with
    | some (.p j 0) => match hget H j with
      | .cells own' ty' l' => if ty = ty' then (match own == own' with
        | true => match fitL m l l' with
          | some (m', p) => match fitX H m' (i + 1) hs with
            | some (m'', q, d) => some (m'', andO p q, i :: d)
            | none => none
          | none => none
        | false => none) else none
      | _ => none
    | some _ => none
    | none => fitX H m (i + 1) hs
  | i, _ :: hs => fitX H m (i + 1) hs
noncomputable def sameName (all : Srcs) (q q' : Nat) : Bool := match lk all q with
  | some (.fs j) => Nat.beq j q'
  | _ => false
noncomputable def fitA (H : Heap) (all : Srcs) (t : HB) (src : SC) : Option (Option Prop) := match t, src with
  | .arr k e own xs, .nls => some (some (xs = []))
  | .arr k e own xs, .fs j => match hget H j with
    | .arr k' e' own' ys => match K.same k' k with
      | some ⟨h⟩ => match own, own' with
        | false, false => some (some ((h ▸ ys : List k.T) = xs))
        | false, true => some (some ((h ▸ ys : List k.T) = xs))
        | true, true => if e = e' then some (some ((h ▸ ys : List k.T) = xs)) else none
        | _, _ => none
      | none => none
    | _ => none
  | .map k f, .m j => match hget H j with
    | .map k' g => match MK.same k' k with
      | some ⟨h⟩ => some (some ((h ▸ g : k.T → Int) = f))
      | none => none
    | _ => none
  | .hole fk e xs ix c, .fs j => match hget H j with
    | .hole fk' e' xs' ix' c' => match FK.same fk' fk with
      | some ⟨h⟩ => if e = e' then (match c, c' with
        | .fs q, .fs q' => match sameName all q q' with | true => some (some ((h ▸ xs' : List (List fk.T)) = xs ∧ ix' = ix)) | false => none
        | .st q m, .st q' m' => match sameName all q q' with | true => some (some ((h ▸ xs' : List (List fk.T)) = xs ∧ ix' = ix ∧ m' = m)) | false => none
        | _, _ => none) else none
      | none => none
    | _ => none
  | .pre fk ys c, .fs j => match hget H j with
    | .pre fk' ys' c' => match FK.same fk' fk with
      | some ⟨h⟩ => some (some ((h ▸ ys' : List fk.T) = ys ∧ c' = c))
      | none => none
    | _ => none
  | .room e rows ix .u, .nls => some (some (rows = []))
  | .room e rows ix .u, .fs j => match hget H j with
    | .room e' rows' _ .u => if e = e' then some (some (rows' = rows)) else none
    | _ => none
  | .room e rows ix (.st q m), .fs j => match hget H j with
    | .room e' rows' ix' (.st q' m') => if e = e' then (match sameName all q q' with | true => some (some (rows' = rows ∧ ix' = ix ∧ m' = m)) | false => none) else none
    | _ => none
  | .dead, _ => some none
  | _, _ => none
/-- All that is reached: arrays fit, variables were fitted. -/
noncomputable def fitM (HT H : Heap) (d : List Nat) (all : Srcs) : Srcs → Option (Option Prop)
  | [] => some none
  | (i, _) :: m => match (match hget HT i with
    | .cells _ _ _ => if d.contains i then some none else none
    | t => match lk all i with
      | some c => fitA H all t c
      | none => none), fitM HT H d all m with
    | some p, some q => some (andO p q)
    | _, _ => none
def srcId : SC → Option Nat
  | .fs j => some j
  | .p j _ => some j
  | .s j _ _ _ => some j
  | .m j => some j
  | _ => none
def clash (i : Nat) (j : Option Nat) : Srcs → Bool
  | [] => false
  | (i', c') :: m => match i == i' with
    | true => clash i j m
    | false => match j, srcId c' with
      | some a, some b => match a == b with | true => true | false => clash i j m
      | _, _ => clash i j m
noncomputable def inj (HT : Heap) (all : Srcs) : Srcs → Bool
  | [] => true
  | (i, c) :: m => match (hget HT i).own with
    | true => match clash i (srcId c) all with | true => false | false => inj HT all m
    | false => inj HT all m
def wfC (n : Nat) : SC → Bool
  | .p i _ | .el i _ _ _ | .fs i | .s i _ _ _ | .m i | .st i _ => Nat.blt i n
  | _ => true
def wfL (n : Nat) : List SC → Bool
  | [] => true
  | c :: l => match wfC n c with | true => wfL n l | false => false
def wfW (n : Nat) : SW → Bool
  | .c x => wfC n x
  | .g l => wfL n l
def wfWs (n : Nat) : List SW → Bool
  | [] => true
  | c :: l => match wfW n c with | true => wfWs n l | false => false
def wfV (n : Nat) : SV → Bool
  | .w x => wfW n x
  | .t l => wfWs n l
def wfE (n : Nat) : Env → Bool
  | [] => true
  | c :: l => match wfV n c with | true => wfE n l | false => false
def wfH (n : Nat) : Heap → Bool
  | [] => true
  | .cells _ _ l :: hs => match wfL n l with | true => wfH n hs | false => false
  | .hole _ _ _ _ c :: hs => match wfC n c with | true => wfH n hs | false => false
  | .room _ _ _ c :: hs => match wfC n c with | true => wfH n hs | false => false
  | _ :: hs => wfH n hs
noncomputable def wfSt (σ : St) : Bool := match wfE σ.n σ.e, wfH σ.n σ.H, Nat.ble (len σ.H) σ.n with
  | true, true, true => true
  | _, _, _ => false
/-- The frames that wait keep their names. -/
noncomputable def idC (m : Srcs) : SC → Srcs
  | .p i _ => match lk m i with | some _ => m | none => (i, .p i 0) :: m
  | .fs i | .s i _ _ _ => match lk m i with | some _ => m | none => (i, .fs i) :: m
  | .m i => match lk m i with | some _ => m | none => (i, .m i) :: m
  | _ => m
noncomputable def idL (m : Srcs) : List SC → Srcs
  | [] => m
  | c :: l => idL (idC m c) l
noncomputable def idW (m : Srcs) : SW → Srcs
  | .c x => idC m x
  | .g l => idL m l
noncomputable def idWs (m : Srcs) : List SW → Srcs
  | [] => m
  | c :: l => idWs (idW m c) l
noncomputable def idV (m : Srcs) : SV → Srcs
  | .w x => idW m x
  | .t l => idWs m l
noncomputable def idE (m : Srcs) : Env → Srcs
  | [] => m
  | c :: l => idE (idV m c) l
/-- Names that a form does not speak of: places in elements. -/
def keptC : SC → Bool
  | .el _ _ _ _ => false
  | .st _ _ => false
  | _ => true
def keptL : List SC → Bool
  | [] => true
  | c :: l => match keptC c with | true => keptL l | false => false
def keptW : SW → Bool
  | .c x => keptC x
  | .g l => keptL l
def keptWs : List SW → Bool
  | [] => true
  | c :: l => match keptW c with | true => keptWs l | false => false
def keptV : SV → Bool
  | .w x => keptW x
  | .t l => keptWs l
def maskX : Env → Env
  | [] => []
  | c :: l => (match keptV c with | true => c | false => .u) :: maskX l
def keptE : Env → Bool
  | [] => true
  | c :: l => match keptV c with | true => keptE l | false => false
/-- The form's memory, as far as it is reached. -/
noncomputable def keepH (m : Srcs) : Nat → Heap → Heap
  | _, [] => []
  | i, h :: hs => (match lk m i with | some _ => h | none => .dead) :: keepH m (i + 1) hs
/-- A state fits a form: what it asks, and the form's part that is reached. -/
noncomputable def fit (x : Env) (τ σ : St) : Option (Option Prop × Srcs) := match fitE (idE [] x) τ.e σ.e with
  | some (m, p) => match fitX σ.H m 0 τ.H with
    | some (m', q, d) => match fitM τ.H σ.H d m' m', inj τ.H m' m', wfSt τ, Nat.ble (len τ.e) (len σ.e), keptE x, wfE τ.n x with
      | some r, true, true, true, true, true => some (andO p (andO q r), m')
      | _, _, _, _, _, _ => none
    | none => none
  | none => none

/-! ### Loops -/
inductive VS where
  | i (s : Nat) | b (s : Nat) | r (s : Nat) (k : FK) | app (s : Nat) (k : FK) (e : Nat) | arr (s : Nat) (k : FK)
  | ci (s off : Nat) | cb (s off : Nat) | capp (s off : Nat) (k : FK) (e : Nat) | car (s off : Nat) (k : FK)
  | mp (s : Nat) (k : MK) | appd (s : Nat) (k : K) (e : Nat) | frz (s : Nat)
  | pr (s : Nat) (k : FK)                                   -- an array's known elements
  | crm (s off : Nat) (e : Nat)                             -- a struct's list of rows with their room
  | pc (s : Nat) | tr (s off : Nat) (ix : Operand) | hr (s off : Nat) | rm (s off : Nat)
  | tk (s : Nat) (ix : Operand) | ts (s : Nat) (ix : Operand) | hl (s : Nat)   -- ahead of a region: a row is taken out of a list (with all its room); it is put back
@[reducible] def VS.T : VS → Type
  | .i _ => Int | .b _ => Bool | .r _ k => k.T | .app _ k _ => List k.T | .arr _ k => List k.T
  | .ci _ _ => Int | .cb _ _ => Bool | .capp _ _ k _ => List k.T | .car _ _ k => List k.T
  | .mp _ k => k.T → Int | .appd _ k _ => List k.T | .frz _ => Unit
  | .pr _ k => List k.T | .tk _ _ => Unit | .ts _ _ => Unit | .hl _ => Unit
  | .crm _ _ _ => List RoomR | .pc _ => Unit | .tr _ _ _ => Unit | .hr _ _ => Unit | .rm _ _ => Unit
def Over (R : Type) : List VS → Type
  | [] => R
  | v :: l => v.T → Over R l
structure LA where (keep : List Nat) (vars : List VS)
noncomputable def fcells (k : FK) (x : k.T) : List SC := (concL (encCV (k.enc x)) 0).1
noncomputable def inCell (σ : St) (s : Nat) (f : List SC → List SC) : St := match nth .u σ.e s with
  | .w (.c (.p id 0)) => match hget σ.H id with
    | .cells o ty l => ⟨σ.e, setAt σ.H id (.cells o ty (f l)), σ.n⟩
    | _ => σ
  | _ => σ
noncomputable def inArr (σ : St) (c : SC) (k : FK) (xs : List k.T) : St := match c with
  | .fs id => match hget σ.H id with
    | .arr _ e own _ => ⟨σ.e, setAt σ.H id (.arr (.f k) e own xs), σ.n⟩
    | _ => σ
  | _ => σ
noncomputable def inPre (σ : St) (c : SC) (k : FK) (xs : List k.T) : St := match c with
  | .fs id => match hget σ.H id with
    | .pre _ _ m => ⟨σ.e, setAt σ.H id (.pre k xs m), σ.n⟩
    | _ => σ
  | _ => σ
noncomputable def getPre (σ : St) (c : SC) (k : FK) : Option (List k.T) := match c with
  | .fs id => match hget σ.H id with
    | .pre k' xs _ => match FK.same k' k with | some ⟨h⟩ => some (h ▸ xs) | none => none
    | _ => none
  | _ => none
noncomputable def mapIn (σ : St) (c : SC) (k : MK) (f : k.T → Int) : St := match c with
  | .m id => match hget σ.H id with
    | .map _ _ => ⟨σ.e, setAt σ.H id (.map k f), σ.n⟩
    | _ => σ
  | _ => σ
noncomputable def freezeAt (σ : St) (c : SC) : St := match c with
  | .fs id => match hget σ.H id with
    | .arr k e _ xs => ⟨σ.e, setAt σ.H id (.arr k e false xs), σ.n⟩
    | _ => σ
  | _ => σ
noncomputable def getArrK (σ : St) (c : SC) (k : K) : Option (List k.T) := match c with
  | .nls => some []
  | .fs id => match hget σ.H id with
    | .arr k' _ _ xs => match K.same k' k with | some ⟨h⟩ => some (h ▸ xs) | none => none
    | _ => none
  | _ => none
noncomputable def atCell (σ : St) (s off : Nat) : SC := match nth .u σ.e s with
  | .w (.c (.p id 0)) => match hget σ.H id with
    | .cells _ _ l => nth .u l off
    | _ => .u
  | _ => .u
noncomputable def hav (σ : St) : (v : VS) → v.T → St
  | .i s, x => ⟨put (.w (.c (.i x))) σ.e s, σ.H, σ.n⟩
  | .b s, x => ⟨put (.w (.c (.b x))) σ.e s, σ.H, σ.n⟩
  | .r s k, x => ⟨put (.w (.g (fcells k x))) σ.e s, σ.H, σ.n⟩
  | .app s k e, xs => ⟨put (.w (.c (.fs σ.n))) σ.e s, setAt σ.H σ.n (.arr (.f k) e true xs), σ.n + 1⟩
  | .arr s k, xs => inArr σ (match nth .u σ.e s with | .w (.c c) => c | _ => .u) k xs
  | .ci s off, x => inCell σ s (fun l => put (.i x) l off)
  | .cb s off, x => inCell σ s (fun l => put (.b x) l off)
  | .capp s off k e, xs => match inCell σ s (fun l => put (.fs σ.n) l off) with
    | σ' => ⟨σ'.e, setAt σ'.H σ'.n (.arr (.f k) e true xs), σ'.n + 1⟩
  | .car s off k, xs => inArr σ (atCell σ s off) k xs
  | .mp s k, f => mapIn σ (match nth .u σ.e s with | .w (.c c) => c | _ => .u) k f
  | .appd s k e, xs => ⟨put (.w (.c (.fs σ.n))) σ.e s, setAt σ.H σ.n (.arr k e true xs), σ.n + 1⟩
  | .frz s, _ => freezeAt σ (match nth .u σ.e s with | .w (.c c) => c | _ => .u)
  | .pr s k, xs => inPre σ (match nth .u σ.e s with | .w (.c c) => c | _ => .u) k xs
  | .tk _ _, _ => σ
  | .ts _ _, _ => σ
  | .hl _, _ => σ
  | .crm s off e, rows => match inCell σ s (fun l => put (.fs σ.n) l off) with
    | σ' => ⟨σ'.e, setAt σ'.H σ'.n (.room e rows 0 .u), σ'.n + 1⟩
  | .pc _, _ => σ
  | .tr _ _ _, _ => σ
  | .hr _ _, _ => σ
  | .rm _ _, _ => σ
noncomputable def getArr (σ : St) (c : SC) (k : FK) : Option (List k.T) := match c with
  | .nls => some []
  | .fs id => match hget σ.H id with
    | .arr (.f k') _ _ xs => match FK.same k' k with | some ⟨h⟩ => some (h ▸ xs) | none => none
    | _ => none
  | _ => none
noncomputable def getMap (σ : St) (c : SC) (k : MK) : Option (k.T → Int) := match c with
  | .m id => match hget σ.H id with
    | .map k' f => match MK.same k' k with | some ⟨h⟩ => some (h ▸ f) | none => none
    | _ => none
  | _ => none
def getI : SC → Option Int
  | .i x => some x
  | _ => none
def getB : SC → Option Bool
  | .b x => some x
  | .l x => some x
  | _ => none
noncomputable def slot (σ : St) (s : Nat) : SC := match nth .u σ.e s with | .w (.c c) => c | _ => .u
noncomputable def getRoom (σ : St) : SC → Option (List RoomR)
  | .nls => some []
  | .fs id => match hget σ.H id with
    | .room _ rows _ .u => some rows
    | _ => none
  | _ => none
noncomputable def ext (σ : St) : (v : VS) → Option v.T
  | .i s => getI (slot σ s)
  | .b s => getB (slot σ s)
  | .r s k => match nth .u σ.e s with
    | .w (.g l) => match cvsOf l with | some cs => k.dec cs | none => none
    | _ => none
  | .app s k _ => getArr σ (slot σ s) k
  | .arr s k => getArr σ (slot σ s) k
  | .ci s off => getI (atCell σ s off)
  | .cb s off => getB (atCell σ s off)
  | .capp s off k _ => getArr σ (atCell σ s off) k
  | .car s off k => getArr σ (atCell σ s off) k
  | .mp s k => getMap σ (slot σ s) k
  | .appd s k _ => getArrK σ (slot σ s) k
  | .frz _ => some ()
  | .pr s k => getPre σ (slot σ s) k
  | .tk _ _ => some ()
  | .ts _ _ => some ()
  | .hl _ => some ()
  | .crm s off _ => getRoom σ (atCell σ s off)
  | .pc _ => some ()
  | .tr _ _ _ => some ()
  | .hr _ _ => some ()
  | .rm _ _ => some ()
/-- All values of a loop's variables: the state at the loop's head. -/
def allV {R : Type} (τ : St) : (vs : List VS) → Over R vs → (St → R → Prop) → Prop
  | [], r, k => k τ r
  | v :: vs, f, k => ∀ x : v.T, allV (hav τ v x) vs (f x) k
/-- The values that a state has. -/
def oneV {R : Type} (τ σ : St) : (vs : List VS) → Over R vs → (St → R → Prop) → Prop
  | [], r, k => k τ r
  | v :: vs, f, k => match ext σ v with
    | some x => oneV (hav τ v x) σ vs (f x) k
    | none => Bad 20 Nat 0
def keepE (ks : List Nat) : Nat → Env → Env
  | _, [] => []
  | i, x :: l => (if ks.contains i then x else .u) :: keepE ks (i + 1) l
def varSlots : List VS → List Nat
  | [] => []
  | .i s :: l | .b s :: l | .r s _ :: l | .app s _ _ :: l | .arr s _ :: l | .ci s _ :: l | .cb s _ :: l | .capp s _ _ _ :: l | .car s _ _ :: l | .mp s _ :: l | .appd s _ _ :: l | .frz s :: l | .pr s _ :: l => s :: varSlots l
  | .crm s _ _ :: l => s :: varSlots l
  | .pc _ :: l | .tr _ _ _ :: l | .hr _ _ :: l | .rm _ _ :: l => varSlots l
  | .tk _ _ :: l | .ts _ _ :: l | .hl _ :: l => varSlots l
def pair {R S : Type} : (vs : List VS) → Over R vs → Over S vs → Over (R × S) vs
  | [], a, b => (a, b)
  | _ :: vs, f, g => fun x => pair vs (f x) (g x)
def okFit (o : Option (Option Prop × Srcs)) (k : Srcs → Prop) : Prop := match o with
  | some (p, m) => conj p (k m)
  | none => Bad 1 Nat 0
noncomputable def cut (m : Srcs) (τ : St) : St := ⟨τ.e, keepH m 0 τ.H, τ.n⟩
noncomputable def cover (m : Srcs) : Nat → Heap → Bool
  | _, [] => true
  | i, h :: hs => match h.live, lk m i with
    | true, none => false
    | _, _ => cover m (i + 1) hs
def loopVC (fx : Env) (la : LA) (σ : St) (body : (St → Prop) → St → Prop) : Prop :=
  match St.mk (keepE (app (varSlots la.vars) la.keep) 0 σ.e) σ.H σ.n with
  | τ => ∃ (inv : Over Prop la.vars) (μ : Over Nat la.vars),
    oneV τ σ la.vars inv (fun τ' p => okFit (fit fx τ' σ) fun _ => p) ∧
    oneV τ σ la.vars inv (fun τ' _ => match fit fx τ' σ with
      | some (_, m) => allV τ la.vars (pair la.vars inv μ) (fun τ' r => r.1 → body (fun σ' =>
          oneV τ σ' la.vars (pair la.vars inv μ) (fun τ'' r' => okFit (fit fx (cut m τ'') σ') fun m' => match cover m' 0 (keepH m 0 τ''.H) with | true => r'.1 ∧ r'.2 < r.2 | false => Bad 2 Nat 0)) (cut m τ'))
      | none => Bad 3 St τ')
/-- Paths that meet: what they have in common, for what follows. -/
def joinVC (fx : Env) (la : LA) (σ : St) (one : (St → Prop) → St → Prop) (two : St → Prop) : Prop :=
  match St.mk (keepE (app (varSlots la.vars) la.keep) 0 σ.e) σ.H σ.n with
  | τ => ∃ inv : Over Prop la.vars,
    oneV τ σ la.vars inv (fun τ' _ => match fit fx τ' σ with
      | some (_, m) => one (fun σ' => oneV τ σ' la.vars inv (fun τ'' r => okFit (fit fx (cut m τ'') σ') fun m' => match cover m' 0 (keepH m 0 τ''.H) with | true => r | false => Bad 2 Nat 0)) σ ∧
          allV τ la.vars inv (fun τ'' r => r → two (cut m τ''))
      | none => Bad 3 St τ')

/-! ### Results -/
def pad : Nat → Env
  | 0 => []
  | n + 1 => .u :: pad n
noncomputable def loadW (T : Tab) (t id off : Nat) (H : Heap) : Option SW := match hget H id, look T t with
  | .cells _ _ l, some (.sc _ _) => if off < len l then some (.c (nth .u l off)) else none
  | .cells _ _ l, some (.st m _ _ _) => if off + m ≤ len l then some (.g (tk m (dr off l))) else none
  | _, _ => none
noncomputable def resWs (T : Tab) (σ : St) : List ResultVar → Option (List SW)
  | [] => some []
  | .tmp t :: l => match nth .u σ.e t, resWs T σ l with
    | .w x, some r => some (x :: r)
    | _, _ => none
  | .cell a t :: l => match nth .u σ.e a with
    | .w (.c (.p id off)) => match loadW T t id off σ.H, resWs T σ l with
      | some x, some r => some (x :: r)
      | _, _ => none
    | _ => none
/-! ### Operations in their order -/
structure Got where (pre : Option Prop) (alts : List (Option Prop × Out))
def resSV : List SW → SV
  | [x] => .w x
  | l => .t l
def shC (n : Nat) : SC → SC
  | .p i o => .p (n + i) o
  | .el i a b c => .el (n + i) a b c
  | .fs i => .fs (n + i)
  | .s i a b c => .s (n + i) a b c
  | .m i => .m (n + i)
  | .st i a => .st (n + i) a
  | c => c
def numb (n : Nat) : List HB → List (Nat × HB)
  | [] => []
  | h :: l => (n, h) :: numb (n + 1) l
def ownH : List HB → Bool
  | [] => true
  | h :: l => match h.own with | true => ownH l | false => false
noncomputable def subL (args : List SV) : List AC → List SC → List SC
  | .al i :: l, _ :: cs => (match nth .u args i with | .w (.c (.p a 0)) => .p a 0 | _ => .u) :: subL args l cs
  | _ :: l, c :: cs => c :: subL args l cs
  | [], cs => cs
  | _, [] => []
/-- A result's variable holds an argument. -/
noncomputable def subA (args : List SV) : List AV → List HB → List HB
  | [.p _ _ l], .cells o t cs :: hs => .cells o t (subL args l cs) :: hs
  | _, hs => hs
def hasL : List AC → Bool
  | [] => false
  | .al _ :: _ => true
  | _ :: l => hasL l
def hasR : List AV → Bool
  | [.p _ _ l] => hasL l
  | _ => false
def hasAl : List Alt → Bool
  | [] => false
  | a :: l => match hasR a.r with | true => true | false => hasAl l
noncomputable def gotAlts (n : Nat) (args : List SV) : List Alt → Option (List (Option Prop × Out))
  | [] => some []
  | a :: l => match concV a.r n, gotAlts n args l with
    | (ws, hs), some r => match ownH hs with
      | true => match hasR a.r with
        | true => some ((a.h, ⟨resSV ws, numb n (subA args a.r hs), n + len hs, none⟩) :: r)
        | false => some ((a.h, ⟨resSV ws, numb n hs, n + len hs, none⟩) :: r)
      | false => none
    | _, none => none
/-- What a call comes to whose result may be a view of its arguments'. -/
noncomputable def gotV (n : Nat) : List Alt → List (Option Prop × Out)
  | [] => []
  | a :: l => match concV a.r n with
    | (ws, hs) => (a.h, ⟨resSV ws, numb n hs, n + len hs, none⟩) :: gotV n l
def HB.seen (h : HB) : HB := match h.own with | true => .dead | false => h
/-- The views alone. -/
noncomputable def viewsOf : Heap → Heap
  | [] => []
  | h :: l => h.seen :: viewsOf l
noncomputable def evs (e : Env) : List Operand → List SV
  | [] => []
  | x :: l => ev e x :: evs e l
noncomputable def stepG (T : Tab) (e : Env) (H : Heap) (n : Nat) (op : Op) : Option Got := match step T e H n op with
  | some o => match Nat.ble n o.n with
    | true => some ⟨o.c, [(none, o)]⟩
    | false => none
  | none => match stepX T e H n op with
    | some o => match Nat.ble n o.n with
      | true => some ⟨o.c, [(none, o)]⟩
      | false => none
    | none => match stepR T e H n op with
      | some o => match Nat.ble n o.n with
        | true => some ⟨o.c, [(none, o)]⟩
        | false => none
      | none => none
noncomputable def stepC (T : Tab) (C : Cons) (e : Env) (H : Heap) (n : Nat) (op : Op) : Option Got := match op with
  | .call c => match c.callee with
    | .value f => match ev e f with
      | .w (.c (.fn g)) => match lk C g with
        | some con => match runArgs H con.ps (evs e c.args.toList) con.run with
          | some (r, p) => match gotAlts n (evs e c.args.toList) r.alts with
            | some l => some ⟨andO p r.pre, l⟩
            | none => match runArgs (viewsOf H) con.ps (evs e c.args.toList) con.run with
              | some (r', p') => some ⟨andO p' r'.pre, gotV n r'.alts⟩
              | none => none
          | none => none
        | none => none
      | _ => none
    | _ => stepG T e H n op
  | _ => stepG T e H n op
noncomputable def putD (d : Option Tmp) (v : SV) (e : Env) : Env := match d with
  | some t => put v e t
  | none => e
noncomputable def St.upd (σ : St) (d : Option Tmp) (o : Out) : St := ⟨putD d o.v σ.e, applyL σ.H o.d, o.n⟩
def allAlts (σ : St) (d : Option Tmp) (k : St → Prop) : List (Option Prop × Out) → Prop
  | [] => True
  | [(h, o)] => imp h (k (σ.upd d o))
  | (h, o) :: l => imp h (k (σ.upd d o)) ∧ allAlts σ d k l
/-- Functions whose code is walked where they are called. -/
abbrev Inl := Nat → Option (Env → List SV → St → (SV → St → Prop) → Prop)
noncomputable def callee (e : Env) (op : Op) : Option (Nat × List SV) := match op with
  | .call c => match c.callee with
    | .value f => match ev e f with
      | .w (.c (.fn g)) => some (g, evs e c.args.toList)
      | _ => none
    | _ => none
  | _ => none
def runC (T : Tab) (C : Cons) (σ : St) (o : Oper) (k : St → Prop) : Prop := match stepC T C σ.e σ.H σ.n o.op with
  | some g => conj g.pre (allAlts σ o.dst k g.alts)
  | none => Bad 4 Oper o
def runOp (T : Tab) (C : Cons) (I : Inl) (fx : Env) (σ : St) (o : Oper) (k : St → Prop) : Prop := match callee σ.e o.op with
  | some (g, args) => match I g with
    | some r => r fx args σ fun v σ' => k ⟨putD o.dst v σ'.e, σ'.H, σ'.n⟩
    | none => runC T C σ o k
  | none => runC T C σ o k
def opDst (ops : List Oper) (g : Nat) : Option Tmp := match ops, g with
  | [], _ => none
  | o :: _, 0 => o.dst
  | _ :: l, n + 1 => opDst l n
def vcSeq (T : Tab) (C : Cons) (I : Inl) (fx : Env) (all : List Oper) : List Oper → St → (St → Prop) → Prop
  | [], σ, k => k σ
  | o :: r, σ, k => match o.guard with
    | none => runOp T C I fx σ o fun σ => vcSeq T C I fx all r σ k
    | some (g, want) => match opDst all g with
      | none => Bad 5 Oper o
      | some s => match nth .u σ.e s with
        | .w (.c (.l x)) => match x == want with
          | true => runOp T C I fx σ o fun σ => vcSeq T C I fx all r σ k
          | false => vcSeq T C I fx all r ⟨putD o.dst (.t []) σ.e, σ.H, σ.n⟩ k
        | .t [] => vcSeq T C I fx all r ⟨putD o.dst (.t []) σ.e, σ.H, σ.n⟩ k
        | .w (.c (.b x)) => (x = want → runOp T C I fx ⟨put (.w (.c (.l want))) σ.e s, σ.H, σ.n⟩ o fun σ => vcSeq T C I fx all r σ k) ∧
            (x = !want → vcSeq T C I fx all r ⟨putD o.dst (.t []) (put (.w (.c (.l (!want)))) σ.e s), σ.H, σ.n⟩ k)
        | _ => Bad 6 Oper o

/-! ### Operations in any order -/
def bit (m i : Nat) : Bool := !(Nat.beq (Nat.land 1 (Nat.shiftRight m i)) 0)
noncomputable def ancOf (acc : List Nat) : List Edge → Nat
  | [] => 0
  | e :: l => match Region.binds .any e with
    | true => Nat.lor (Nat.lor (Nat.shiftLeft 1 e.on) (nth 0 acc e.on)) (ancOf acc l)
    | false => ancOf acc l
def edgesOk (i : Nat) : List Edge → Bool
  | [] => true
  | e :: l => match Region.binds .any e, Nat.blt e.on i with
    | true, false => false
    | _, _ => edgesOk i l
noncomputable def ancsGo : List Oper → List Nat → Option (List Nat)
  | [], acc => some acc
  | o :: r, acc => match edgesOk (len acc) o.after.toList with
    | true => ancsGo r (app acc [ancOf acc o.after.toList])
    | false => none
noncomputable def isInc (ancs : List Nat) (i j : Nat) : Bool := match i == j, bit (nth 0 ancs i) j, bit (nth 0 ancs j) i with
  | false, false, false => true
  | _, _, _ => false
/-- The slots that operations write that are in no order with the i-th. -/
noncomputable def incDst (ancs : List Nat) (i : Nat) : Nat → List Oper → List Tmp
  | _, [] => []
  | j, o :: l => match isInc ancs i j, o.dst with
    | true, some d => d :: incDst ancs i (j + 1) l
    | _, _ => incDst ancs i (j + 1) l
noncomputable def maskE : List Tmp → Env → Env
  | [], e => e
  | d :: l, e => put .u (maskE l e) d
structure LE where (ix : Nat) (H : Heap) (d : List (Nat × HB))
noncomputable def deadL : List (Nat × HB) → Heap → Heap
  | [], H => H
  | (q, _) :: l, H => setAt (deadL l H) q .dead
noncomputable def maskH (ancs : List Nat) (i : Nat) : List LE → Heap → Heap
  | [], H => H
  | l :: L, H => match isInc ancs i l.ix with
    | true => deadL l.d (maskH ancs i L H)
    | false => maskH ancs i L H
def hasKey (q : Nat) : List (Nat × HB) → Bool
  | [] => false
  | (a, _) :: l => match a == q with | true => true | false => hasKey q l
noncomputable def freeOf (l : LE) : List (Nat × HB) → Bool
  | [] => true
  | (q, _) :: d => match hasKey q l.d, (hget l.H q).live with
    | false, false => freeOf l d
    | _, _ => false
noncomputable def apartL (ancs : List Nat) (i : Nat) (d : List (Nat × HB)) : List LE → Bool
  | [] => true
  | l :: L => match isInc ancs i l.ix with
    | true => match freeOf l d with | true => apartL ancs i d L | false => false
    | false => apartL ancs i d L
/-- The blocks that operations write that are in no order with the i-th: by their addresses where the region begins. -/
noncomputable def stKeys (ancs : List Nat) (e : Env) (i : Nat) : Nat → List Oper → List Nat
  | _, [] => []
  | j, o :: l => match isInc ancs i j, o.op with
    | true, .store _ a _ => match ev e a with
      | .w (.c (.p id _)) => id :: stKeys ancs e i (j + 1) l
      | _ => stKeys ancs e i (j + 1) l
    | _, _ => stKeys ancs e i (j + 1) l
def upTo : Nat → List Nat
  | 0 => []
  | n + 1 => n :: upTo n
def upBut (b : Nat) : Nat → List Nat
  | 0 => []
  | n + 1 => match Nat.beq n b with | true => upBut b n | false => n :: upBut b n
/-- The blocks that an operation surely doesn't read. -/
noncomputable def unread (n : Nat) (e : Env) (op : Op) : List Nat := match op with
  | .move _ => upTo n
  | .fieldAddr _ a _ | .nilCheck a | .load _ a => match ev e a with
    | .w (.c (.p id _)) => upBut id n
    | .w (.c (.el id _ _ _)) => upBut id n
    | _ => []
  | _ => []
noncomputable def opKeys (n : Nat) (e : Env) : Nat → List Oper → List Nat
  | _, [] => []
  | 0, o :: _ => unread n e o.op
  | i + 1, _ :: l => opKeys n e i l
def hasStore : List Oper → Bool
  | [] => false
  | o :: l => match o.op with
    | .store _ _ _ => true
    | _ => hasStore l
noncomputable def deadK : List Nat → Heap → Heap
  | [], H => H
  | q :: l, H => setAt (deadK l H) q .dead
def dstOk (d : Option Tmp) (ds : List Tmp) : Bool := match d with
  | none => true
  | some t => !ds.contains t
def vcDraw (T : Tab) (C : Cons) (all : List Oper) (ancs : List Nat) (ks : Nat → Env → List Nat) : List Oper → Nat → St → List LE → (St → Prop) → Prop
  | [], _, σ, _, k => k σ
  | o :: r, i, σ, L, k => match incDst ancs i 0 all with
    | ds => match dstOk o.dst ds with
      | false => Bad 7 Oper o
      | true => match maskE ds σ.e, deadK (ks i (maskE ds σ.e)) (maskH ancs i L σ.H) with
        | e1, H1 =>
          let run (σ : St) (e1 : Env) : Prop := match stepC T C e1 H1 σ.n o.op with
            | some ⟨pre, [(none, out)]⟩ => match apartL ancs i out.d L with
              | true => conj pre (vcDraw T C all ancs ks r (i + 1) (σ.upd o.dst out) (⟨i, H1, out.d⟩ :: L) k)
              | false => Bad 8 Oper o
            | _ => Bad 9 Oper o
          match o.guard with
          | none => run σ e1
          | some (g, want) => match opDst all g with
            | none => Bad 10 Oper o
            | some s => match nth .u e1 s with
              | .w (.c (.l x)) => match x == want with
                | true => run σ e1
                | false => vcDraw T C all ancs ks r (i + 1) ⟨putD o.dst (.t []) σ.e, σ.H, σ.n⟩ L k
              | .t [] => vcDraw T C all ancs ks r (i + 1) ⟨putD o.dst (.t []) σ.e, σ.H, σ.n⟩ L k
              | .w (.c (.b x)) => (x = want → run ⟨put (.w (.c (.l want))) σ.e s, σ.H, σ.n⟩ (put (.w (.c (.l want))) e1 s)) ∧
                  (x = !want → vcDraw T C all ancs ks r (i + 1) ⟨putD o.dst (.t []) (put (.w (.c (.l (!want)))) σ.e s), σ.H, σ.n⟩ L k)
              | _ => Bad 6 Oper o

/-! ### A map's element raised by one, its operations in any order -/
structure MI where (m : Operand) (t kt : Nat) (q : Nat) (ds : List Nat)
def asMove : Oper → Option (Nat × Operand)
  | ⟨some d, .move m, _, _, _, none⟩ => some (d, m)
  | _ => none
def asLoad : Oper → Option (Nat × Nat × Nat)
  | ⟨some d, .load t (.tmp q), _, _, _, none⟩ => some (d, t, q)
  | _ => none
def asLook : Oper → Option (Nat × Nat × Nat × Nat)
  | ⟨some d, .lookup t (.tmp x) (.tmp y) false, _, _, _, none⟩ => some (d, t, x, y)
  | _ => none
def asInc : Oper → Option (Nat × Nat)
  | ⟨some d, .binOp .add _ (.tmp x) (.const (.int .i64 n)) _, _, _, _, none⟩ => match Int.decEq n 1 with | isTrue _ => some (d, x) | isFalse _ => none
  | _ => none
def asEntry : Oper → Option (Nat × Nat × Nat × Nat)
  | ⟨some d, .mapEntry t (.tmp x) (.tmp y), _, _, _, none⟩ => some (d, t, x, y)
  | _ => none
def asStamp : Oper → Option (Nat × Nat)
  | ⟨some d, .extract (.tmp x) 1, _, _, _, none⟩ => some (d, x)
  | _ => none
def asEStore : Oper → Option (Nat × Nat × Nat × Nat)
  | ⟨none, .entryStore t (.tmp x) (.tmp s) (.tmp v), _, _, _, none⟩ => some (t, x, s, v)
  | _ => none
def depOk (o : Oper) : List Nat → Bool
  | [] => true
  | j :: l => match o.after.toList.any fun e => Region.binds .any e && Nat.beq e.on j with | true => depOk o l | false => false
def tmpsOk (m : Operand) (q d0 d1 d2 d3 d4 d5 : Nat) : Bool :=
  (match m with | .tmp t => !([d0, d1, d2, d3, d4, d5].contains t) | _ => true) && !([d0, d1, d2, d3, d4, d5].contains q) && !([d1, d2, d3, d4, d5].contains d0) && !([d2, d3, d4, d5].contains d1) && !([d3, d4, d5].contains d2) && !([d4, d5].contains d3) && !([d5].contains d4)
def edgesAll : Nat → List Oper → Bool
  | _, [] => true
  | i, o :: l => match edgesOk i o.after.toList with | true => edgesAll (i + 1) l | false => false
def mapInc : List Oper → Option MI
  | [o0, o1, o2, o3, o4, o5, o6] => match asMove o0, asLoad o1, asLook o2, asInc o3 with
    | some (d0, m), some (d1, kt, q), some (d2, t, x0, x1), some (d3, x2) => match asEntry o4, asStamp o5, asEStore o6 with
      | some (d4, t', y0, y1), some (d5, y4), some (t'', z0, z5, z3) =>
        match (Nat.beq x0 d0 && Nat.beq x1 d1 && Nat.beq x2 d2 && Nat.beq t' t && Nat.beq y0 d0 && Nat.beq y1 d1 && Nat.beq y4 d4 && Nat.beq z0 d0 && Nat.beq z5 d5 && Nat.beq z3 d3) &&
          tmpsOk m q d0 d1 d2 d3 d4 d5 && depOk o2 [0, 1] && depOk o3 [2] && depOk o4 [0, 1] && depOk o5 [4] && depOk o6 [0, 1, 2, 3, 4, 5] && edgesAll 0 [o0, o1, o2, o3, o4, o5, o6] with
        | true => some ⟨m, t, kt, q, [d0, d1, d2, d3, d4, d5]⟩
        | false => none
      | _, _, _ => none
    | _, _, _, _ => none
  | _ => none
noncomputable def incSt (T : Tab) (σ : St) (mi : MI) : Option St := match look T mi.t, ev σ.e mi.m, nth .u σ.e mi.q with
  | some (.mp .stop _ _ _ _), .w (.c (.m id)), .w (.c (.p j off)) => match hget σ.H id, hget σ.H j, look T mi.kt with
    | .map .stop f, .cells _ _ l, some (.st n _ _ _) => match Nat.ble (off + n) (len l), keyC .stop (.w (.g (tk n (dr off l)))), mi.ds.all (fun d => Nat.blt d (len σ.e)) with
      | true, some y, true => some ⟨maskE mi.ds σ.e, setAt σ.H id (.map .stop (upF f y (wrap (f y + 1)))), σ.n⟩
      | _, _, _ => none
    | _, _, _ => none
  | _, _, _ => none

/-! ### A walked call behind all of its region's other operations -/
def splitLast : List Oper → Option (List Oper × Oper)
  | [] => none
  | o :: l => match l with
    | [] => some ([], o)
    | _ :: _ => match splitLast l with
      | some (x, y) => some (o :: x, y)
      | none => none
def isWalk (I : Inl) (o : Oper) : Bool := match o.guard, o.op with
  | none, .call c => match c.callee with
    | .value (.func g) => (I g).isSome
    | _ => false
  | _, _ => false
def allBelow (m : Nat) : Nat → Bool
  | 0 => true
  | n + 1 => match bit m n with | true => allBelow m n | false => false
noncomputable def lastWalk (I : Inl) (ancs : List Nat) (ops : List Oper) : Option (List Oper × Oper) := match splitLast ops with
  | some (x, o) => match isWalk I o, allBelow (nth 0 ancs (len x)) (len x) with
    | true, true => some (x, o)
    | _, _ => none
  | none => none

structure Kont where (norm : St → Prop) (ret : St → Prop) (ex : List (Nat × (St → Prop)))
noncomputable def lit (σ : St) (c : Operand) (x : Bool) : St := match c with
  | .tmp t => ⟨put (.w (.c (.l x))) σ.e t, σ.H, σ.n⟩
  | _ => σ
def firstR : Code → Option Nat
  | .region i _ _ => some i
  | .seq a b => match firstR a with | some i => some i | none => firstR b
  | .cond _ a b => match firstR a with | some i => some i | none => firstR b
  | .block _ c => firstR c
  | .loop c => firstR c
  | _ => none

/-- Rows taken out, put back: no operation. -/
def ghosts : List VS → St → (St → Prop) → Prop
  | [], σ, k => k σ
  | .tk s o :: l, σ, k => match nth .u σ.e s, ev σ.e o with
    | .w (.c (.fs id)), .w (.c (.i j)) => match hget σ.H id with
      | .arr (.rows fk) e true xs => (0 ≤ j ∧ j < (xs.length : Int)) ∧ ∀ e' : Nat, ghosts l ⟨σ.e, setAt (setAt σ.H id (.hole fk e xs j.toNat (.fs σ.n))) σ.n (.arr (.f fk) e' true (xs.getD j.toNat [])), σ.n + 1⟩ k
      | _ => Bad 25 Nat id
    | _, _ => Bad 26 Nat s
  | .ts s o :: l, σ, k => match nth .u σ.e s, ev σ.e o with
    | .w (.c (.fs id)), .w (.c (.i j)) => match hget σ.H id with
      | .arr (.rows fk) e true xs => (0 ≤ j ∧ j < (xs.length : Int)) ∧ ∀ c : Nat, (xs.getD j.toNat []).length ≤ c → LenOk c →
          ghosts l ⟨σ.e, setAt (setAt σ.H id (.hole fk e xs j.toNat (.st σ.n (xs.getD j.toNat []).length))) σ.n (.pre fk (xs.getD j.toNat []) c), σ.n + 1⟩ k
      | _ => Bad 25 Nat id
    | _, _ => Bad 26 Nat s
  | .hl s :: l, σ, k => match nth .u σ.e s with
    | .w (.c (.fs id)) => match hget σ.H id with
      | .hole fk e xs ix (.fs q) => match hget σ.H q with
        | .arr (.f fk2) _ true ys => match FK.same fk2 fk with
          | some ⟨h⟩ => ghosts l ⟨σ.e, setAt (setAt σ.H q .dead) id (.arr (.rows fk) e true (xs.set ix (h ▸ ys))), σ.n⟩ k
          | none => Bad 27 Nat q
        | _ => Bad 27 Nat q
      | .hole fk e xs ix (.st q m) => match hget σ.H q with
        | .pre fk2 ys _ => match FK.same fk2 fk with
          | some ⟨h⟩ => m ≤ ys.length ∧ ghosts l ⟨σ.e, setAt (setAt σ.H q .dead) id (.arr (.rows fk) e true (xs.set ix ((h ▸ ys : List fk.T).take m))), σ.n⟩ k
          | none => Bad 27 Nat q
        | _ => Bad 27 Nat q
      | _ => ghosts l σ k
    | _ => ghosts l σ k
  | .pc s :: l, σ, k => match nth .u σ.e s with
    | .w (.c (.fs id)) => match hget σ.H id with
      | .arr (.f fk) e true xs => ∀ c : Nat, xs.length ≤ c → LenOk c → ghosts l ⟨put (.w (.c (.st σ.n xs.length))) σ.e s, setAt (setAt σ.H id .dead) σ.n (.pre fk xs c), σ.n + 1⟩ k
      | _ => Bad 28 Nat id
    | _ => Bad 28 Nat s
  | .tr s off o :: l, σ, k => match atCell σ s off, ev σ.e o with
    | .fs id, .w (.c (.i j)) => match hget σ.H id with
      | .room e rows _ .u => (0 ≤ j ∧ j < (rows.length : Int)) ∧ ∀ c : Nat, (rows.getD j.toNat ⟨[], 0, false⟩).m ≤ c → (rows.getD j.toNat ⟨[], 0, false⟩).ys.length ≤ c → LenOk c → ((rows.getD j.toNat ⟨[], 0, false⟩).full = true → (rows.getD j.toNat ⟨[], 0, false⟩).ys.length = c) →
          ghosts l ⟨σ.e, setAt (setAt σ.H id (.room e rows j.toNat (.st σ.n (rows.getD j.toNat ⟨[], 0, false⟩).m))) σ.n (.pre .int (rows.getD j.toNat ⟨[], 0, false⟩).ys c), σ.n + 1⟩ k
      | _ => Bad 29 Nat id
    | _, _ => Bad 29 Nat s
  | .hr s off :: l, σ, k => match atCell σ s off with
    | .fs id => match hget σ.H id with
      | .room e rows ix (.st q m) => match hget σ.H q with
        | .pre .int ys c => ghosts l ⟨σ.e, setAt (setAt σ.H q .dead) id (.room e (rows.set ix ⟨ys, m, decide (ys.length = c)⟩) 0 .u), σ.n⟩ k
        | _ => Bad 30 Nat q
      | _ => ghosts l σ k
    | _ => ghosts l σ k
  | .rm s off :: l, σ, k => match atCell σ s off with
    | .fs id => match hget σ.H id with
      | .arr (.rows .int) e true xs => ghosts l ⟨σ.e, setAt σ.H id (.room e (xs.map fun y => ⟨y, y.length, false⟩) 0 .u), σ.n⟩ k
      | _ => ghosts l σ k
    | _ => ghosts l σ k
  | .frz s :: l, σ, k => match nth .u σ.e s with
    | .w (.c (.fs id)) => match hget σ.H id with
      | .arr k' e true xs => ghosts l ⟨σ.e, setAt σ.H id (.arr k' e false xs), σ.n⟩ k
      | _ => ghosts l σ k
    | _ => ghosts l σ k
  | _ :: l, σ, k => ghosts l σ k
def ghostVC (A : List (Nat × LA)) (i : Nat) (σ : St) (k : St → Prop) : Prop := match lk A (i + 2000000) with
  | some la => ghosts la.vars σ k
  | none => k σ

def vcCode (T : Tab) (C : Cons) (I : Inl) (A : List (Nat × LA)) (fx : Env) : Code → Kont → St → Prop
  | .skip, K, σ => K.norm σ
  | .seq a b, K, σ => match firstR b with
    | some i => match lk A (i + 1000000) with
      | some la => joinVC fx la σ (fun k σ => vcCode T C I A fx a ⟨k, K.ret, K.ex⟩ σ) (fun σ => vcCode T C I A fx b K σ)
      | none => vcCode T C I A fx a ⟨fun σ => vcCode T C I A fx b K σ, K.ret, K.ex⟩ σ
    | none => vcCode T C I A fx a ⟨fun σ => vcCode T C I A fx b K σ, K.ret, K.ex⟩ σ
  | .cond c a b, K, σ => match ev σ.e c with
    | .w (.c (.l true)) => vcCode T C I A fx a K σ
    | .w (.c (.l false)) => vcCode T C I A fx b K σ
    | .w (.c (.b x)) => (x = true → vcCode T C I A fx a K (lit σ c true)) ∧ (x = false → vcCode T C I A fx b K (lit σ c false))
    | _ => Bad 12 Operand c
  | .block i c, K, σ => vcCode T C I A fx c ⟨K.norm, K.ret, (i, K.norm) :: K.ex⟩ σ
  | .exit i, K, σ => match lk K.ex i with
    | some k => k σ
    | none => Bad 13 Nat i
  | .loop c, K, σ => match firstR c with
    | some i => match lk A i with
      | some la => loopVC fx la σ (fun k σ => vcCode T C I A fx c ⟨k, K.ret, K.ex⟩ σ)
      | none => Bad 14 Nat i
    | none => Bad 15 Nat 0
  | .ret, K, σ => K.ret σ
  | .region i ops false, K, σ => ghostVC A i σ fun σ => vcSeq T C I fx ops.toList ops.toList σ fun σ => ghostVC A (i + 1000000) σ K.norm
  | .region i ops true, K, σ => ghostVC A i σ fun σ => match mapInc ops.toList with
    | some mi => match incSt T σ mi with
      | some σ' => K.norm σ'
      | none => Bad 24 Nat 0
    | none => match ancsGo ops.toList [] with
      | some ancs => match lastWalk I ancs ops.toList with
        | some (x, o) => vcDraw T C ops.toList ancs (fun _ _ => []) x 0 σ [] (fun σ => runOp T C I fx σ o K.norm)
        | none => match hasStore ops.toList with
          | true => vcDraw T C ops.toList ancs (fun i e => app (opKeys (len σ.H) e i ops.toList) (stKeys ancs σ.e i 0 ops.toList)) ops.toList 0 σ [] K.norm
          | false => vcDraw T C ops.toList ancs (fun _ _ => []) ops.toList 0 σ [] K.norm
      | none => Bad 16 Nat 0
  | _, _, _ => Bad 17 Nat 0

/-- A function that is called is walked in the caller's memory; the caller's slots wait. -/
structure InlE where (fn : Func) (A : List (Nat × LA))
abbrev Inls := List (Nat × InlE)
def enter (T : Tab) (vc : List (Nat × LA) → Env → Code → Kont → St → Prop) (en : InlE) (fx : Env) (args : List SV) (σ : St) (k : SV → St → Prop) : Prop := match en.fn.body with
  | some c => match maskX σ.e with
    | e0 => match (fun σ' : St => match resWs T σ' en.fn.results.toList with
        | some ws => k (resSV ws) ⟨e0, σ'.H, σ'.n⟩
        | none => Bad 21 Nat 0) with
      | R => vc en.A (app e0 fx) c ⟨R, R, []⟩ ⟨app args (pad (en.fn.ntmps - len args)), σ.H, σ.n⟩
  | none => Bad 22 Nat 0
noncomputable def vcLev (T : Tab) (C : Cons) (Is : Inls) : Nat → Inl
  | 0 => fun _ => none
  | d + 1 => fun g => match lk Is g with
    | some en => some (enter T (fun A fx c K σ => vcCode T C (vcLev T C Is d) A fx c K σ) en)
    | none => none
/-! ### A function's end -/
/-- The results fit what was told. -/
noncomputable def fitR (σ : St) (ws : List SW) (r : List AV) : Option (Option Prop) := match concV r 0 with
  | (ts, HR) => match fitWs [] ts ws with
    | some (m, p) => match fitX σ.H m 0 HR with
      | some (m', q, d) => match fitM HR σ.H d m' m', inj HR m' m', wfWs (len HR) ts, wfH (len HR) HR, cover m' 0 HR with
        | some s, true, true, true, true => some (andO p (andO q s))
        | _, _, _, _, _ => none
      | none => none
    | none => none
noncomputable def alL (fx : Env) : List AC → List SC → Bool
  | .al i :: l, c :: cs => match nth .u fx i, c with
    | .w (.c (.p a 0)), .p b 0 => match Nat.beq a b with | true => alL fx l cs | false => false
    | _, _ => false
  | .al _ :: _, [] => false
  | _ :: l, _ :: cs => alL fx l cs
  | _ :: l, [] => alL fx l []
  | [], _ => true
noncomputable def alChk (fx : Env) (σ : St) : List AV → List SW → Bool
  | [.p _ _ l], ws => match hasL l with
    | false => true
    | true => match ws with
      | [.c (.p id 0)] => (match hget σ.H id with
        | .cells _ _ cs => alL fx l cs
        | _ => false)
      | _ => false
  | _, _ => true
def altOk (fx : Env) (σ : St) (ws : List SW) (a : Alt) : Prop := match fitR σ ws a.r, alChk fx σ a.r ws with
  | some p, true => holdsO (andO a.h p)
  | _, _ => Bad 18 (List SW) ws
def anyAlt (fx : Env) (σ : St) (ws : List SW) : List Alt → Prop
  | [] => False
  | [a] => altOk fx σ ws a
  | a :: l => altOk fx σ ws a ∨ anyAlt fx σ ws l
def retK (T : Tab) (fx : Env) (rs : List ResultVar) (as : List Alt) (σ : St) : Prop := match resWs T σ rs with
  | some ws => anyAlt fx σ ws as
  | none => Bad 19 Nat 0
/-- The arguments are kept where a result holds one of them. -/
def fxOf (as : List Alt) (e : Env) : Env := match hasAl as with
  | true => e
  | false => []
def vcFnI (T : Tab) (C : Cons) (Is : Inls) (A : List (Nat × LA)) (fn : Func) (con : Con) : Prop := match fn.body with
  | some c => allArgs con.ps [] [] con.run fun e H r => imp r.pre (vcCode T C (vcLev T C Is 4) A (fxOf r.alts e) c ⟨retK T (fxOf r.alts e) fn.results.toList r.alts, retK T (fxOf r.alts e) fn.results.toList r.alts, []⟩ ⟨app e (pad (fn.ntmps - len e)), H, len H⟩)
  | none => False
def vcFn (T : Tab) (C : Cons) (A : List (Nat × LA)) (fn : Func) (con : Con) : Prop := vcFnI T C [] A fn con
end Go.Eng

/- Conditions are sound: operations in their order, calls by what was told of them. -/
set_option linter.unusedVariables false
set_option linter.unusedSimpArgs false
namespace Go.Eng
open Go Go.RowKit

theorem nth_put_same {α : Type} (d v : α) : ∀ (l : List α) (i : Nat), i < l.length → nth d (put v l i) i = v
  | [], _, h => by simp at h
  | _ :: l, 0, _ => rfl
  | _ :: l, i + 1, h => nth_put_same d v l i (by simpa using h)
theorem nth_put_ne {α : Type} (d v : α) : ∀ (l : List α) (i j : Nat), j ≠ i → nth d (put v l i) j = nth d l j
  | [], _, _, _ => rfl
  | _ :: l, 0, 0, h => absurd rfl h
  | _ :: l, 0, j + 1, _ => rfl
  | _ :: l, i + 1, 0, _ => rfl
  | _ :: l, i + 1, j + 1, h => nth_put_ne d v l i j (by omega)
theorem put_out {α : Type} (v : α) : ∀ (l : List α) (i : Nat), l.length ≤ i → put v l i = l
  | [], _, _ => rfl
  | _ :: l, 0, h => by simp at h
  | _ :: l, i + 1, h => by rw [put_succ, put_out v l i (by simpa using h)]
theorem put_length {α : Type} (v : α) : ∀ (l : List α) (i : Nat), (put v l i).length = l.length
  | [], _ => rfl
  | _ :: l, 0 => rfl
  | _ :: l, i + 1 => by simp [put_succ, put_length v l i]
theorem nth_out {α : Type} (d : α) : ∀ (l : List α) (i : Nat), l.length ≤ i → nth d l i = d
  | [], _, _ => rfl
  | _ :: l, 0, h => by simp at h
  | _ :: l, i + 1, h => nth_out d l i (by simpa using h)
theorem hget_setAt : ∀ (H : Heap) (i : Nat) (x : HB), hget (setAt H i x) = upd (hget H) i x
  | [], 0, x => by funext j; cases j <;> simp [hget, setAt_nz, setAt_ns, setAt_cz, setAt_cs, nth_nil, nth_zero, nth_succ, Eng.upd]
  | [], i + 1, x => by
    funext j
    cases j with
    | zero => simp [hget, setAt_nz, setAt_ns, setAt_cz, setAt_cs, nth_nil, nth_zero, nth_succ, Eng.upd]
    | succ j =>
      have := congrFun (hget_setAt [] i x) j
      simp only [hget, setAt_nz, setAt_ns, setAt_cz, setAt_cs, nth_nil, nth_zero, nth_succ, Eng.upd] at this ⊢
      rw [this]
      simp
  | _ :: l, 0, x => by funext j; cases j <;> simp [hget, setAt_nz, setAt_ns, setAt_cz, setAt_cs, nth_nil, nth_zero, nth_succ, Eng.upd]
  | y :: l, i + 1, x => by
    funext j
    cases j with
    | zero => simp [hget, setAt_nz, setAt_ns, setAt_cz, setAt_cs, nth_nil, nth_zero, nth_succ, Eng.upd]
    | succ j =>
      have := congrFun (hget_setAt l i x) j
      simp only [hget, setAt_nz, setAt_ns, setAt_cz, setAt_cs, nth_nil, nth_zero, nth_succ, Eng.upd] at this ⊢
      rw [this]
      simp
theorem hget_applyL : ∀ (d : List (Nat × HB)) (H : Heap), hget (applyL H d) = applyD (hget H) d
  | [], _ => rfl
  | (i, x) :: l, H => by rw [applyL, hget_applyL l, hget_setAt]; rfl

theorem conj_iff {p : Option Prop} {q : Prop} : conj p q ↔ holdsO p ∧ q := by cases p <;> simp [conj, holdsO]
theorem imp_iff {p : Option Prop} {q : Prop} : imp p q ↔ (holdsO p → q) := by cases p <;> simp [imp, holdsO]
theorem andO_iff {p q : Option Prop} : holdsO (andO p q) ↔ holdsO p ∧ holdsO q := by cases p <;> cases q <;> simp [andO, holdsO]

section
variable {P : Program} {T : Tab} {B : Nat} {w0 : Base}

/-- The frames that wait: their slots, as states tell them and as they are. -/
structure Fr where (x : Env) (v : Nat → Value)
def Fr.ok (F : Fr) (ρ : Nat → Value) (U : Nat → Prop) : Prop := ∀ j, DenV ρ (nth .u F.x j) (F.v j) ∧ (nth .u F.x j).wf U
theorem Fr.ok.next {F : Fr} {ρ ρ' : Nat → Value} {U U' : Nat → Prop} (h : F.ok ρ U) (hρ : ∀ x, U x → ρ' x = ρ x) (hU : ∀ x, U x → U' x) : F.ok ρ' U' := fun j => ⟨(h j).1.anchors (h j).2 hρ, (h j).2.mono hU⟩
/-- What the walk knows: the frame's values and the world are those that the state tells of. -/
structure Sim (B : Nat) (w0 : Base) (F : Fr) (σ : St) (a : Act) (w : World) : Prop where
  defers : a.defers = []
  size : σ.e.length ≤ a.tmps.size
  mem : ∃ ρ φ, Mem B w0 ρ φ (· < σ.n) (hget σ.H) w ∧ (∀ t, DenV ρ (nth .u σ.e t) (a.tmps.getD t undef) ∧ (nth .u σ.e t).wf (· < σ.n)) ∧ F.ok ρ (· < σ.n)
/-- .. and of one value more. -/
structure SimV (B : Nat) (w0 : Base) (F : Fr) (σ : St) (a : Act) (w : World) (s : SV) (u : Value) : Prop where
  defers : a.defers = []
  size : σ.e.length ≤ a.tmps.size
  mem : ∃ ρ φ, Mem B w0 ρ φ (· < σ.n) (hget σ.H) w ∧ (∀ t, DenV ρ (nth .u σ.e t) (a.tmps.getD t undef) ∧ (nth .u σ.e t).wf (· < σ.n)) ∧ F.ok ρ (· < σ.n) ∧ DenV ρ s u ∧ s.wf (· < σ.n)

variable {F : Fr} {I : Inl}
theorem ev_den {ρ : Nat → Value} {e : Env} {a : Act} (h : ∀ t, DenV ρ (nth .u e t) (a.tmps.getD t undef)) (x : Operand) : DenV ρ (ev e x) (a.eval x) := by
  cases x with
  | tmp t => exact h t
  | const v => exact cst_den
  | func f => rfl
  | global g => trivial
theorem ev_wf {U : Nat → Prop} {e : Env} (h : ∀ t, (nth .u e t).wf U) (x : Operand) : (ev e x).wf U := by
  cases x with
  | tmp t => exact h t
  | const v => exact cst_wf
  | func f => exact fun _ h => h.elim
  | global g => exact fun _ h => h.elim

theorem put_getD {a : Act} {d t : Nat} {v : Value} : (a.put (some d) v).tmps.getD t undef = if d = t ∧ d < a.tmps.size then v else a.tmps.getD t undef := by
  simp only [Act.put]
  by_cases h : d = t
  · subst h
    by_cases hd : d < a.tmps.size
    · simp [hd]
    · simp [hd]
  · simp [Array.getElem?_setIfInBounds_ne h, h]
theorem put_tmps_size {a : Act} {d : Option Tmp} {v : Value} : (a.put d v).tmps.size = a.tmps.size := by cases d <;> simp [Act.put]
theorem put_defers {a : Act} {d : Option Tmp} {v : Value} : (a.put d v).defers = a.defers := by cases d <;> rfl

/-- A slot is written. -/
theorem den_put {ρ : Nat → Value} {U : Nat → Prop} {e : Env} {a : Act} {d : Option Tmp} {s : SV} {v : Value} (hsz : e.length ≤ a.tmps.size) (h : ∀ t, DenV ρ (nth .u e t) (a.tmps.getD t undef) ∧ (nth .u e t).wf U) (hv : DenV ρ s v) (hw : s.wf U) (t : Nat) :
    DenV ρ (nth .u (putD d s e) t) ((a.put d v).tmps.getD t undef) ∧ (nth .u (putD d s e) t).wf U := by
  cases d with
  | none => exact h t
  | some d =>
    rw [put_getD]
    simp only [putD]
    by_cases hdt : d = t
    · subst hdt
      by_cases hd : d < e.length
      · rw [nth_put_same _ _ _ _ hd, if_pos ⟨rfl, Nat.lt_of_lt_of_le hd hsz⟩]
        exact ⟨hv, hw⟩
      · rw [put_out _ _ _ (Nat.le_of_not_lt hd), nth_out _ _ _ (Nat.le_of_not_lt hd)]
        exact ⟨trivial, fun _ h => h.elim⟩
    · rw [nth_put_ne _ _ _ _ _ (fun h => hdt h.symm), if_neg (by simp [hdt])]
      exact h t
theorem putD_length {d : Option Tmp} {s : SV} {e : Env} : (putD d s e).length = e.length := by cases d <;> simp [putD, put_length]

theorem Sim.upd {σ : St} {a : Act} {w' : World} {u : Value} {d : Option Tmp} {o : Out} {ρ ρ' : Nat → Value} {φ' : Nat → Nat → Prop} (hdef : a.defers = []) (hsz : σ.e.length ≤ a.tmps.size)
    (hden : ∀ t, DenV ρ (nth .u σ.e t) (a.tmps.getD t undef) ∧ (nth .u σ.e t).wf (· < σ.n)) (hF : F.ok ρ (· < σ.n)) (hn : σ.n ≤ o.n)
    (hm : Mem B w0 ρ' φ' (U' (· < σ.n) σ.n o.n) (applyD (hget σ.H) o.d) w') (hρ : ∀ x, x < σ.n → ρ' x = ρ x) (hv : DenV ρ' o.v u) (hw : o.v.wf (U' (· < σ.n) σ.n o.n)) :
    Sim B w0 F (σ.upd d o) (a.put d u) w' := by
  have hU : ∀ x, U' (· < σ.n) σ.n o.n x → x < o.n := fun x hx => by
    rcases hx with hx | hx
    · exact Nat.lt_of_lt_of_le hx hn
    · exact hx.2
  refine ⟨by rw [put_defers]; exact hdef, by simp only [St.upd]; rw [putD_length, put_tmps_size]; exact hsz, ρ', φ', ?_, ?_, hF.next hρ fun x hx => Nat.lt_of_lt_of_le hx hn⟩
  · simp only [St.upd, hget_applyL]
    exact hm.mono hU
  · refine den_put hsz (fun t => ⟨(hden t).1.anchors (hden t).2 hρ, (hden t).2.mono fun x hx => Nat.lt_of_lt_of_le hx hn⟩) hv (hw.mono hU)

/-- A slot's truth becomes known. -/
theorem den_lit {ρ : Nat → Value} {U : Nat → Prop} {e : Env} {a : Act} {s : Nat} {x y : Bool} (h : ∀ t, DenV ρ (nth .u e t) (a.tmps.getD t undef) ∧ (nth .u e t).wf U) (hs : nth .u e s = .w (.c (.b x))) (hx : x = y) (t : Nat) :
    DenV ρ (nth .u (put (.w (.c (.l y))) e s) t) (a.tmps.getD t undef) ∧ (nth .u (put (.w (.c (.l y))) e s) t).wf U := by
  by_cases hst : t = s
  · subst hst
    by_cases hl : t < e.length
    · rw [nth_put_same _ _ _ _ hl]
      have := (h t).1
      rw [hs] at this
      subst hx
      exact ⟨this, fun _ h => h.elim⟩
    · rw [nth_out _ _ _ (by omega)] at hs
      cases hs
  · rw [nth_put_ne _ _ _ _ _ hst]
    exact h t
theorem Sim.lit {σ : St} {a : Act} {w : World} {s : Nat} {x y : Bool} (h : Sim B w0 F σ a w) (hs : nth .u σ.e s = .w (.c (.b x))) (hx : x = y) : Sim B w0 F ⟨put (.w (.c (.l y))) σ.e s, σ.H, σ.n⟩ a w := by
  obtain ⟨h1, h2, ρ, φ, hm, hd, hF⟩ := h
  exact ⟨h1, by simp only [put_length]; exact h2, ρ, φ, hm, den_lit hd hs hx, hF⟩
theorem Sim.skip {σ : St} {a : Act} {w : World} {d : Option Tmp} (h : Sim B w0 F σ a w) : Sim B w0 F ⟨putD d (.t []) σ.e, σ.H, σ.n⟩ (a.put d undef) w := by
  obtain ⟨h1, h2, ρ, φ, hm, hd, hF⟩ := h
  refine ⟨by rw [put_defers]; exact h1, by simp only [putD_length, put_tmps_size]; exact h2, ρ, φ, hm, den_put h2 hd ⟨#[], rfl, rfl, fun j c hc => by simp at hc⟩ (fun c hc => by simp at hc), hF⟩
theorem SimV.put {σ : St} {a : Act} {w : World} {s : SV} {u : Value} {d : Option Tmp} (h : SimV B w0 F σ a w s u) : Sim B w0 F ⟨putD d s σ.e, σ.H, σ.n⟩ (a.put d u) w := by
  obtain ⟨h1, h2, ρ, φ, hm, hd, hF, hs, hw⟩ := h
  exact ⟨by rw [put_defers]; exact h1, by simp only [putD_length, put_tmps_size]; exact h2, ρ, φ, hm, den_put h2 hd hs hw, hF⟩

/-- What one operation comes to: a value, told by one of the outs; the world's memory after it. -/
def Fines (B : Nat) (w0 : Base) (ρ : Nat → Value) (U : Nat → Prop) (H : Nat → HB) (n : Nat) (l : List (Option Prop × Out)) (u : Value) (w' : World) : Prop :=
  ∃ h o, (h, o) ∈ l ∧ holdsO h ∧ ∃ ρ' φ', Mem B w0 ρ' φ' (U' U n o.n) (applyD H o.d) w' ∧ (∀ x, U x → ρ' x = ρ x) ∧ DenV ρ' o.v u ∧ o.v.wf (U' U n o.n)
def Runs (P : Program) (r : Result Next) (post : Value → World → Prop) : Prop := match r with
  | .ok (.value v) w' => post v w'
  | .ok .skip w' => post undef w'
  | .ok (.enter f args) w' => Calls P f args w' fun e w'' => match e with
    | .returned v => post v w''
    | _ => False
  | _ => False
theorem Runs.wp {o : Oper} {a : Act} {w : World} {next : Act → World → Prop} {Q : Exit → Act → World → Prop} {post : Value → World → Prop} (h : Runs P ((execOp a.eval o).run P w) post) (hn : ∀ u w', post u w' → next (a.put o.dst u) w') : o.wp P a w next Q := by
  unfold Oper.wp
  generalize (execOp a.eval o).run P w = r at *
  unfold Runs at h
  split at h
  · exact hn _ _ h
  · exact hn _ _ h
  · refine Calls.mono h fun e w'' he => ?_
    cases e with
    | returned v => exact hn _ _ he
    | panicked c => exact he.elim
    | outgrown => exact he.elim
  · exact h.elim
theorem Fine.runs {ρ : Nat → Value} {U : Nat → Prop} {H : Nat → HB} {n : Nat} {r : Result Next} {o : Out} (h : Fine B w0 ρ U H r o.v o.d n o.n) : Runs P r (Fines B w0 ρ U H n [(none, o)]) := by
  obtain ⟨u, w', ρ', φ', hr, hm, h1, h2, h3⟩ := h
  have hf : Fines B w0 ρ U H n [(none, o)] u w' := ⟨none, o, by simp, trivial, ρ', φ', hm, h1, h2, h3⟩
  rcases hr with hr | ⟨hr, hu⟩
  · subst hr; exact hf
  · subst hr; subst hu; exact hf

/-- What was told of the functions that are called: each holds. -/
def ConsOk (P : Program) (C : Cons) : Prop := ∀ (en : Env) (Hl : Heap) (n : Nat) (c : Call) (f : Operand) (g : Nat) (con : Con) (r : Res) (p : Option Prop) (l : List (Option Prop × Out)),
  c.callee = .value f → ev en f = .w (.c (.fn g)) → lk C g = some con → runArgs Hl con.ps (evs en c.args.toList) con.run = some (r, p) → (gotAlts n (evs en c.args.toList) r.alts = some l ∨ ((∀ id, (hget Hl id).own = false) ∧ l = gotV n r.alts)) →
  ∀ (B : Nat) (w0 : Base) (w : World) (ρ : Nat → Value) (φ : Nat → Nat → Prop) (U : Nat → Prop) (H : Nat → HB) (a : Operand → Value) (dst : Option Tmp) (tt : Nat) (pos : String) (af : Array Edge) (gd : Option (Nat × Bool)),
    (∀ x, DenV ρ (ev en x) (a x)) → (∀ x, (ev en x).wf U) → (∀ id, (hget Hl id).live = true → H id = hget Hl id) → Mem B w0 ρ φ U H w → (∀ h o, (h, o) ∈ l → ∀ q, n ≤ q → q < o.n → ¬ U q) → holdsO p → holdsO r.pre →
    Runs P ((execOp a ⟨dst, .call c, tt, pos, af, gd⟩).run P w) (Fines B w0 ρ U H n l)

theorem gotAlts_le {n : Nat} {args : List SV} : ∀ {as : List Alt} {l : List (Option Prop × Out)}, gotAlts n args as = some l → ∀ h o, (h, o) ∈ l → n ≤ o.n
  | [], l, hs => by injection hs with hs; subst hs; intro h o hm; cases hm
  | a :: as, l, hs => by
    simp only [gotAlts] at hs
    split at hs
    · rename_i r hr
      split at hs
      · split at hs
        · injection hs with hs
          subst hs
          intro h o hm
          rcases List.mem_cons.1 hm with hm | hm
          · injection hm with h1 h2
            subst h2
            simp
          · exact gotAlts_le hr h o hm
        · injection hs with hs
          subst hs
          intro h o hm
          rcases List.mem_cons.1 hm with hm | hm
          · injection hm with h1 h2
            subst h2
            simp
          · exact gotAlts_le hr h o hm
      · cases hs
    · cases hs
theorem gotV_le {n : Nat} : ∀ {as : List Alt}, ∀ h o, (h, o) ∈ gotV n as → n ≤ o.n
  | [], h, o, hm => by cases hm
  | a :: as, h, o, hm => by
    simp only [gotV] at hm
    rcases List.mem_cons.1 hm with hm | hm
    · injection hm with h1 h2
      subst h2
      simp
    · exact gotV_le h o hm
theorem hget_viewsOf : ∀ (H : Heap) (id : Nat), hget (viewsOf H) id = (hget H id).seen
  | [], id => by simp [viewsOf, hget, nth_nil, HB.seen, HB.own]
  | h :: l, 0 => rfl
  | h :: l, id + 1 => hget_viewsOf l id
theorem seen_own (h : HB) : h.seen.own = false := by
  unfold HB.seen
  cases e : h.own
  · exact e
  · rfl
theorem seen_live {h : HB} (hl : h.seen.live = true) : h.seen = h ∧ h.live = true := by
  unfold HB.seen at hl ⊢
  cases e : h.own
  · rw [e] at hl; exact ⟨rfl, hl⟩
  · rw [e] at hl; cases hl
theorem stepC_sound {C : Cons} {op : Op} {en : Env} {Hl : Heap} {a : Operand → Value} {n : Nat} {g : Got} {w : World} {ρ : Nat → Value} {φ : Nat → Nat → Prop} {U : Nat → Prop} {H : Nat → HB} (hT : TabOk P T) (hC : ConsOk P C)
    (hev : ∀ x, DenV ρ (ev en x) (a x)) (hwf : ∀ x, (ev en x).wf U) (hH : ∀ id, (hget Hl id).live = true → H id = hget Hl id) (hm : Mem B w0 ρ φ U H w) (hs : stepC T C en Hl n op = some g) (hc : holdsO g.pre) (hU : ∀ h o, (h, o) ∈ g.alts → ∀ q, n ≤ q → q < o.n → ¬ U q) (dst) (tt) (pos) (af) (gd) :
    Runs P ((execOp a ⟨dst, op, tt, pos, af, gd⟩).run P w) (Fines B w0 ρ U H n g.alts) ∧ ∀ h o, (h, o) ∈ g.alts → n ≤ o.n := by
  have hstep : ∀ {op : Op}, stepG T en Hl n op = some g → Runs P ((execOp a ⟨dst, op, tt, pos, af, gd⟩).run P w) (Fines B w0 ρ U H n g.alts) ∧ ∀ h o, (h, o) ∈ g.alts → n ≤ o.n := by
    intro op hs
    unfold stepG at hs
    split at hs
    · rename_i o ho
      split at hs
      · rename_i hle
        injection hs with hs
        subst hs
        refine ⟨(step_sound hT hev hwf hH hm ho hc (fun q h1 h2 => hU none o (by simp) q h1 h2) dst tt pos af gd).runs, fun h o' hm => ?_⟩
        simp only [List.mem_singleton, Prod.mk.injEq] at hm
        rw [hm.2]
        exact Nat.le_of_ble_eq_true hle
      · cases hs
    · split at hs
      · rename_i o ho
        split at hs
        · rename_i hle
          injection hs with hs
          subst hs
          refine ⟨(stepX_sound hT hev hwf hH hm ho hc (fun q h1 h2 => hU none o (by simp) q h1 h2) dst tt pos af gd).runs, fun h o' hm => ?_⟩
          simp only [List.mem_singleton, Prod.mk.injEq] at hm
          rw [hm.2]
          exact Nat.le_of_ble_eq_true hle
        · cases hs
      · split at hs
        · rename_i o ho
          split at hs
          · rename_i hle
            injection hs with hs
            subst hs
            refine ⟨(stepR_sound hT hev hwf hH hm ho hc (fun q h1 h2 => hU none o (by simp) q h1 h2) dst tt pos af gd).runs, fun h o' hm => ?_⟩
            simp only [List.mem_singleton, Prod.mk.injEq] at hm
            rw [hm.2]
            exact Nat.le_of_ble_eq_true hle
          · cases hs
        · cases hs
  cases op with
  | call c =>
    simp only [stepC] at hs
    split at hs
    · rename_i f hf
      split at hs
      · rename_i g' hg'
        split at hs
        · rename_i con hcon
          split at hs
          · rename_i r p hr
            split at hs
            · rename_i l hl
              injection hs with hs
              subst hs
              have hc' := andO_iff.1 hc
              exact ⟨hC en Hl n c f g' con r p l hf hg' hcon hr (.inl hl) B w0 w ρ φ U H a dst tt pos af gd hev hwf hH hm hU hc'.1 hc'.2, gotAlts_le hl⟩
            · split at hs
              · rename_i r' p' hr'
                injection hs with hs
                subst hs
                have hc' := andO_iff.1 hc
                refine ⟨hC en (viewsOf Hl) n c f g' con r' p' _ hf hg' hcon hr' (.inr ⟨fun id => by rw [hget_viewsOf]; exact seen_own _, rfl⟩) B w0 w ρ φ U H a dst tt pos af gd hev hwf (fun id hl => ?_) hm hU hc'.1 hc'.2, gotV_le⟩
                rw [hget_viewsOf] at hl ⊢
                obtain ⟨e1, e2⟩ := seen_live hl
                rw [e1]
                exact hH id e2
              · cases hs
          · cases hs
        · cases hs
      · cases hs
    · exact hstep hs
  | _ => exact hstep hs

/-- One operation, in the state as it is. -/
theorem runC_sound {C : Cons} {σ : St} {o : Oper} {k : St → Prop} {a : Act} {w : World} {next : Act → World → Prop} {Q : Exit → Act → World → Prop} (hT : TabOk P T) (hC : ConsOk P C) (hS : Sim B w0 F σ a w) (h : runC T C σ o k)
    (hk : ∀ σ' a' w', k σ' → Sim B w0 F σ' a' w' → next a' w') : o.wp P a w next Q := by
  unfold runC at h
  split at h
  · rename_i g hg
    obtain ⟨hp, h⟩ := conj_iff.1 h
    obtain ⟨h1, h2, ρ, φ, hm, hd, hF⟩ := hS
    obtain ⟨dst, op, tt, pos, af, gd⟩ := o
    have hh := stepC_sound hT hC (fun x => ev_den (fun t => (hd t).1) x) (fun x => ev_wf (fun t => (hd t).2) x) (fun id _ => rfl) hm hg hp (fun _ _ _ q hq _ => Nat.not_lt.2 hq) dst tt pos af gd
    refine hh.1.wp fun u w' hf => ?_
    obtain ⟨p, out, hmem, hp', ρ', φ', hm', hρ, hv, hw⟩ := hf
    have hle := hh.2 p out hmem
    refine hk _ _ _ ?_ (Sim.upd h1 h2 hd hF hle hm' hρ hv hw)
    clear hh
    generalize g.alts = l at h hmem
    induction l with
    | nil => cases hmem
    | cons x l ih =>
      obtain ⟨p0, o0⟩ := x
      cases l with
      | nil =>
        simp only [List.mem_singleton, Prod.mk.injEq] at hmem
        obtain ⟨rfl, rfl⟩ := hmem
        exact imp_iff.1 h hp'
      | cons y l =>
        obtain ⟨ha, hb⟩ := h
        rcases List.mem_cons.1 hmem with he | he
        · simp only [Prod.mk.injEq] at he
          obtain ⟨rfl, rfl⟩ := he
          exact imp_iff.1 ha hp'
        · exact ih hb he
  · cases h

/-- What is walked where it is called: its end. -/
def InlOk (P : Program) (B : Nat) (w0 : Base) (I : Inl) : Prop := ∀ g r, I g = some r → ∀ (F : Fr) (σ : St) (a : Act) (w : World) (o : Oper) (args : List SV) (k : SV → St → Prop), callee σ.e o.op = some (g, args) → r F.x args σ k → Sim B w0 F σ a w →
  Runs P ((execOp a.eval o).run P w) fun u w' => ∃ s σ', k s σ' ∧ SimV B w0 F σ' a w' s u
theorem runOp_sound {C : Cons} {σ : St} {o : Oper} {k : St → Prop} {a : Act} {w : World} {next : Act → World → Prop} {Q : Exit → Act → World → Prop} (hT : TabOk P T) (hC : ConsOk P C) (hI : InlOk P B w0 I) (hS : Sim B w0 F σ a w) (h : runOp T C I F.x σ o k)
    (hk : ∀ σ' a' w', k σ' → Sim B w0 F σ' a' w' → next a' w') : o.wp P a w next Q := by
  unfold runOp at h
  split at h
  · rename_i g args hc
    split at h
    · rename_i r hr
      refine (hI g r hr F σ a w o args _ hc h hS).wp fun u w' hu => ?_
      obtain ⟨s, σ', hk', hS'⟩ := hu
      exact hk _ _ _ hk' hS'.put
    · exact runC_sound hT hC hS h hk
  · exact runC_sound hT hC hS h hk

theorem opDst_eq : ∀ (ops : List Oper) (g : Nat), opDst ops g = (ops[g]?).bind (·.dst)
  | [], g => by simp [opDst]
  | o :: l, 0 => rfl
  | o :: l, g + 1 => by simp [opDst, opDst_eq l g]
theorem wanted_none {o : Oper} {y : Nat → Option Bool} (h : o.guard = none) : Region.wanted o y = true := by simp [Region.wanted, h]
theorem wanted_bool {ops : Array Oper} {o : Oper} {a : Act} {g s : Nat} {want x : Bool} (h : o.guard = some (g, want)) (hs : opDst ops.toList g = some s) (hv : a.tmps.getD s undef = .bool x) : Region.wanted o (yielded ops a.tmps) = (x == want) := by
  have hs' : (ops[g]?).bind (·.dst) = some s := by rw [← hs, opDst_eq]; simp
  have hlt : s < a.tmps.size := by
    by_cases h : s < a.tmps.size
    · exact h
    · have : a.tmps.getD s undef = undef := by simp [h]
      rw [this] at hv; cases hv
  have hx : a.tmps[s]? = some (.bool x) := by
    rw [← hv]
    simp [hlt]
  simp [Region.wanted, h, yielded, hs', hx]
theorem wanted_not {ops : Array Oper} {o : Oper} {a : Act} {g s : Nat} {want : Bool} (h : o.guard = some (g, want)) (hs : opDst ops.toList g = some s) (hv : a.tmps.getD s undef = .tuple #[]) : Region.wanted o (yielded ops a.tmps) = false := by
  have hs' : (ops[g]?).bind (·.dst) = some s := by rw [← hs, opDst_eq]; simp
  simp only [Region.wanted, h, yielded, hs', Option.bind_some]
  by_cases hlt : s < a.tmps.size
  · have : a.tmps[s]? = some (.tuple #[]) := by
      rw [← hv]; simp [hlt]
    simp [this]
  · simp [hlt]

/-- The operations of a region in the text's order. -/
theorem vcSeq_sound {C : Cons} {ops : Array Oper} {Q : Exit → Act → World → Prop} {k : St → Prop} (hT : TabOk P T) (hC : ConsOk P C) (hI : InlOk P B w0 I) (hk : ∀ σ a w, k σ → Sim B w0 F σ a w → Q .normal a w) :
    ∀ (r : List Oper) (i : Nat) (σ : St) (a : Act) (w : World), ops.toList.drop i = r → vcSeq T C I F.x ops.toList r σ k → Sim B w0 F σ a w → wpOps P ops Q (List.range' i r.length) a w
  | [], i, σ, a, w, _, h, hS => hk _ _ _ h hS
  | o :: r, i, σ, a, w, hi, h, hS => by
    have hi' : ops[i]? = some o := by
      have := congrArg (·[0]?) hi
      simpa using this
    have hr : ops.toList.drop (i + 1) = r := by
      have : (ops.toList.drop i).drop 1 = r := by rw [hi]; rfl
      rw [List.drop_drop] at this
      exact this
    have ih := vcSeq_sound (ops := ops) hT hC hI hk r (i + 1)
    simp only [List.length_cons, List.range'_succ, wpOps, hi']
    have hrun : ∀ (σ : St), Sim B w0 F σ a w → Region.wanted o (yielded ops a.tmps) = true → runOp T C I F.x σ o (fun σ => vcSeq T C I F.x ops.toList r σ k) →
        (if Region.wanted o (yielded ops a.tmps) = true then o.wp P a w (wpOps P ops Q (List.range' (i + 1) r.length)) Q ∨ (o.asks P a w ∧ LetsOut Q) else wpOps P ops Q (List.range' (i + 1) r.length) (a.put o.dst undef) w) := by
      intro σ hS hw hrun
      rw [if_pos hw]
      exact .inl (runOp_sound hT hC hI hS hrun fun σ' a' w' hk' hS' => ih σ' a' w' hr hk' hS')
    have hskip : ∀ (σ : St), Sim B w0 F σ a w → Region.wanted o (yielded ops a.tmps) = false → vcSeq T C I F.x ops.toList r ⟨putD o.dst (.t []) σ.e, σ.H, σ.n⟩ k →
        (if Region.wanted o (yielded ops a.tmps) = true then o.wp P a w (wpOps P ops Q (List.range' (i + 1) r.length)) Q ∨ (o.asks P a w ∧ LetsOut Q) else wpOps P ops Q (List.range' (i + 1) r.length) (a.put o.dst undef) w) := by
      intro σ hS hw hrun
      rw [if_neg (by rw [hw]; simp)]
      exact ih _ _ _ hr hrun hS.skip
    simp only [vcSeq] at h
    split at h
    · rename_i hg
      exact hrun σ hS (wanted_none hg) h
    · rename_i g want hg
      split at h
      · cases h
      · rename_i s hs
        obtain ⟨ρ, φ, hm, hd, _⟩ := hS.mem
        have hds := (hd s).1
        split at h
        · rename_i x hx
          rw [hx] at hds
          have hw := wanted_bool hg hs (den_l hds)
          split at h
          · rename_i hxw
            exact hrun σ hS (by rw [hw, hxw]) h
          · rename_i hxw
            exact hskip σ hS (by rw [hw, hxw]) h
        · rename_i hx
          rw [hx] at hds
          obtain ⟨vs, hv, hsz, _⟩ := hds
          have : vs = #[] := by
            apply Array.eq_empty_of_size_eq_zero
            simpa using hsz
          subst this
          exact hskip σ hS (wanted_not hg hs hv) h
        · rename_i x hx
          have hds' := hds
          rw [hx] at hds'
          have hw := wanted_bool hg hs (den_b hds')
          by_cases hxw : x = want
          · exact hrun _ (hS.lit hx hxw) (by rw [hw, hxw]; simp) (h.1 hxw)
          · have hxw' : x = !want := by cases x <;> cases want <;> simp_all
            exact hskip _ (hS.lit hx hxw') (by rw [hw, hxw']; simp) (h.2 hxw')
        · cases h
end
end Go.Eng

/- Rows taken out of an own list, and put back: nothing is run; the walk knows the memory otherwise. -/
set_option linter.unusedVariables false
set_option linter.unusedSimpArgs false
namespace Go.Eng
open Go Go.RowKit

section
variable {P : Program} {T : Tab} {B : Nat} {w0 : Base} {w : World} {ρ : Nat → Value} {φ : Nat → Nat → Prop} {U : Nat → Prop} {H : Nat → HB}

/-- An own block becomes two. -/
theorem Mem.split (h : Mem B w0 ρ φ U H w) {x y : Nat} (hy : ¬ U y) (hx : (H x).own = true) (hb hb' : HB) (v : Value) (ψ : Nat → Prop) (hψ : ∀ b, ψ b → φ x b)
    (hw : hb.wf (fun z => U z ∨ z = y)) (hw' : hb'.wf (fun z => U z ∨ z = y)) (hh : Holds (upd ρ y v) w (fun b => φ x b ∧ ¬ ψ b) hb (ρ x)) (hh' : Holds (upd ρ y v) w ψ hb' v) :
    Mem B w0 (upd ρ y v) (upd (upd φ x (fun b => φ x b ∧ ¬ ψ b)) y ψ) (fun z => U z ∨ z = y) (upd (upd H x hb) y hb') w := by
  have hlx := HB.live_of_own hx
  have hxy : x ≠ y := by rintro rfl; exact hy (h.used _ hlx)
  -- what each block's footprint lies in
  have src : ∀ z, (upd (upd H x hb) y hb' z).live = true → ∀ b, upd (upd φ x (fun b => φ x b ∧ ¬ ψ b)) y ψ z b → ∃ z0, (H z0).live = true ∧ φ z0 b ∧ (z0 = x ∨ (z0 = z ∧ z ≠ x ∧ z ≠ y)) ∧ ((upd (upd H x hb) y hb' z).own = true → (H z0).own = true) := by
    intro z hz b hb'
    by_cases e1 : z = y
    · subst e1
      rw [upd_same] at hb'
      exact ⟨x, hlx, hψ b hb', .inl rfl, fun _ => hx⟩
    · rw [upd_ne _ _ e1] at hz hb'
      by_cases e2 : z = x
      · subst e2
        rw [upd_same] at hb'
        exact ⟨z, hlx, hb'.1, .inl rfl, fun _ => hx⟩
      · rw [upd_ne _ _ e2] at hz hb'
        exact ⟨z, hz, hb', .inr ⟨rfl, e2, e1⟩, fun ho => by rw [upd_ne _ _ e1, upd_ne _ _ e2] at ho; exact ho⟩
  refine ⟨h.base, h.below, fun z hz => ?_, fun z => ?_, fun z => ?_, fun z hz b hb' => ?_, fun z hz b hb' => ?_, fun z z' hne hz hz' b hφ hφ' => ?_, fun z hz b hb' hB => ?_⟩
  · by_cases e1 : z = y
    · exact .inr e1
    · rw [upd_ne _ _ e1] at hz
      by_cases e2 : z = x
      · subst e2; exact .inl (h.used _ hlx)
      · rw [upd_ne _ _ e2] at hz; exact .inl (h.used z hz)
  · by_cases e1 : z = y
    · subst e1; rw [upd_same]; exact hw'
    · rw [upd_ne _ _ e1]
      by_cases e2 : z = x
      · subst e2; rw [upd_same]; exact hw
      · rw [upd_ne _ _ e2]; exact (h.wf z).mono fun _ h => .inl h
  · by_cases e1 : z = y
    · subst e1; rw [upd_same, upd_same, upd_same]; exact hh'
    · rw [upd_ne _ _ e1, upd_ne _ _ e1, upd_ne _ _ e1]
      by_cases e2 : z = x
      · subst e2; rw [upd_same, upd_same]; exact hh
      · rw [upd_ne _ _ e2, upd_ne _ _ e2]
        exact Holds.anchors (h.holds z) (h.wf z) fun q hq => upd_ne _ _ (by rintro rfl; exact hy hq)
  · obtain ⟨z0, hl0, hφ0, _, _⟩ := src z hz b hb'
    exact h.lt z0 hl0 b hφ0
  · obtain ⟨z0, hl0, hφ0, _, ho0⟩ := src z (HB.live_of_own hz) b hb'
    exact h.low z0 (ho0 hz) b hφ0
  · obtain ⟨z0, hl0, hφ0, hs0, ho0⟩ := src z (HB.live_of_own hz) b hφ
    obtain ⟨z1, hl1, hφ1, hs1, _⟩ := src z' hz' b hφ'
    by_cases he : z0 = z1
    · subst he
      rcases hs0 with e0 | ⟨e0, e0', e0''⟩ <;> rcases hs1 with e1 | ⟨e1, e1', e1''⟩
      · -- both out of x
        subst e0
        by_cases a : z = y
        · subst a
          have b1 : z' ≠ z := Ne.symm hne
          rw [upd_same] at hφ
          by_cases c : z' = z0
          · subst c
            rw [upd_ne _ _ b1, upd_same] at hφ'
            exact hφ'.2 hφ
          · rw [upd_ne _ _ b1, upd_ne _ _ c] at hφ'
            have hl' : (H z').live = true := by rw [upd_ne _ _ b1, upd_ne _ _ c] at hz'; exact hz'
            exact h.apart z0 z' (Ne.symm c) hx hl' b hφ0 hφ'
        · by_cases c : z = z0
          · subst c
            rw [upd_ne _ _ a, upd_same] at hφ
            by_cases d : z' = y
            · subst d
              rw [upd_same] at hφ'
              exact hφ.2 hφ'
            · have b1 : z' ≠ z := Ne.symm hne
              rw [upd_ne _ _ d, upd_ne _ _ b1] at hφ'
              have hl' : (H z').live = true := by rw [upd_ne _ _ d, upd_ne _ _ b1] at hz'; exact hz'
              exact h.apart z z' hne hx hl' b hφ0 hφ'
          · rw [upd_ne _ _ a, upd_ne _ _ c] at hφ hz
            exact h.apart z z0 c hz hlx b hφ hφ0
      · subst e0; exact e1' e1.symm
      · subst e1; exact e0' e0.symm
      · exact hne (e0.symm.trans e1)
    · exact h.apart z0 z1 he (ho0 hz) hl1 b hφ0 hφ1
  · obtain ⟨z0, hl0, hφ0, _⟩ := src z hz b hb'
    exact h.foot z0 hl0 b hφ0 hB
theorem rows_at {fk : FK} {w : World} {ψ : Nat → Prop} {e : Nat} {v : Value} {xs : List (List fk.T)} {cs : List Value} (ho : w.ownsRow 0 e 1 v xs.length cs) (hc : ∀ (i : Nat) x, xs[i]? = some x → ∀ (j : Nat) cv, ((K.rows fk).enc x)[j]? = some cv → ∃ u, cs[i * (K.rows fk).size + j]? = some u ∧ CVo w ψ cv u)
    {i : Nat} {x : List fk.T} (hx : xs[i]? = some x) : ∃ u, cs[i]? = some u ∧ CVo w ψ (.sl fk x) u := by
  obtain ⟨u, hu, hr⟩ := hc i x hx 0 (.sl fk x) rfl
  refine ⟨u, ?_, hr⟩
  have e1 : i * (K.rows fk).size + 0 = i := by show i * 1 + 0 = i; omega
  rwa [e1] at hu
/-- A row taken out: 'v' is what it is known by. -/
theorem mem_take {id e ix y : Nat} {fk : FK} {xs : List (List fk.T)} (hm : Mem B w0 ρ φ U H w) (hH : H id = .arr (.rows fk) e true xs) (hix : ix < xs.length) (hy : ¬ U y)
    {c : SC} {hb : HB} {v u : Value} {cs : List Value} (hcs : w.ownsRow 0 e 1 (ρ id) xs.length cs) (hu : cs[ix]? = some u)
    (hc : ∀ (i : Nat) x, xs[i]? = some x → ∃ u, cs[i]? = some u ∧ CVo w (fun b => φ id b ∧ (ρ id).ownBlock ≠ some b) (.sl fk x) u) (ha : RowsApart (.rows fk) xs cs)
    (hblk : ∀ g, v.ownBlock = some g → u.ownBlock = some g) (hd : DenC (upd ρ y v) c u) (hcw : c.wf (fun z => U z ∨ z = y)) (hbw : hb.wf (fun z => U z ∨ z = y)) (hh : Holds (upd ρ y v) w (fun g => v.ownBlock = some g) hb v) :
    ∃ φ', Mem B w0 (upd ρ y v) φ' (fun z => U z ∨ z = y) (upd (upd H id (.hole fk e xs ix c)) y hb) w := by
  have h0 : ∀ g, (ρ id).ownBlock = some g → φ id g := by
    have := hm.holds id
    rw [hH] at this
    exact this.1
  obtain ⟨u', hu', hcv⟩ := hc ix _ (List.getElem?_eq_getElem hix)
  rw [hu] at hu'
  injection hu' with hu'
  subst hu'
  refine ⟨_, hm.split hy (by rw [hH]; rfl) (.hole fk e xs ix c) hb v (fun g => v.ownBlock = some g) (fun b hb => (hcv.1 b (hblk b hb)).1) hcw hbw ⟨fun g hg => ⟨h0 g hg, fun hv => ?_⟩, cs, u, hcs, hu, hd, fun i x hi hx => ?_, ha⟩ hh⟩
  · exact (hcv.1 g (hblk g hv)).2 hg
  · obtain ⟨u1, hu1, hr⟩ := hc i x hx
    refine ⟨u1, hu1, ?_, hr.2⟩
    intro g hg
    obtain ⟨a1, a2⟩ := hr.1 g hg
    exact ⟨⟨a1, fun hv => ha i ix u1 u hi hu1 hu g hg (hblk g hv)⟩, a2⟩
theorem mem_tk {id e ix y : Nat} {fk : FK} {xs : List (List fk.T)} (hm : Mem B w0 ρ φ U H w) (hH : H id = .arr (.rows fk) e true xs) (hix : ix < xs.length) (hy : ¬ U y) :
    ∃ e' v φ', Mem B w0 (upd ρ y v) φ' (fun z => U z ∨ z = y) (upd (upd H id (.hole fk e xs ix (.fs y))) y (.arr (.f fk) e' true (xs.getD ix []))) w := by
  have hOwn := hm.holds id
  rw [hH] at hOwn
  obtain ⟨h0, cs, ho, hc, ha⟩ := hOwn
  have hc' := fun i x hx => rows_at (x := x) (i := i) ho hc hx
  obtain ⟨u, hu, hcv⟩ := hc' ix _ (List.getElem?_eq_getElem hix)
  have hgd : xs.getD ix [] = xs[ix] := by rw [List.getD_eq_getElem?_getD, List.getElem?_eq_getElem hix]; rfl
  obtain ⟨_, e', rs, hro, hrc⟩ := hcv
  have hsl : ∃ A n c, u = .slice A n c := by
    obtain ⟨A, c, h, _⟩ := own_slice0 hro
    exact ⟨A, _, c, h⟩
  obtain ⟨φ', hm'⟩ := mem_take (y := y) (c := .fs y) (hb := .arr (.f fk) e' true (xs.getD ix [])) (v := u) hm hH hix hy ho hu hc' ha (fun _ h => h) ⟨(upd_same _ _ _).symm, hsl⟩ (fun q hq => by simp only [SC.ids] at hq; exact .inr hq) trivial
    (by
      rw [hgd]
      exact ⟨fun g hg => hg, rs, hro, fun i x hx j cv hcv => ⟨_, hrc i x hx j cv hcv, (CVo_flat (enc_at_flat hcv)).2 rfl⟩, trivial⟩)
  exact ⟨e', u, φ', hm'⟩
theorem mem_ts {id e ix y : Nat} {fk : FK} {xs : List (List fk.T)} (hm : Mem B w0 ρ φ U H w) (hH : H id = .arr (.rows fk) e true xs) (hix : ix < xs.length) (hy : ¬ U y) :
    ∃ c v φ', (xs.getD ix []).length ≤ c ∧ LenOk c ∧ Mem B w0 (upd ρ y v) φ' (fun z => U z ∨ z = y) (upd (upd H id (.hole fk e xs ix (.st y (xs.getD ix []).length))) y (.pre fk (xs.getD ix []) c)) w := by
  have hOwn := hm.holds id
  rw [hH] at hOwn
  obtain ⟨h0, cs, ho, hc, ha⟩ := hOwn
  have hc' := fun i x hx => rows_at (x := x) (i := i) ho hc hx
  obtain ⟨u, hu, hcv⟩ := hc' ix _ (List.getElem?_eq_getElem hix)
  have hgd : xs.getD ix [] = xs[ix] := by rw [List.getD_eq_getElem?_getD, List.getElem?_eq_getElem hix]; rfl
  obtain ⟨_, e', rs, hro, hrc⟩ := hcv
  rcases hro.2 with ⟨rfl, hn⟩ | ⟨g, cap, cur, rfl, _, hh, h1, h2, h3, h4⟩
  · have he : xs[ix] = [] := List.eq_nil_of_length_eq_zero hn
    obtain ⟨φ', hm'⟩ := mem_take (y := y) (c := .st y 0) (hb := .pre fk [] 0) (v := .slice none 0 0) hm hH hix hy ho hu hc' ha (fun _ h => h) ⟨none, 0, upd_same _ _ _, rfl, Nat.le_refl _, Nat.zero_le _⟩ (fun q hq => by simp only [SC.ids] at hq; exact .inr hq) trivial
      ⟨fun g hg => hg, Nat.le_refl _, e', [], World.ownsRow_nil _ _ _ _, fun i x hx => by simp at hx⟩
    rw [hgd, he]
    exact ⟨0, _, φ', Nat.le_refl _, ⟨by decide⟩, hm'⟩
  · obtain ⟨φ', hm'⟩ := mem_take (y := y) (c := .st y xs[ix].length) (hb := .pre fk xs[ix] cap) (v := .slice (some ⟨g, 0, none⟩) cap cap) hm hH hix hy ho hu hc' ha (fun g' h => by simpa [Value.ownBlock] using h) ⟨_, cap, upd_same _ _ _, rfl, h1, h2⟩ (fun q hq => by simp only [SC.ids] at hq; exact .inr hq) trivial
      ⟨fun g hg => hg, h1, e', cur.toList, ⟨by simpa using h3, .inr ⟨g, cap, cur, rfl, Nat.zero_le _, hh, Nat.le_refl _, h2, h3, by rw [List.take_of_length_le (by simp; omega)]⟩⟩, fun i x hx j cv hj => by
        have := hrc i x hx j cv hj
        rw [← h4, List.getElem?_take] at this
        split at this
        · exact this
        · cases this⟩
    rw [hgd]
    exact ⟨cap, _, φ', h1, ⟨h2⟩, hm'⟩
/-- A row put back. -/
theorem mem_back {id e ix q : Nat} {fk : FK} {xs : List (List fk.T)} {c : SC} {ys : List fk.T} (hm : Mem B w0 ρ φ U H w) (hH : H id = .hole fk e xs ix c) (hq : (H q).own = true) (hne : q ≠ id)
    (hrow : ∀ u, DenC ρ c u → CVo w (φ q) (.sl fk ys) u) :
    ∃ φ', Mem B w0 ρ φ' U (upd (upd H q .dead) id (.arr (.rows fk) e true (xs.set ix ys))) w := by
  have hlid : (H id).live = true := by rw [hH]; rfl
  have hoid : (H id).own = true := by rw [hH]; rfl
  have hlq := HB.live_of_own hq
  have hhold := hm.holds id
  rw [hH] at hhold
  obtain ⟨h0, cs, u, ho, hu, hd, hc, ha⟩ := hhold
  have hix : ix < xs.length := by
    have := (List.getElem?_eq_some_iff.1 hu).1
    rw [ho.1] at this; omega
  have hr := hrow u hd
  have hg := hm.gather (w' := w) [id, q] id (.arr (.rows fk) e true (xs.set ix ys)) (ρ id) (fun b => φ id b ∨ φ q b) (by simp [hoid, hq]) (fun _ => ⟨by simp, rfl⟩) (fun _ _ _ => rfl) rfl rfl rfl (Nat.le_refl _) trivial
    ⟨fun g hg => .inl (h0 g hg), cs, by rw [List.length_set]; exact ho, fun i x hx j cv hj => ?_, ha⟩ (fun _ b hb => ?_) (fun b hb => .inr ?_)
  · rw [upd_self] at hg
    have e1 : (upd (fun z => if z ∈ [id, q] then HB.dead else H z) id (.arr (.rows fk) e true (xs.set ix ys))) = upd (upd H q .dead) id (.arr (.rows fk) e true (xs.set ix ys)) := by
      funext z
      by_cases a : z = id
      · subst a; rw [upd_same, upd_same]
      · rw [upd_ne _ _ a, upd_ne _ _ a]
        by_cases b : z = q
        · subst b; rw [upd_same]; simp
        · rw [upd_ne _ _ b]; simp [a, b]
    rw [e1] at hg
    exact ⟨_, hg.mono fun z hz => by
      rcases hz with hz | rfl
      · exact hz
      · exact hm.used _ hlid⟩
  · match j, hj with
    | 0, hj =>
      simp [K.enc] at hj
      subst hj
      have e1 : i * (K.rows fk).size + 0 = i := by show i * 1 + 0 = i; omega
      rw [e1]
      rw [List.getElem?_set] at hx
      by_cases hi : ix = i
      · subst hi
        rw [if_pos rfl, if_pos hix] at hx
        injection hx with hx
        subst hx
        refine ⟨u, hu, ?_, hr.2⟩
        intro g hg'
        exact ⟨.inr (hr.1 g hg'), fun e2 => hm.apart id q (Ne.symm hne) hoid hlq g (h0 g e2) (hr.1 g hg')⟩
      · rw [if_neg hi] at hx
        obtain ⟨u1, hu1, hr1⟩ := hc i x (Ne.symm hi) hx
        exact ⟨u1, hu1, fun g hg' => ⟨.inl (hr1.1 g hg').1, (hr1.1 g hg').2⟩, hr1.2⟩
    | j + 1, hj => simp [K.enc] at hj
  · rcases hb with hb | hb
    · exact hm.lt id hlid b hb
    · exact hm.lt q hlq b hb
  · rcases hb with hb | hb
    · exact ⟨id, by simp, hb⟩
    · exact ⟨q, by simp, hb⟩
theorem upd_gather1 {id y : Nat} {hb : HB} : upd (fun z => if z ∈ [id] then HB.dead else H z) y hb = upd (upd H id .dead) y hb := by
  funext z
  by_cases a : z = y
  · subst a; rw [upd_same, upd_same]
  · rw [upd_ne _ _ a, upd_ne _ _ a]
    by_cases b : z = id
    · subst b; rw [upd_same]; simp
    · rw [upd_ne _ _ b]; simp [b]
/-- An own list with all its room. -/
theorem mem_pc {id e y : Nat} {fk : FK} {xs : List fk.T} (hm : Mem B w0 ρ φ U H w) (hH : H id = .arr (.f fk) e true xs) (hy : ¬ U y) :
    ∃ c v φ', xs.length ≤ c ∧ LenOk c ∧ DenC (upd ρ y v) (.st y xs.length) (ρ id) ∧ Mem B w0 (upd ρ y v) φ' (fun z => U z ∨ z = y) (upd (upd H id .dead) y (.pre fk xs c)) w := by
  obtain ⟨h0, ho⟩ := mem_own hm hH
  have hlid : (H id).live = true := by rw [hH]; rfl
  have hoid : (H id).own = true := by rw [hH]; rfl
  have fin : ∀ (A : Option Addr) (c e' : Nat) (cs : List Value), ρ id = .slice A xs.length c → xs.length ≤ c → c ≤ maxLen → w.ownsRow 0 e' fk.size (.slice A c c) c cs → (∀ (p : Nat) (u : Value), (flatV fk xs)[p]? = some u → cs[p]? = some u) →
      ∃ c v φ', xs.length ≤ c ∧ LenOk c ∧ DenC (upd ρ y v) (.st y xs.length) (ρ id) ∧ Mem B w0 (upd ρ y v) φ' (fun z => U z ∨ z = y) (upd (upd H id .dead) y (.pre fk xs c)) w := by
    intro A c e' cs hρ h1 h2 hro hcs
    have hg := hm.gather (w' := w) [id] y (.pre fk xs c) (.slice A c c) (φ id) (by simp [hoid]) (fun h => absurd h hy) (fun _ _ _ => rfl) rfl rfl rfl (Nat.le_refl _) trivial
      ⟨fun g hg => h0 g (by rw [hρ]; cases A <;> exact hg), h1, e', cs, hro, fun i x hx j cv hj => hcs _ _ (flatV_get fk xs i j x cv hx hj)⟩ (fun _ b hb => hm.lt id hlid b hb) (fun b hb => .inr ⟨id, by simp, hb⟩)
    rw [upd_gather1] at hg
    exact ⟨c, .slice A c c, _, h1, ⟨h2⟩, ⟨A, c, upd_same _ _ _, hρ, h1, h2⟩, hg⟩
  rcases ho.2 with ⟨hn, h0'⟩ | ⟨g, cap, cur, hv, _, hh, h1, h2, h3, h4⟩
  · exact fin none 0 e [] (by rw [hn, h0']) (by omega) (Nat.zero_le _) (World.ownsRow_nil _ _ _ _) (fun p u hp => by
      have := (List.getElem?_eq_some_iff.1 hp).1
      rw [flatV_length, h0'] at this
      omega)
  · refine fin _ cap e cur.toList hv h1 h2 ⟨by simpa using h3, .inr ⟨g, cap, cur, rfl, Nat.zero_le _, hh, Nat.le_refl _, h2, h3, by rw [List.take_of_length_le (by simp; omega)]⟩⟩ (fun p u hp => ?_)
    rw [← h4, List.getElem?_take] at hp
    split at hp
    · exact hp
    · cases hp
/-- A row with its room taken out. -/
theorem mem_tr {id e ix j y : Nat} {rows : List RoomR} (hm : Mem B w0 ρ φ U H w) (hH : H id = .room e rows ix .u) (hj : j < rows.length) (hy : ¬ U y) :
    ∃ c v φ', (rows.getD j ⟨[], 0, false⟩).m ≤ c ∧ (rows.getD j ⟨[], 0, false⟩).ys.length ≤ c ∧ LenOk c ∧ ((rows.getD j ⟨[], 0, false⟩).full = true → (rows.getD j ⟨[], 0, false⟩).ys.length = c) ∧
      Mem B w0 (upd ρ y v) φ' (fun z => U z ∨ z = y) (upd (upd H id (.room e rows j (.st y (rows.getD j ⟨[], 0, false⟩).m))) y (.pre .int (rows.getD j ⟨[], 0, false⟩).ys c)) w := by
  obtain ⟨h0, us, hl, hs, hsep, hr, _⟩ := mem_room hm hH
  have hgd : rows[j]? = some (rows.getD j ⟨[], 0, false⟩) := by rw [List.getD_eq_getElem?_getD, List.getElem?_eq_getElem hj]; rfl
  generalize rows.getD j ⟨[], 0, false⟩ = x at *
  obtain ⟨u, hu, hb0, A, c, e', cs, hue, h1, h2, hro, h3, h4, h5⟩ := hr j x (fun _ => rfl) hgd
  have hblk : ∀ g, (Value.slice A c c).ownBlock = some g ↔ u.ownBlock = some g := fun g => by rw [hue]; cases A <;> exact Iff.rfl
  refine ⟨c, .slice A c c, _, h1, h3, ⟨h2⟩, h4, hm.split hy (by rw [hH]; rfl) (.room e rows j (.st y x.m)) (.pre .int x.ys c) (.slice A c c) (fun g => (Value.slice A c c).ownBlock = some g) (fun b hb => (hb0 b ((hblk b).1 hb)).1) (fun z hz => by simp only [SC.ids] at hz; exact .inr hz) trivial
    ⟨fun g hg => ⟨h0 g hg, fun hv => (hb0 g ((hblk g).1 hv)).2 hg⟩, us, hl, hs, hsep, fun i x' hi hx' => ?_, fun _ => ⟨u, hu, A, c, upd_same _ _ _, hue, h1, h2⟩⟩
    ⟨fun g hg => hg, h3, e', cs, hro, fun i y' hy' k cv hcv => ?_⟩⟩
  · have hij : i ≠ j := fun e => by cases hi e
    obtain ⟨u', hu', hrr⟩ := hr i x' (fun _ => rfl) hx'
    exact ⟨u', hu', fun g hg => ⟨⟨(hrr.1 g hg).1, fun hv => hsep i j u' u hij hu' hu g hg ((hblk g).1 hv)⟩, (hrr.1 g hg).2⟩, hrr.2⟩
  · match k, hcv with
    | 0, hcv =>
      simp [FK.enc] at hcv
      subst hcv
      have := h5 i y' hy'
      simpa [FK.size, cvv] using this
    | k + 1, hcv => simp [FK.enc] at hcv
/-- .. and put back. -/
theorem mem_hr {id e ix q m c : Nat} {rows : List RoomR} {ys : List Int} (hm : Mem B w0 ρ φ U H w) (hH : H id = .room e rows ix (.st q m)) (hq : H q = .pre .int ys c) :
    ∃ φ', Mem B w0 ρ φ' U (upd (upd H q .dead) id (.room e (rows.set ix ⟨ys, m, decide (ys.length = c)⟩) 0 .u)) w := by
  have hlid : (H id).live = true := by rw [hH]; rfl
  have hoid : (H id).own = true := by rw [hH]; rfl
  have hlq : (H q).live = true := by rw [hq]; rfl
  have hoq : (H q).own = true := by rw [hq]; rfl
  have hne : q ≠ id := by rintro rfl; rw [hH] at hq; cases hq
  obtain ⟨h0, us, hl, hs, hsep, hr, ho⟩ := mem_room hm hH
  obtain ⟨u, hu, A, c', hρq, hue, g1, g2⟩ := ho (by intro h; cases h)
  obtain ⟨p0, p1, e', cs, hro, hpc⟩ := mem_pre hm hq
  have hcc : c' = c := by
    obtain ⟨A', cap, hρ2, _⟩ := own_slice0 hro
    rw [hρq] at hρ2
    injection hρ2
  subst hcc
  have hg := hm.gather (w' := w) [id, q] id (.room e (rows.set ix ⟨ys, m, decide (ys.length = c')⟩) 0 .u) (ρ id) (fun b => φ id b ∨ φ q b) (by simp [hoid, hoq]) (fun _ => ⟨by simp, rfl⟩) (fun _ _ _ => rfl) rfl rfl rfl (Nat.le_refl _) (fun _ h => h.elim)
    ⟨fun g hg => .inl (h0 g hg), us, by simp [hl], hs, hsep, fun i x _ hx => ?_, fun hc => absurd rfl hc⟩ (fun _ b hb => ?_) (fun b hb => .inr ?_)
  · rw [upd_self] at hg
    have e1 : (upd (fun z => if z ∈ [id, q] then HB.dead else H z) id (.room e (rows.set ix ⟨ys, m, decide (ys.length = c')⟩) 0 .u)) = upd (upd H q .dead) id (.room e (rows.set ix ⟨ys, m, decide (ys.length = c')⟩) 0 .u) := by
      funext z
      by_cases a : z = id
      · subst a; rw [upd_same, upd_same]
      · rw [upd_ne _ _ a, upd_ne _ _ a]
        by_cases b : z = q
        · subst b; rw [upd_same]; simp
        · rw [upd_ne _ _ b]; simp [a, b]
    rw [e1] at hg
    exact ⟨_, hg.mono fun z hz => by
      rcases hz with hz | rfl
      · exact hz
      · exact hm.used _ hlid⟩
  · rw [List.getElem?_set] at hx
    by_cases hi : ix = i
    · subst hi
      rw [if_pos rfl] at hx
      split at hx
      · injection hx with hx
        subst hx
        refine ⟨u, hu, fun g hg => ?_, A, c', e', cs, hue, g1, g2, by rw [← hρq]; exact hro, p1, fun h => of_decide_eq_true h, fun i y hy => ?_⟩
        · have hb : φ q g := p0 g (by rw [hρq]; rw [hue] at hg; cases A <;> exact hg)
          exact ⟨.inr hb, fun e2 => hm.apart id q (Ne.symm hne) hoid hlq g (h0 g e2) hb⟩
        · have := hpc i y hy 0 (.i y) rfl
          simpa [FK.size, cvv] using this
      · cases hx
    · rw [if_neg hi] at hx
      obtain ⟨u1, hu1, hr1⟩ := hr i x (fun e => absurd e.symm hi) hx
      exact ⟨u1, hu1, hr1.widen fun b hb => ⟨.inl hb.1, hb.2⟩⟩
  · rcases hb with hb | hb
    · exact hm.lt id hlid b hb
    · exact hm.lt q hlq b hb
  · rcases hb with hb | hb
    · exact ⟨id, by simp, hb⟩
    · exact ⟨q, by simp, hb⟩
/-- A list of rows, with their room. -/
theorem mem_rm {id e : Nat} {xs : List (K.rows .int).T} (hm : Mem B w0 ρ φ U H w) (hH : H id = .arr (.rows .int) e true xs) :
    Mem B w0 ρ φ U (upd H id (.room e (xs.map fun y => (⟨y, y.length, false⟩ : RoomR)) 0 .u)) w := by
  have hlid : (H id).live = true := by rw [hH]; rfl
  have hoid : (H id).own = true := by rw [hH]; rfl
  have hOwn := hm.holds id
  rw [hH] at hOwn
  obtain ⟨h0, cs, ho, hc, ha⟩ := hOwn
  have hc' := fun i x hx => rows_at (x := x) (i := i) ho hc hx
  have hlen : cs.length = xs.length := by have := ho.1; have e1 : (K.rows .int).size = 1 := rfl; rw [e1] at this; omega
  have := hm.put (w' := w) id (.room e (xs.map fun y => (⟨y, y.length, false⟩ : RoomR)) 0 .u) (ρ id) (φ id) (fun _ => rfl) (fun b _ _ => rfl) rfl rfl rfl (Nat.le_refl _) (fun _ h => h.elim)
    ⟨h0, cs, by simp [hlen], ?_, ha, fun i x _ hx => ?_, fun h => absurd rfl h⟩ (fun _ b hb => hm.lt id hlid b hb) (fun b hb => .inr (.inl ⟨hoid, hb⟩))
  · rw [upd_self, upd_self] at this
    exact this.mono fun x hx => by
      rcases hx with hx | rfl
      · exact hx
      · exact hm.used _ hlid
  · rcases ho.2 with ⟨hn, h0'⟩ | ⟨g, cap, cur, hv, _, hh, h1, h2, h3, h4⟩
    · exact .inl ⟨hn, List.eq_nil_of_length_eq_zero (by omega)⟩
    · have e1 : (K.rows .int).size = 1 := rfl
      rw [e1, Nat.mul_one] at h3 h4
      exact .inr ⟨g, 0, cap, cur, by rw [hlen]; exact hv, hh, by omega, h2, by omega, by rw [List.drop_zero, hlen]; exact h4⟩
  · rw [List.getElem?_map] at hx
    cases hx0 : xs[i]? with
    | none => rw [hx0] at hx; cases hx
    | some y =>
      rw [hx0] at hx
      injection hx with hx
      subst hx
      obtain ⟨u, hu, hb, e', rs, hro, hrc⟩ := hc' i y hx0
      exact ⟨u, hu, room_of_row hb hro hrc⟩
end

section
variable {P : Program} {T : Tab} {B : Nat} {w0 : Base} {F : Fr}
theorem Sim.grow {σ : St} {a : Act} {w : World} {ρ ρ' : Nat → Value} {φ' : Nat → Nat → Prop} {H' : Heap} {n' : Nat} (h1 : a.defers = []) (h2 : σ.e.length ≤ a.tmps.size) (hd : ∀ t, DenV ρ (nth .u σ.e t) (a.tmps.getD t undef) ∧ (nth .u σ.e t).wf (· < σ.n)) (hF : F.ok ρ (· < σ.n))
    (hn : σ.n ≤ n') (hm' : Mem B w0 ρ' φ' (· < n') (hget H') w) (hρ : ∀ x, x < σ.n → ρ' x = ρ x) : Sim B w0 F ⟨σ.e, H', n'⟩ a w :=
  ⟨h1, h2, ρ', φ', hm', fun t => ⟨(hd t).1.anchors (hd t).2 hρ, (hd t).2.mono fun x hx => Nat.lt_of_lt_of_le hx hn⟩, hF.next hρ fun x hx => Nat.lt_of_lt_of_le hx hn⟩
theorem ghosts_sound {k : St → Prop} {a : Act} {w : World} : ∀ {l : List VS} {σ : St}, ghosts l σ k → Sim B w0 F σ a w → ∃ σ', k σ' ∧ Sim B w0 F σ' a w
  | [], σ, h, hS => ⟨σ, h, hS⟩
  | x :: l, σ, h, hS => by
    have ih := fun {σ : St} => ghosts_sound (k := k) (a := a) (w := w) (l := l) (σ := σ)
    cases x with
    | tk s o =>
      simp only [ghosts] at h
      split at h
      · rename_i id j hs ho
        split at h
        · rename_i fk e xs hh
          obtain ⟨⟨h1, h2⟩, h3⟩ := h
          have hlt : j.toNat < xs.length := by omega
          obtain ⟨d1, d2, ρ, φ, hm, hd, hF⟩ := hS
          obtain ⟨e', v, φ', hm'⟩ := mem_tk hm hh hlt (Nat.lt_irrefl _)
          refine ih (h3 e') (Sim.grow (ρ' := upd ρ σ.n v) (φ' := φ') d1 d2 hd hF (Nat.le_succ _) ?_ fun x hx => upd_ne _ _ (by omega))
          rw [hget_setAt, hget_setAt]
          exact hm'.mono fun x hx => by
            rcases hx with hx | rfl
            · exact Nat.lt_succ_of_lt hx
            · exact Nat.lt_succ_self _
        · cases h
      · cases h
    | ts s o =>
      simp only [ghosts] at h
      split at h
      · rename_i id j hs ho
        split at h
        · rename_i fk e xs hh
          obtain ⟨⟨h1, h2⟩, h3⟩ := h
          have hlt : j.toNat < xs.length := by omega
          obtain ⟨d1, d2, ρ, φ, hm, hd, hF⟩ := hS
          obtain ⟨c, v, φ', hc1, hc2, hm'⟩ := mem_ts hm hh hlt (Nat.lt_irrefl _)
          refine ih (h3 c hc1 hc2) (Sim.grow (ρ' := upd ρ σ.n v) (φ' := φ') d1 d2 hd hF (Nat.le_succ _) ?_ fun x hx => upd_ne _ _ (by omega))
          rw [hget_setAt, hget_setAt]
          exact hm'.mono fun x hx => by
            rcases hx with hx | rfl
            · exact Nat.lt_succ_of_lt hx
            · exact Nat.lt_succ_self _
        · cases h
      · cases h
    | hl s =>
      simp only [ghosts] at h
      have back : ∀ {id e ix q : Nat} {fk : FK} {xs : List (List fk.T)} {c : SC} {ys : List fk.T}, hget σ.H id = .hole fk e xs ix c → (hget σ.H q).own = true → q ≠ id →
          (∀ ρ φ, Mem B w0 ρ φ (· < σ.n) (hget σ.H) w → ∀ u, DenC ρ c u → CVo w (φ q) (.sl fk ys) u) → Sim B w0 F ⟨σ.e, setAt (setAt σ.H q .dead) id (.arr (.rows fk) e true (xs.set ix ys)), σ.n⟩ a w := by
        intro id e ix q fk xs c ys hH hq hne hrow
        obtain ⟨d1, d2, ρ, φ, hm, hd, hF⟩ := hS
        obtain ⟨φ', hm'⟩ := mem_back hm hH hq hne (hrow ρ φ hm)
        refine Sim.grow d1 d2 hd hF (Nat.le_refl _) (ρ' := ρ) (φ' := φ') ?_ fun _ _ => rfl
        rw [hget_setAt, hget_setAt]
        exact hm'
      split at h
      · rename_i id hs
        split at h
        · rename_i fk e xs ix q hh
          split at h
          · rename_i fk2 e2 ys hq
            split at h
            · rename_i hk _
              subst hk
              refine ih h (back hh (by rw [hq]; rfl) (by rintro rfl; rw [hh] at hq; cases hq) fun ρ φ hm u hd => ?_)
              rw [hd.1]
              have hOwn := hm.holds q
              rw [hq] at hOwn
              obtain ⟨o0, o1⟩ := own_flat.1 hOwn
              exact ⟨o0, e2, _, o1, fun i x hx j cv hj => flatV_get _ ys i j x cv hx hj⟩
            · cases h
          · cases h
        · rename_i fk e xs ix q m hh
          split at h
          · rename_i fk2 ys c hq
            split at h
            · rename_i hk _
              subst hk
              obtain ⟨hle, h⟩ := h
              have hle : m ≤ ys.length := hle
              refine ih h (back hh (by rw [hq]; rfl) (by rintro rfl; rw [hh] at hq; cases hq) fun ρ φ hm u hd => ?_)
              obtain ⟨A, cc, hρ, hv, hmc, hmx⟩ := hd
              obtain ⟨h0, hyc, e', L, ho, hL⟩ := mem_pre hm hq
              have hlen : (List.take m ys).length = m := by simp; omega
              refine ⟨fun g hg => h0 g ?_, e', L.take (m * fk2.size), ?_, fun i x hx j cv hj => ?_⟩
              · rw [hv] at hg
                rw [hρ]
                cases A with
                | none => cases hg
                | some a => exact hg
              · rw [hlen, hv]
                rcases ho.2 with ⟨hn, hc0⟩ | ⟨g, cap, cur, hρ2, hb, hh2, h1, h2, h3, h4⟩
                · rw [hρ] at hn
                  injection hn with e1 e2 e3
                  subst e1
                  have hm0 : m = 0 := by omega
                  subst hm0
                  refine ⟨by simp, .inl ⟨?_, rfl⟩⟩
                  rw [e2]
                · rw [hρ] at hρ2
                  injection hρ2 with e1 e2 e3
                  subst e1
                  have hmc2 : m * fk2.size ≤ c * fk2.size := Nat.mul_le_mul_right _ (by omega)
                  refine ⟨by rw [List.length_take, ho.1]; omega, .inr ⟨g, cc, cur, rfl, hb, hh2, hmc, hmx, by rw [e3]; exact h3, ?_⟩⟩
                  rw [← h4, List.take_take]
                  congr 1
                  omega
              · rw [List.getElem?_take] at hx
                split at hx
                · rename_i him
                  have := hL i x hx j cv hj
                  have hjs : j < fk2.size := by rw [← fk2.enc_length x]; exact (List.getElem?_eq_some_iff.1 hj).1
                  have hb : (i + 1) * fk2.size ≤ m * fk2.size := Nat.mul_le_mul_right _ him
                  rw [Nat.succ_mul] at hb
                  rw [List.getElem?_take, if_pos (by omega)]
                  exact this
                · cases hx
            · cases h
          · cases h
        · exact ih h hS
      · exact ih h hS
    | frz s =>
      simp only [ghosts] at h
      split at h
      · rename_i id hs
        split at h
        · rename_i k' e xs hh
          obtain ⟨d1, d2, ρ, φ, hm, hd, hF⟩ := hS
          refine ih h ⟨d1, d2, ρ, φ, ?_, hd, hF⟩
          rw [hget_setAt]
          exact mem_freeze hm hh
        · exact ih h hS
      · exact ih h hS
    | pc s =>
      simp only [ghosts] at h
      split at h
      · rename_i id hs
        split at h
        · rename_i fk e xs hh
          obtain ⟨d1, d2, ρ, φ, hm, hd, hF⟩ := hS
          obtain ⟨c, v, φ', hc1, hc2, hden, hm'⟩ := mem_pc hm hh (Nat.lt_irrefl _)
          have hρ : ∀ x, x < σ.n → upd ρ σ.n v x = ρ x := fun x hx => upd_ne _ _ (by omega)
          refine ih (h c hc1 hc2) ⟨d1, by simp only [put_length]; exact d2, upd ρ σ.n v, φ', ?_, fun t => ?_, hF.next hρ fun x hx => Nat.lt_succ_of_lt hx⟩
          · rw [hget_setAt, hget_setAt]
            exact hm'.mono fun x hx => by
              rcases hx with hx | rfl
              · exact Nat.lt_succ_of_lt hx
              · exact Nat.lt_succ_self _
          · have hdt := hd t
            by_cases hst : t = s
            · subst hst
              by_cases hl : t < σ.e.length
              · rw [nth_put_same _ _ _ _ hl]
                rw [hs] at hdt
                have hv : a.tmps.getD t undef = ρ id := hdt.1.1
                refine ⟨?_, fun x hx => ?_⟩
                · rw [hv]; exact hden
                · simp only [SC.ids] at hx
                  subst hx
                  exact Nat.lt_succ_self _
              · rw [nth_out _ _ _ (by omega)] at hs
                cases hs
            · rw [nth_put_ne _ _ _ _ _ hst]
              exact ⟨hdt.1.anchors hdt.2 hρ, hdt.2.mono fun x hx => Nat.lt_succ_of_lt hx⟩
        · cases h
      · cases h
    | tr s off o =>
      simp only [ghosts] at h
      split at h
      · rename_i id j hs ho
        split at h
        · rename_i e rows ix hh
          obtain ⟨⟨h1, h2⟩, h3⟩ := h
          have hlt : j.toNat < rows.length := by omega
          obtain ⟨d1, d2, ρ, φ, hm, hd, hF⟩ := hS
          obtain ⟨c, v, φ', hc1, hc2, hc3, hc4, hm'⟩ := mem_tr hm hh hlt (Nat.lt_irrefl _)
          refine ih (h3 c hc1 hc2 hc3 hc4) (Sim.grow (ρ' := upd ρ σ.n v) (φ' := φ') d1 d2 hd hF (Nat.le_succ _) ?_ fun x hx => upd_ne _ _ (by omega))
          rw [hget_setAt, hget_setAt]
          exact hm'.mono fun x hx => by
            rcases hx with hx | rfl
            · exact Nat.lt_succ_of_lt hx
            · exact Nat.lt_succ_self _
        · cases h
      · cases h
    | hr s off =>
      simp only [ghosts] at h
      split at h
      · rename_i id hs
        split at h
        · rename_i e rows ix q m hh
          split at h
          · rename_i ys c hq
            obtain ⟨d1, d2, ρ, φ, hm, hd, hF⟩ := hS
            obtain ⟨φ', hm'⟩ := mem_hr hm hh hq
            refine ih h ⟨d1, d2, ρ, φ', ?_, hd, hF⟩
            rw [hget_setAt, hget_setAt]
            exact hm'
          · cases h
        · exact ih h hS
      · exact ih h hS
    | rm s off =>
      simp only [ghosts] at h
      split at h
      · rename_i id hs
        split at h
        · rename_i e xs hh
          obtain ⟨d1, d2, ρ, φ, hm, hd, hF⟩ := hS
          refine ih h ⟨d1, d2, ρ, φ, ?_, hd, hF⟩
          rw [hget_setAt]
          exact mem_rm hm hh
        · exact ih h hS
      · exact ih h hS
    | _ =>
      simp only [ghosts] at h
      exact ih h hS
theorem ghostVC_sound {A : List (Nat × LA)} {i : Nat} {σ : St} {k : St → Prop} {a : Act} {w : World} (h : ghostVC A i σ k) (hS : Sim B w0 F σ a w) : ∃ σ', k σ' ∧ Sim B w0 F σ' a w := by
  unfold ghostVC at h
  split at h
  · exact ghosts_sound h hS
  · exact ⟨σ, h, hS⟩
end
end Go.Eng

/- A state fits a form: then the walk knows the form, too. -/
set_option linter.unusedVariables false
set_option linter.unusedSimpArgs false
namespace Go.Eng
open Go Go.RowKit

def All2 {α β : Type} (R : α → β → Prop) : List α → List β → Prop
  | [], [] => True
  | a :: l, b :: m => R a b ∧ All2 R l m
  | _, _ => False
theorem all2_iff {α β : Type} {R : α → β → Prop} : ∀ {l : List α} {m : List β}, All2 R l m ↔ (m.length = l.length ∧ ∀ (j : Nat) a, l[j]? = some a → ∃ b, m[j]? = some b ∧ R a b)
  | [], [] => by simp [All2]
  | [], b :: m => by simp [All2]
  | a :: l, [] => by simp [All2]
  | a :: l, b :: m => by
    simp only [All2, all2_iff (l := l) (m := m), List.length_cons, Nat.add_right_cancel_iff]
    constructor
    · rintro ⟨h, h1, h2⟩
      refine ⟨h1, fun j x hx => ?_⟩
      cases j with
      | zero => simp at hx; subst hx; exact ⟨b, rfl, h⟩
      | succ j => simpa using h2 j x (by simpa using hx)
    · rintro ⟨h1, h2⟩
      refine ⟨?_, h1, fun j x hx => ?_⟩
      · obtain ⟨y, hy, h⟩ := h2 0 a rfl
        simp at hy; subst hy; exact h
      · simpa using h2 (j + 1) x (by simpa using hx)
theorem denL_iff {ρ : Nat → Value} {l : List SC} {vs : Array Value} : DenL ρ l vs ↔ All2 (DenC ρ) l vs.toList := by
  rw [all2_iff]
  simp [DenL]

section
variable {P : Program} {T : Tab} {B : Nat} {w0 : Base} {w : World} {ρ : Nat → Value} {φ : Nat → Nat → Prop} {U : Nat → Prop} {H : Nat → HB}

def Good (ρ : Nat → Value) (U : Nat → Prop) (m : Srcs) (τ : Nat → Value) : Prop := ∀ i c, lk m i = some c → DenC ρ c (τ i) ∧ c.wf U
def Ext (m : Srcs) (τ : Nat → Value) (m' : Srcs) (τ' : Nat → Value) : Prop := ∀ i c, lk m i = some c → lk m' i = some c ∧ τ' i = τ i
theorem Ext.refl (m : Srcs) (τ : Nat → Value) : Ext m τ m τ := fun _ _ h => ⟨h, rfl⟩
theorem Ext.trans {m m' m'' : Srcs} {τ τ' τ'' : Nat → Value} (h : Ext m τ m' τ') (h' : Ext m' τ' m'' τ'') : Ext m τ m'' τ'' := fun i c hc => by
  obtain ⟨h1, h2⟩ := h i c hc
  obtain ⟨h3, h4⟩ := h' i c h1
  exact ⟨h3, h4.trans h2⟩
theorem lk_cons {α : Type} (i : Nat) (c : α) (m : List (Nat × α)) (j : Nat) : lk ((i, c) :: m) j = if i = j then some c else lk m j := lk_cons' _ _ _

theorem push_ok {m : Srcs} {τ : Nat → Value} {i : Nat} {c : SC} {v : Value} (hg : Good ρ U m τ) (hn : lk m i = none) (hd : DenC ρ c v) (hw : c.wf U) :
    ∃ τ', Ext m τ ((i, c) :: m) τ' ∧ Good ρ U ((i, c) :: m) τ' ∧ lk ((i, c) :: m) i = some c ∧ τ' i = v := by
  refine ⟨Eng.upd τ i v, fun j d hj => ?_, fun j d hj => ?_, by simp [lk_cons], upd_same _ _ _⟩
  · have hne : j ≠ i := by rintro rfl; rw [hn] at hj; cases hj
    rw [lk_cons, if_neg (Ne.symm hne), upd_ne _ _ hne]
    exact ⟨hj, rfl⟩
  · rw [lk_cons] at hj
    split at hj
    · rename_i e
      subst e
      injection hj with hj
      subst hj
      rw [upd_same]
      exact ⟨hd, hw⟩
    · rename_i e
      rw [upd_ne _ _ (Ne.symm e)]
      exact hg j d hj
theorem addM_ok {m m' : Srcs} {τ : Nat → Value} {i : Nat} {c : SC} {v : Value} (hg : Good ρ U m τ) (h : addM m i c = some m') (hd : DenC ρ c v) (hw : c.wf U) :
    ∃ τ' c', Ext m τ m' τ' ∧ Good ρ U m' τ' ∧ lk m' i = some c' ∧ τ' i = v := by
  unfold addM at h
  split at h
  · rename_i hn
    injection h with h
    subst h
    obtain ⟨τ', h1, h2, h3, h4⟩ := push_ok hg hn hd hw
    exact ⟨τ', c, h1, h2, h3, h4⟩
  · rename_i c' hc'
    split at h
    · rename_i hs
      injection h with h
      subst h
      refine ⟨τ, c', .refl _ _, hg, hc', ?_⟩
      have hd' := (hg i c' hc').1
      unfold sameSrc at hs
      split at hs
      · simp at hs; subst hs
        exact hd'.1.trans hd.1.symm
      · simp at hs; subst hs
        obtain ⟨g, h1, h2⟩ := hd
        obtain ⟨g', h1', h2'⟩ := hd'
        rw [h1] at h1'
        rw [h2, h2', h1']
      · simp at hs; subst hs
        exact hd'.1.trans hd.1.symm
      · exact hd'.trans hd.symm
      · cases hs
    · cases h

theorem fitC_sound {m m' : Srcs} {τ : Nat → Value} {t c : SC} {p : Option Prop} {v : Value} (hg : Good ρ U m τ) (h : fitC m t c = some (m', p)) (hp : holdsO p) (hd : DenC ρ c v) (hw : c.wf U) :
    ∃ τ', Ext m τ m' τ' ∧ Good ρ U m' τ' ∧ ∀ m3 τ3, Ext m' τ' m3 τ3 → DenC τ3 t v := by
  have same : ∀ {q : Option Prop}, (m, q) = (m', p) → m = m' ∧ q = p := fun h => by simpa using h
  unfold fitC at h
  split at h
  · injection h with h
    obtain ⟨rfl, rfl⟩ := same h
    exact ⟨τ, .refl _ _, hg, fun _ _ _ => trivial⟩
  · injection h with h
    obtain ⟨rfl, rfl⟩ := same h
    have hp : _ = _ := hp
    subst hp
    exact ⟨τ, .refl _ _, hg, fun _ _ _ => hd⟩
  · injection h with h
    obtain ⟨rfl, rfl⟩ := same h
    have hp : _ = _ := hp
    subst hp
    exact ⟨τ, .refl _ _, hg, fun _ _ _ => hd⟩
  · injection h with h
    obtain ⟨rfl, rfl⟩ := same h
    have hp : _ = _ := hp
    subst hp
    exact ⟨τ, .refl _ _, hg, fun _ _ _ => hd⟩
  · injection h with h
    obtain ⟨rfl, rfl⟩ := same h
    have hp : _ = _ := hp
    subst hp
    exact ⟨τ, .refl _ _, hg, fun _ _ _ => hd⟩
  · rename_i x y
    split at h
    · rename_i hxy
      injection h with h
      obtain ⟨rfl, rfl⟩ := same h
      have : x = y := by simpa using hxy
      subst this
      exact ⟨τ, .refl _ _, hg, fun _ _ _ => hd⟩
    · cases h
  · injection h with h
    obtain ⟨rfl, rfl⟩ := same h
    exact ⟨τ, .refl _ _, hg, fun _ _ _ => hd⟩
  · injection h with h
    obtain ⟨rfl, rfl⟩ := same h
    exact ⟨τ, .refl _ _, hg, fun _ _ _ => hd⟩
  · split at h
    · rename_i e
      subst e
      injection h with h
      obtain ⟨rfl, rfl⟩ := same h
      exact ⟨τ, .refl _ _, hg, fun _ _ _ => hd⟩
    · cases h
  · rename_i i o j o'
    split at h
    · rename_i e
      subst e
      split at h
      · rename_i m1 hm1
        injection h with h
        simp only [Prod.mk.injEq] at h
        obtain ⟨rfl, rfl⟩ := h
        obtain ⟨g, h1, h2⟩ := hd
        obtain ⟨τ', c', he, hg', hl, hv⟩ := addM_ok (v := ρ j) hg hm1 ⟨g, h1, h1⟩ (fun x hx => hw x hx)
        refine ⟨τ', he, hg', fun m3 τ3 h3 => ⟨g, ?_, h2⟩⟩
        rw [(h3 i c' hl).2, hv, h1]
      · cases h
    · cases h
  · rename_i i j
    split at h
    · rename_i m1 hm1
      injection h with h
      simp only [Prod.mk.injEq] at h
      obtain ⟨rfl, rfl⟩ := h
      obtain ⟨τ', c', he, hg', hl, hv⟩ := addM_ok (v := v) hg hm1 hd hw
      refine ⟨τ', he, hg', fun m3 τ3 h3 => ⟨?_, hd.2⟩⟩
      rw [(h3 i c' hl).2, hv]
    · cases h
  · rename_i i j
    split at h
    · rename_i m1 hm1
      injection h with h
      simp only [Prod.mk.injEq] at h
      obtain ⟨rfl, rfl⟩ := h
      obtain ⟨τ', c', he, hg', hl, hv⟩ := addM_ok (v := v) hg hm1 hd hw
      refine ⟨τ', he, hg', fun m3 τ3 h3 => ⟨?_, hd.2⟩⟩
      rw [(h3 i c' hl).2, hv]
    · cases h
  · rename_i i
    split at h
    · rename_i m1 hm1
      injection h with h
      simp only [Prod.mk.injEq] at h
      obtain ⟨rfl, rfl⟩ := h
      obtain ⟨τ', c', he, hg', hl, hv⟩ := addM_ok (v := v) hg hm1 hd hw
      refine ⟨τ', he, hg', fun m3 τ3 h3 => ⟨?_, none, 0, 0, hd⟩⟩
      rw [(h3 i c' hl).2, hv]
    · cases h
  · rename_i i j lo n sz
    split at h
    · rename_i hn
      injection h with h
      simp only [Prod.mk.injEq] at h
      obtain ⟨rfl, rfl⟩ := h
      obtain ⟨τ', he, hg', hl, hv⟩ := push_ok hg hn hd hw
      refine ⟨τ', he, hg', fun m3 τ3 h3 => ⟨?_, ?_⟩⟩
      · rw [(h3 i _ hl).2, hv]
      · obtain ⟨A, n0, c0, A', c', _, h2, _⟩ := hd
        exact ⟨_, _, _, h2⟩
    · cases h
  · rename_i i lo n sz j lo' n' sz'
    split at h
    · rename_i e
      subst e
      split at h
      · rename_i m1 hm1
        injection h with h
        simp only [Prod.mk.injEq] at h
        obtain ⟨rfl, rfl⟩ := h
        obtain ⟨rfl, rfl⟩ := hp
        obtain ⟨A, n0, c0, A', c', h1, h2, h3, h4, h5⟩ := hd
        obtain ⟨τ', c'', he, hg', hl, hv⟩ := addM_ok (v := ρ j) hg hm1 ⟨rfl, A, n0, c0, h1⟩ (fun x hx => hw x hx)
        refine ⟨τ', he, hg', fun m3 τ3 h3' => ⟨A, n0, c0, A', c', ?_, h2, h3, h4, h5⟩⟩
        rw [(h3' i _ hl).2, hv, h1]
      · cases h
    · cases h
  · cases h

theorem fitL_sound : ∀ {ts cs : List SC} {m m' : Srcs} {τ : Nat → Value} {p : Option Prop} {vs : List Value}, Good ρ U m τ → fitL m ts cs = some (m', p) → holdsO p → All2 (DenC ρ) cs vs → (∀ c ∈ cs, c.wf U) →
    ∃ τ', Ext m τ m' τ' ∧ Good ρ U m' τ' ∧ ∀ m3 τ3, Ext m' τ' m3 τ3 → All2 (DenC τ3) ts vs
  | [], [], m, m', τ, p, vs, hg, h, hp, hd, hw => by
    simp only [fitL, Option.some.injEq, Prod.mk.injEq] at h
    obtain ⟨rfl, rfl⟩ := h
    exact ⟨τ, .refl _ _, hg, fun _ _ _ => by cases vs <;> simp_all [All2]⟩
  | t :: ts, c :: cs, m, m', τ, p, vs, hg, h, hp, hd, hw => by
    simp only [fitL] at h
    split at h
    · rename_i m1 p1 h1
      split at h
      · rename_i m2 q2 h2
        simp only [Option.some.injEq, Prod.mk.injEq] at h
        obtain ⟨rfl, rfl⟩ := h
        obtain ⟨hp1, hp2⟩ := andO_iff.1 hp
        cases vs with
        | nil => exact hd.elim
        | cons v vs =>
          obtain ⟨τ1, he1, hg1, hd1⟩ := fitC_sound hg h1 hp1 hd.1 (hw c (by simp))
          obtain ⟨τ2, he2, hg2, hd2⟩ := fitL_sound hg1 h2 hp2 hd.2 (fun x hx => hw x (by simp [hx]))
          exact ⟨τ2, he1.trans he2, hg2, fun m3 τ3 h3 => ⟨hd1 m3 τ3 (he2.trans h3), hd2 m3 τ3 h3⟩⟩
      · cases h
    · cases h
  | [], _ :: _, _, _, _, _, _, _, h, _, _, _ => by simp [fitL] at h
  | _ :: _, [], _, _, _, _, _, _, h, _, _, _ => by simp [fitL] at h

theorem fitW_sound {ts cs : SW} {m m' : Srcs} {τ : Nat → Value} {p : Option Prop} {v : Value} (hg : Good ρ U m τ) (h : fitW m ts cs = some (m', p)) (hp : holdsO p) (hd : DenW ρ cs v) (hw : cs.wf U) :
    ∃ τ', Ext m τ m' τ' ∧ Good ρ U m' τ' ∧ ∀ m3 τ3, Ext m' τ' m3 τ3 → DenW τ3 ts v := by
  unfold fitW at h
  split at h
  · exact fitC_sound hg h hp hd hw
  · obtain ⟨vs, rfl, hl⟩ := hd
    obtain ⟨τ1, he1, hg1, hd1⟩ := fitL_sound hg h hp (denL_iff.1 hl) hw
    exact ⟨τ1, he1, hg1, fun m3 τ3 h3 => ⟨vs, rfl, denL_iff.2 (hd1 m3 τ3 h3)⟩⟩
  · cases h
theorem fitWs_sound : ∀ {ts cs : List SW} {m m' : Srcs} {τ : Nat → Value} {p : Option Prop} {vs : List Value}, Good ρ U m τ → fitWs m ts cs = some (m', p) → holdsO p → All2 (DenW ρ) cs vs → (∀ c ∈ cs, c.wf U) →
    ∃ τ', Ext m τ m' τ' ∧ Good ρ U m' τ' ∧ ∀ m3 τ3, Ext m' τ' m3 τ3 → All2 (DenW τ3) ts vs
  | [], [], m, m', τ, p, vs, hg, h, hp, hd, hw => by
    simp only [fitWs, Option.some.injEq, Prod.mk.injEq] at h
    obtain ⟨rfl, rfl⟩ := h
    exact ⟨τ, .refl _ _, hg, fun _ _ _ => by cases vs <;> simp_all [All2]⟩
  | t :: ts, c :: cs, m, m', τ, p, vs, hg, h, hp, hd, hw => by
    simp only [fitWs] at h
    split at h
    · rename_i m1 p1 h1
      split at h
      · rename_i m2 q2 h2
        simp only [Option.some.injEq, Prod.mk.injEq] at h
        obtain ⟨rfl, rfl⟩ := h
        obtain ⟨hp1, hp2⟩ := andO_iff.1 hp
        cases vs with
        | nil => exact hd.elim
        | cons v vs =>
          obtain ⟨τ1, he1, hg1, hd1⟩ := fitW_sound hg h1 hp1 hd.1 (hw c (by simp))
          obtain ⟨τ2, he2, hg2, hd2⟩ := fitWs_sound hg1 h2 hp2 hd.2 (fun x hx => hw x (by simp [hx]))
          exact ⟨τ2, he1.trans he2, hg2, fun m3 τ3 h3 => ⟨hd1 m3 τ3 (he2.trans h3), hd2 m3 τ3 h3⟩⟩
      · cases h
    · cases h
  | [], _ :: _, _, _, _, _, _, _, h, _, _, _ => by simp [fitWs] at h
  | _ :: _, [], _, _, _, _, _, _, h, _, _, _ => by simp [fitWs] at h
theorem denT_iff {ρ : Nat → Value} {l : List SW} {v : Value} : DenV ρ (.t l) v ↔ ∃ vs : Array Value, v = .tuple vs ∧ All2 (DenW ρ) l vs.toList := by
  simp only [DenV, all2_iff]
  simp
theorem fitV_sound {ts cs : SV} {m m' : Srcs} {τ : Nat → Value} {p : Option Prop} {v : Value} (hg : Good ρ U m τ) (h : fitV m ts cs = some (m', p)) (hp : holdsO p) (hd : DenV ρ cs v) (hw : cs.wf U) :
    ∃ τ', Ext m τ m' τ' ∧ Good ρ U m' τ' ∧ ∀ m3 τ3, Ext m' τ' m3 τ3 → DenV τ3 ts v := by
  unfold fitV at h
  split at h
  · simp only [Option.some.injEq, Prod.mk.injEq] at h
    obtain ⟨rfl, rfl⟩ := h
    exact ⟨τ, .refl _ _, hg, fun _ _ _ => trivial⟩
  · exact fitW_sound hg h hp hd hw
  · obtain ⟨vs, rfl, hl⟩ := denT_iff.1 hd
    obtain ⟨τ1, he1, hg1, hd1⟩ := fitWs_sound hg h hp hl hw
    exact ⟨τ1, he1, hg1, fun m3 τ3 h3 => denT_iff.2 ⟨vs, rfl, hd1 m3 τ3 h3⟩⟩
  · cases h
theorem fitE_sound : ∀ {ts cs : Env} {m m' : Srcs} {τ : Nat → Value} {p : Option Prop} {f : Nat → Value}, Good ρ U m τ → fitE m ts cs = some (m', p) → holdsO p → (∀ t, DenV ρ (nth .u cs t) (f t) ∧ (nth .u cs t).wf U) →
    ∃ τ', Ext m τ m' τ' ∧ Good ρ U m' τ' ∧ ∀ m3 τ3, Ext m' τ' m3 τ3 → ∀ t, DenV τ3 (nth .u ts t) (f t)
  | [], cs, m, m', τ, p, f, hg, h, hp, hd => by
    simp only [fitE, Option.some.injEq, Prod.mk.injEq] at h
    obtain ⟨rfl, rfl⟩ := h
    exact ⟨τ, .refl _ _, hg, fun _ _ _ _ => trivial⟩
  | t :: ts, cs, m, m', τ, p, f, hg, h, hp, hd => by
    simp only [fitE] at h
    split at h
    · rename_i m1 p1 h1
      split at h
      · rename_i m2 q2 h2
        simp only [Option.some.injEq, Prod.mk.injEq] at h
        obtain ⟨rfl, rfl⟩ := h
        obtain ⟨hp1, hp2⟩ := andO_iff.1 hp
        have htail : ∀ t, nth .u (tlE cs) t = nth .u cs (t + 1) := by cases cs <;> intro t <;> rfl
        obtain ⟨τ1, he1, hg1, hd1⟩ := fitV_sound hg h1 hp1 (hd 0).1 (hd 0).2
        obtain ⟨τ2, he2, hg2, hd2⟩ := fitE_sound (f := fun t => f (t + 1)) hg1 h2 hp2 (fun t => by rw [htail]; exact hd (t + 1))
        refine ⟨τ2, he1.trans he2, hg2, fun m3 τ3 h3 t => ?_⟩
        cases t with
        | zero => exact hd1 m3 τ3 (he2.trans h3)
        | succ t => exact hd2 m3 τ3 h3 t
      · cases h
    · cases h

/-- What is known of a form's block. -/
def Fact (w : World) (φ : Nat → Nat → Prop) (H : Nat → HB) (τ : Nat → Value) (hb : HB) (i : Nat) (c : SC) : Prop :=
  hb = .dead ∨ (Holds τ w (fun b => ∃ j, srcId c = some j ∧ φ j b) hb (τ i) ∧ ∀ j, srcId c = some j → (H j).live = true ∧ (hb.own = true → (H j).own = true))

theorem fitX_sound {Hl : Heap} (hH : H = hget Hl) (hm : Mem B w0 ρ φ U H w) : ∀ {hs : Heap} {k : Nat} {m m' : Srcs} {τ : Nat → Value} {p : Option Prop} {d : List Nat}, Good ρ U m τ → fitX Hl m k hs = some (m', p, d) → holdsO p →
    ∃ τ', Ext m τ m' τ' ∧ Good ρ U m' τ' ∧ ∀ m3 τ3, Ext m' τ' m3 τ3 → Good ρ U m3 τ3 → ∀ i ∈ d, k ≤ i ∧ ∃ j, lk m' i = some (.p j 0) ∧ Fact w φ H τ3 (hget hs (i - k)) i (.p j 0)
  | [], k, m, m', τ, p, d, hg, h, hp => by
    simp only [fitX, Option.some.injEq, Prod.mk.injEq] at h
    obtain ⟨rfl, rfl, rfl⟩ := h
    exact ⟨τ, .refl _ _, hg, fun _ _ _ _ i hi => by cases hi⟩
  | hb :: hs, k, m, m', τ, p, d, hg, h, hp => by
    have shift : ∀ {m1 m' : Srcs} {τ1 : Nat → Value} {q : Option Prop} {d : List Nat}, Good ρ U m1 τ1 → fitX Hl m1 (k + 1) hs = some (m', q, d) → holdsO q →
        ∃ τ', Ext m1 τ1 m' τ' ∧ Good ρ U m' τ' ∧ ∀ m3 τ3, Ext m' τ' m3 τ3 → Good ρ U m3 τ3 → ∀ i ∈ d, k ≤ i ∧ i ≠ k ∧ ∃ j, lk m' i = some (.p j 0) ∧ Fact w φ H τ3 (hget (hb :: hs) (i - k)) i (.p j 0) := by
      intro m1 m' τ1 q d hg1 h1 hq
      obtain ⟨τ', he, hg', hf⟩ := fitX_sound hH hm hg1 h1 hq
      refine ⟨τ', he, hg', fun m3 τ3 h3 hg3 i hi => ?_⟩
      obtain ⟨hle, j, hj, hfa⟩ := hf m3 τ3 h3 hg3 i hi
      refine ⟨by omega, by omega, j, hj, ?_⟩
      have : i - k = (i - (k + 1)) + 1 := by omega
      rw [this]
      exact hfa
    unfold fitX at h
    split at h
    · rename_i hnil; cases hnil
    · rename_i k' own ty l hs' hcons
      injection hcons with e1 e2
      subst e1; subst e2
      split at h
      · rename_i j hj
        split at h
        · rename_i own' ty' l' hh
          split at h
          · rename_i ety
            subst ety
            split at h
            · rename_i eo
              have eo : own = own' := by simpa using eo
              subst eo
              split at h
              · rename_i m1 p1 h1
                split at h
                · rename_i m2 q2 d2 h2
                  simp only [Option.some.injEq, Prod.mk.injEq] at h
                  obtain ⟨rfl, rfl, rfl⟩ := h
                  obtain ⟨hp1, hp2⟩ := andO_iff.1 hp
                  have hHj : H j = .cells own ty l' := by rw [hH]; exact hh
                  have hhold := hm.holds j
                  rw [hHj] at hhold
                  obtain ⟨g, cs, hρj, hφ, hheap, hden⟩ := hhold
                  have hwf := hm.wf j
                  rw [hHj] at hwf
                  obtain ⟨τ1, he1, hg1, hd1⟩ := fitL_sound hg h1 hp1 (denL_iff.1 hden) hwf
                  obtain ⟨τ2, he2, hg2, hd2⟩ := shift hg1 h2 hp2
                  refine ⟨τ2, he1.trans he2, hg2, fun m3 τ3 h3 hg3 i hi => ?_⟩
                  rcases List.mem_cons.1 hi with rfl | hi
                  · have hj3 := ((he1.trans he2).trans h3) i _ hj
                    refine ⟨Nat.le_refl _, j, ((he1.trans he2) i _ hj).1, .inr ⟨?_, fun j' hj' => ?_⟩⟩
                    · rw [Nat.sub_self]
                      obtain ⟨g', hg'1, hg'2⟩ := (hg3 i _ hj3.1).1
                      rw [hρj] at hg'1
                      injection hg'1 with hg'1
                      injection hg'1 with hg'1
                      injection hg'1 with hg'1
                      subst hg'1
                      exact ⟨g, cs, hg'2, ⟨j, rfl, hφ⟩, hheap, denL_iff.2 (hd1 m3 τ3 (he2.trans h3))⟩
                    · simp only [srcId, Option.some.injEq] at hj'
                      subst hj'
                      rw [hHj, Nat.sub_self]
                      exact ⟨rfl, fun h => h⟩
                  · obtain ⟨a1, _, a3⟩ := hd2 m3 τ3 h3 hg3 i hi
                    exact ⟨a1, a3⟩
                · cases h
              · cases h
            · cases h
          · cases h
        · cases h
      · cases h
      · obtain ⟨τ', he, hg', hf⟩ := shift hg h hp
        exact ⟨τ', he, hg', fun m3 τ3 h3 hg3 i hi => by obtain ⟨a1, _, a3⟩ := hf m3 τ3 h3 hg3 i hi; exact ⟨a1, a3⟩⟩
    · rename_i k' hb' hs' hcons hne
      injection hne with e1 e2
      subst e1; subst e2
      obtain ⟨τ', he, hg', hf⟩ := shift hg h hp
      exact ⟨τ', he, hg', fun m3 τ3 h3 hg3 i hi => by obtain ⟨a1, _, a3⟩ := hf m3 τ3 h3 hg3 i hi; exact ⟨a1, a3⟩⟩

theorem sameName_spec {all : Srcs} {τ : Nat → Value} {q q' : Nat} (hg : Good ρ U all τ) (h : sameName all q q' = true) : τ q = ρ q' := by
  unfold sameName at h
  split at h
  · rename_i j hj
    have e := Nat.eq_of_beq_eq_true h
    subst e
    exact (hg q _ hj).1.1
  · cases h
theorem fitA_sound {Hl : Heap} (hH : H = hget Hl) (hm : Mem B w0 ρ φ U H w) {t : HB} {c : SC} {p : Option Prop} {τ : Nat → Value} {all : Srcs} (hg : Good ρ U all τ) {i : Nat} (h : fitA Hl all t c = some p) (hp : holdsO p) (hd : DenC ρ c (τ i)) : Fact w φ H τ t i c := by
  have foot : ∀ j, (fun b => ∃ j', srcId (.fs j) = some j' ∧ φ j' b) = φ j := by
    intro j
    funext b
    apply propext
    simp [srcId]
  unfold fitA at h
  split at h
  · rename_i k e own xs
    injection h with h
    subst h
    have hp : xs = [] := hp
    subst hp
    have hd : τ i = .slice none 0 0 := hd
    refine .inr ⟨?_, fun j hj => by simp [srcId] at hj⟩
    cases own
    · exact ⟨none, 0, hd, Nat.le_refl _, Nat.zero_le _, fun h => absurd rfl h, fun a ha => by cases ha⟩
    · refine ⟨fun g hg => (by rw [hd] at hg; cases hg), [], ?_, fun i x hx => (by simp at hx), rowsApart_one (by cases k <;> rfl) (by simp)⟩
      rw [hd]
      exact World.ownsRow_nil _ _ _ _
  · rename_i k e own xs j
    split at h
    · rename_i k' e' own' ys hh
      have hHj : H j = .arr k' e' own' ys := by rw [hH]; exact hh
      split at h
      · rename_i hk _
        subst hk
        have hv : τ i = ρ j := hd.1
        have hhold := hm.holds j
        rw [hHj] at hhold
        have hφ : (fun b => ∃ j', srcId (.fs j) = some j' ∧ φ j' b) = φ j := by
          funext b
          apply propext
          simp [srcId]
        split at h
        · injection h with h
          subst h
          have hp : ys = xs := hp
          subst hp
          refine .inr ⟨?_, fun j' hj' => ?_⟩
          · rw [hφ, hv]; exact hhold
          · simp only [srcId, Option.some.injEq] at hj'
            subst hj'
            rw [hHj]
            exact ⟨rfl, fun h => h⟩
        · injection h with h
          subst h
          have hp : ys = xs := hp
          subst hp
          refine .inr ⟨?_, fun j' hj' => ?_⟩
          · rw [hφ, hv]; exact mem_view hm hHj
          · simp only [srcId, Option.some.injEq] at hj'
            subst hj'
            rw [hHj]
            exact ⟨rfl, fun h => by cases h⟩
        · split at h
          · rename_i ee
            subst ee
            injection h with h
            subst h
            have hp : ys = xs := hp
            subst hp
            refine .inr ⟨?_, fun j' hj' => ?_⟩
            · rw [hφ, hv]; exact hhold
            · simp only [srcId, Option.some.injEq] at hj'
              subst hj'
              rw [hHj]
              exact ⟨rfl, fun h => h⟩
          · cases h
        · cases h
      · cases h
    · cases h
  · rename_i k f j
    split at h
    · rename_i k' g hh
      have hHj : H j = .map k' g := by rw [hH]; exact hh
      split at h
      · rename_i hk _
        subst hk
        injection h with h
        subst h
        have hp : g = f := hp
        subst hp
        have hv : τ i = ρ j := hd.1
        have hhold := hm.holds j
        rw [hHj] at hhold
        have hφ : (fun b => ∃ j', srcId (.m j) = some j' ∧ φ j' b) = φ j := by
          funext b
          apply propext
          simp [srcId]
        refine .inr ⟨?_, fun j' hj' => ?_⟩
        · rw [hφ, hv]; exact hhold
        · simp only [srcId, Option.some.injEq] at hj'
          subst hj'
          rw [hHj]
          exact ⟨rfl, fun h => h⟩
      · cases h
    · cases h
  · rename_i fk e xs ix c j
    split at h
    · rename_i fk' e' xs' ix' c' hh
      have hHj : H j = .hole fk' e' xs' ix' c' := by rw [hH]; exact hh
      split at h
      · rename_i hk _
        subst hk
        split at h
        · rename_i he
          subst he
          have hv : τ i = ρ j := hd.1
          have hhold := hm.holds j
          rw [hHj] at hhold
          obtain ⟨h0, cs, u, ho, hu, hdu, hc, ha⟩ := hhold
          have fin : ∀ d : SC, DenC τ d u → xs' = xs → ix' = ix → Fact w φ H τ (.hole fk' e xs ix d) i (.fs j) := by
            rintro d hdd rfl rfl
            refine .inr ⟨?_, fun j' hj' => ?_⟩
            · rw [foot, hv]
              exact ⟨h0, cs, u, ho, hu, hdd, hc, ha⟩
            · simp only [srcId, Option.some.injEq] at hj'
              subst hj'
              rw [hHj]
              exact ⟨rfl, fun h => h⟩
          split at h
          · rename_i q q'
            split at h
            · rename_i hs
              injection h with h
              subst h
              obtain ⟨e1, e2⟩ := hp
              exact fin _ ⟨by rw [sameName_spec hg hs]; exact hdu.1, hdu.2⟩ e1 e2
            · cases h
          · rename_i q m q' m'
            split at h
            · rename_i hs
              injection h with h
              subst h
              obtain ⟨e1, e2, e3⟩ := hp
              subst e3
              refine fin _ ?_ e1 e2
              obtain ⟨A, c, g1, g2⟩ := hdu
              exact ⟨A, c, by rw [sameName_spec hg hs]; exact g1, g2⟩
            · cases h
          · cases h
        · cases h
      · cases h
    · cases h
  · rename_i fk ys c j
    split at h
    · rename_i fk' ys' c' hh
      have hHj : H j = .pre fk' ys' c' := by rw [hH]; exact hh
      split at h
      · rename_i hk _
        subst hk
        injection h with h
        subst h
        obtain ⟨e1, e2⟩ := hp
        have e1 : ys' = ys := e1
        subst e1; subst e2
        have hv : τ i = ρ j := hd.1
        have hhold := hm.holds j
        rw [hHj] at hhold
        refine .inr ⟨?_, fun j' hj' => ?_⟩
        · rw [foot, hv]; exact hhold
        · simp only [srcId, Option.some.injEq] at hj'
          subst hj'
          rw [hHj]
          exact ⟨rfl, fun h => h⟩
      · cases h
    · cases h
  · rename_i e rows ix
    injection h with h
    subst h
    have hp : rows = [] := hp
    subst hp
    have hd : τ i = .slice none 0 0 := hd
    refine .inr ⟨?_, fun j hj => by simp [srcId] at hj⟩
    exact ⟨fun g hg => (by rw [hd] at hg; cases hg), [], rfl, .inl ⟨hd, rfl⟩, fun i j u v _ hi => (by simp at hi), fun i x _ hx => (by simp at hx), fun hc => absurd rfl hc⟩
  · rename_i e rows ix j
    split at h
    · rename_i e' rows' ix' hh
      have hHj : H j = .room e' rows' ix' .u := by rw [hH]; exact hh
      split at h
      · rename_i he
        subst he
        injection h with h
        subst h
        have hp : rows' = rows := hp
        subst hp
        have hv : τ i = ρ j := hd.1
        have hhold := hm.holds j
        rw [hHj] at hhold
        obtain ⟨h0, us, hl, hs, hp, hr, hd'⟩ := hhold
        refine .inr ⟨?_, fun j' hj' => ?_⟩
        · rw [foot, hv]; exact ⟨h0, us, hl, hs, hp, fun i x _ hx => hr i x (fun _ => rfl) hx, fun hc => absurd rfl hc⟩
        · simp only [srcId, Option.some.injEq] at hj'
          subst hj'
          rw [hHj]
          exact ⟨rfl, fun h => h⟩
      · cases h
    · cases h
  · rename_i e rows ix q m j
    split at h
    · rename_i e' rows' ix' q' m' hh
      have hHj : H j = .room e' rows' ix' (.st q' m') := by rw [hH]; exact hh
      split at h
      · rename_i he
        subst he
        split at h
        · rename_i hsn
          injection h with h
          subst h
          obtain ⟨e1, e2, e3⟩ := hp
          subst e1; subst e2; subst e3
          have hv : τ i = ρ j := hd.1
          have hhold := hm.holds j
          rw [hHj] at hhold
          obtain ⟨h0, us, hl, hs, hp, hr, hd'⟩ := hhold
          refine .inr ⟨?_, fun j' hj' => ?_⟩
          · rw [foot, hv]
            refine ⟨h0, us, hl, hs, hp, fun i x hi hx => hr i x (fun q => absurd (hi q) (by intro h; cases h)) hx, fun hc => ?_⟩
            obtain ⟨u, hu, A, c, g1, g2⟩ := hd' (by intro h; cases h)
            exact ⟨u, hu, A, c, by rw [sameName_spec hg hsn]; exact g1, g2⟩
          · simp only [srcId, Option.some.injEq] at hj'
            subst hj'
            rw [hHj]
            exact ⟨rfl, fun h => h⟩
        · cases h
      · cases h
    · cases h
  · exact .inl rfl
  · cases h
theorem fitM_sound {HT Hl : Heap} (hH : H = hget Hl) (hm : Mem B w0 ρ φ U H w) {d : List Nat} {τ : Nat → Value} {all : Srcs} (hg : Good ρ U all τ) : ∀ {m : Srcs} {p : Option Prop}, fitM HT Hl d all m = some p → holdsO p →
    ∀ i c, (i, c) ∈ m → i ∈ d ∨ ∃ c', lk all i = some c' ∧ Fact w φ H τ (hget HT i) i c'
  | [], _, _, _ => fun i c h => by cases h
  | (i0, c0) :: m, p, h, hp => by
    unfold fitM at h
    split at h
    · rename_i p1 q1 h1 h2
      injection h with h
      subst h
      obtain ⟨hp1, hq1⟩ := andO_iff.1 hp
      intro i c hic
      rcases List.mem_cons.1 hic with e | hic
      · simp only [Prod.mk.injEq] at e
        obtain ⟨rfl, rfl⟩ := e
        split at h1
        · rename_i hx
          split at h1
          · rename_i hc
            exact .inl (by simpa using hc)
          · cases h1
        · split at h1
          · rename_i c' hc'
            exact .inr ⟨c', hc', fitA_sound hH hm hg h1 hp1 (hg i c' hc').1⟩
          · cases h1
      · exact fitM_sound hH hm hg h2 hq1 i c hic
    · cases h
end
end Go.Eng

/- A state fits a form: put together. -/
set_option linter.unusedVariables false
set_option linter.unusedSimpArgs false
namespace Go.Eng
open Go Go.RowKit
section
variable {P : Program} {T : Tab} {B : Nat} {w0 : Base} {w : World} {ρ : Nat → Value} {φ : Nat → Nat → Prop} {U : Nat → Prop} {H : Nat → HB}

theorem hget_keepH : ∀ (HT : Heap) (m : Srcs) (k i : Nat), hget (keepH m k HT) i = match lk m (k + i) with | some _ => hget HT i | none => .dead
  | [], m, k, i => by
    have : hget (keepH m k []) i = .dead := by cases i <;> rfl
    rw [this]
    have h2 : hget ([] : Heap) i = .dead := by cases i <;> rfl
    rw [h2]
    split <;> rfl
  | h :: hs, m, k, 0 => by
    simp only [keepH, Nat.add_zero]
    cases lk m k <;> rfl
  | h :: hs, m, k, i + 1 => by
    have := hget_keepH hs m (k + 1) i
    have e : k + 1 + i = k + (i + 1) := by omega
    rw [e] at this
    exact this
theorem hget_out {HT : Heap} {i : Nat} (h : (hget HT i).live = true) : i < HT.length := by
  by_cases hi : i < HT.length
  · exact hi
  · have : hget HT i = .dead := nth_out _ _ _ (by omega)
    rw [this] at h; cases h
theorem wfC_wf {n : Nat} {c : SC} (h : wfC n c = true) : c.wf (· < n) := by
  intro x hx
  cases c <;> simp only [SC.ids, wfC] at hx h
  all_goals first | exact hx.elim | (subst hx; simpa [Nat.blt_eq] using h)
theorem wfL_wf {n : Nat} : ∀ {l : List SC}, wfL n l = true → ∀ c ∈ l, c.wf (· < n)
  | [], _ => fun c h => by cases h
  | c :: l, h => by
    unfold wfL at h
    split at h
    · rename_i hc
      intro x hx
      rcases List.mem_cons.1 hx with rfl | hx
      · exact wfC_wf hc
      · exact wfL_wf h x hx
    · cases h
theorem wfW_wf {n : Nat} {s : SW} (h : wfW n s = true) : s.wf (· < n) := by
  cases s with
  | c x => exact wfC_wf h
  | g l => exact wfL_wf h
theorem wfWs_wf {n : Nat} : ∀ {l : List SW}, wfWs n l = true → ∀ c ∈ l, c.wf (· < n)
  | [], _ => fun c h => by cases h
  | c :: l, h => by
    unfold wfWs at h
    split at h
    · rename_i hc
      intro x hx
      rcases List.mem_cons.1 hx with rfl | hx
      · exact wfW_wf hc
      · exact wfWs_wf h x hx
    · cases h
theorem wfV_wf {n : Nat} {s : SV} (h : wfV n s = true) : s.wf (· < n) := by
  cases s with
  | w x => exact wfW_wf h
  | t l => exact wfWs_wf h
theorem wfE_wf {n : Nat} : ∀ {l : Env}, wfE n l = true → ∀ t, (nth .u l t).wf (· < n)
  | [], _, t => fun _ h => h.elim
  | c :: l, h, t => by
    unfold wfE at h
    split at h
    · rename_i hc
      cases t with
      | zero => exact wfV_wf hc
      | succ t => exact wfE_wf h t
    · cases h
theorem wfH_wf {n : Nat} : ∀ {l : Heap}, wfH n l = true → ∀ i, (hget l i).wf (· < n)
  | [], _, i => by
    have : hget ([] : Heap) i = .dead := by cases i <;> rfl
    rw [this]; trivial
  | c :: l, h, i => by
    have hl : wfH n l = true ∧ c.wf (· < n) := by
      cases c with
      | cells o t cs =>
        simp only [wfH] at h
        split at h
        · rename_i hc
          exact ⟨h, wfL_wf hc⟩
        · cases h
      | dead => exact ⟨h, trivial⟩
      | arr k e o xs => exact ⟨h, trivial⟩
      | map k f => exact ⟨h, trivial⟩
      | hole fk e xs ix c =>
        simp only [wfH] at h
        split at h
        · rename_i hc
          exact ⟨h, wfC_wf hc⟩
        · cases h
      | pre fk ys c => exact ⟨h, trivial⟩
      | room e rows ix c =>
        simp only [wfH] at h
        split at h
        · rename_i hc
          exact ⟨h, wfC_wf hc⟩
        · cases h
    cases i with
    | zero => exact hl.2
    | succ i => exact wfH_wf hl.1 i
theorem lk_mem {α : Type} : ∀ {m : List (Nat × α)} {i : Nat} {c : α}, lk m i = some c → (i, c) ∈ m
  | [], _, _, h => by cases h
  | (j, d) :: m, i, c, h => by
    rw [lk_cons] at h
    split at h
    · rename_i e
      injection h with h
      subst e; subst h
      simp
    · exact List.mem_cons_of_mem _ (lk_mem h)
theorem clash_spec {i : Nat} {j : Nat} : ∀ {m : Srcs}, clash i (some j) m = false → ∀ i' c', (i', c') ∈ m → i ≠ i' → srcId c' ≠ some j
  | [], _, _, _, h, _ => by cases h
  | (i0, c0) :: m, h, i', c', hm, hne => by
    unfold clash at h
    split at h
    · rename_i e
      rcases List.mem_cons.1 hm with e' | hm
      · simp only [Prod.mk.injEq] at e'
        simp at e
        exact absurd (e.trans e'.1.symm) hne
      · exact clash_spec h i' c' hm hne
    · split at h
      · rename_i a b h1 h2
        injection h1 with h1
        subst h1
        split at h
        · cases h
        · rename_i hab
          rcases List.mem_cons.1 hm with e' | hm
          · simp only [Prod.mk.injEq] at e'
            rw [e'.2, h2]
            intro e
            injection e with e
            subst e
            simp at hab
          · exact clash_spec h i' c' hm hne
      · rename_i hno
        rcases List.mem_cons.1 hm with e' | hm
        · simp only [Prod.mk.injEq] at e'
          rw [e'.2]
          intro e
          exact hno j j rfl e
        · exact clash_spec h i' c' hm hne
theorem inj_spec {HT : Heap} {all : Srcs} : ∀ {m : Srcs}, inj HT all m = true → ∀ i c, (i, c) ∈ m → (hget HT i).own = true → ∀ j, srcId c = some j → ∀ i' c', (i', c') ∈ all → i ≠ i' → srcId c' ≠ some j
  | [], _ => fun i c h => by cases h
  | (i0, c0) :: m, h => by
    intro i c hm ho j hj i' c' hm' hne
    unfold inj at h
    rcases List.mem_cons.1 hm with e | hm
    · simp only [Prod.mk.injEq] at e
      obtain ⟨rfl, rfl⟩ := e
      rw [ho] at h
      simp only at h
      split at h
      · cases h
      · rename_i hc
        rw [hj] at hc
        exact clash_spec hc i' c' hm' hne
    · split at h
      · split at h
        · cases h
        · exact inj_spec h i c hm ho j hj i' c' hm' hne
      · exact inj_spec h i c hm ho j hj i' c' hm' hne

theorem fit_mem {HT : Heap} {m : Srcs} {τ : Nat → Value} {n : Nat} (hm : Mem B w0 ρ φ U H w) (hf : ∀ i c, lk m i = some c → Fact w φ H τ (hget HT i) i c) (hi : inj HT m m = true) (hw : wfH n HT = true) (hn : HT.length ≤ n) :
    Mem B w0 τ (fun i b => ∃ c j, lk m i = some c ∧ srcId c = some j ∧ φ j b) (· < n) (hget (keepH m 0 HT)) w := by
  have hget' : ∀ i, hget (keepH m 0 HT) i = match lk m i with | some _ => hget HT i | none => .dead := fun i => by rw [hget_keepH, Nat.zero_add]
  have live : ∀ i, (hget (keepH m 0 HT) i).live = true → ∃ c, lk m i = some c ∧ (hget HT i).live = true ∧ hget (keepH m 0 HT) i = hget HT i := by
    intro i h
    rw [hget'] at h
    cases hl : lk m i with
    | none => rw [hl] at h; cases h
    | some c => rw [hl] at h; exact ⟨c, rfl, h, by rw [hget', hl]⟩
  have fact : ∀ i c, lk m i = some c → (hget HT i).live = true → (Holds τ w (fun b => ∃ j, srcId c = some j ∧ φ j b) (hget HT i) (τ i) ∧ ∀ j, srcId c = some j → (H j).live = true ∧ ((hget HT i).own = true → (H j).own = true)) := by
    intro i c hl hlive
    rcases hf i c hl with hd | h
    · rw [hd] at hlive; cases hlive
    · exact h
  have foot : ∀ i c, lk m i = some c → (fun b => ∃ c j, lk m i = some c ∧ srcId c = some j ∧ φ j b) = (fun b => ∃ j, srcId c = some j ∧ φ j b) := by
    intro i c hl
    funext b
    apply propext
    rw [hl]
    constructor
    · rintro ⟨c', j, hc', hj, hb⟩
      injection hc' with hc'
      subst hc'
      exact ⟨j, hj, hb⟩
    · rintro ⟨j, hj, hb⟩
      exact ⟨c, j, rfl, hj, hb⟩
  refine ⟨hm.base, hm.below, fun i hl => ?_, fun i => ?_, fun i => ?_, fun i hl b hb => ?_, fun i ho b hb => ?_, fun i i' hne ho hl' b hb hb' => ?_, fun i hl b hb hB => ?_⟩
  · obtain ⟨c, _, h1, _⟩ := live i hl
    exact Nat.lt_of_lt_of_le (hget_out h1) hn
  · rw [hget']
    cases lk m i with
    | none => trivial
    | some c => exact wfH_wf hw i
  · by_cases hl : (hget (keepH m 0 HT) i).live = true
    · obtain ⟨c, h1, h2, h3⟩ := live i hl
      rw [h3]
      have := (fact i c h1 h2).1
      rw [← foot i c h1] at this
      exact this
    · have : hget (keepH m 0 HT) i = .dead := by cases hh : hget (keepH m 0 HT) i <;> simp_all [HB.live]
      rw [this]; trivial
  · obtain ⟨c, h1, h2, h3⟩ := live i hl
    obtain ⟨c', j, hc', hj, hb⟩ := hb
    rw [h1] at hc'
    injection hc' with hc'
    subst hc'
    exact hm.lt j ((fact i c h1 h2).2 j hj).1 b hb
  · obtain ⟨c, h1, h2, h3⟩ := live i (HB.live_of_own ho)
    obtain ⟨c', j, hc', hj, hb⟩ := hb
    rw [h1] at hc'
    injection hc' with hc'
    subst hc'
    rw [h3] at ho
    exact hm.low j (((fact i c h1 h2).2 j hj).2 ho) b hb
  · obtain ⟨c, h1, h2, h3⟩ := live i (HB.live_of_own ho)
    obtain ⟨c2, h1', h2', h3'⟩ := live i' hl'
    obtain ⟨c', j, hc', hj, hb⟩ := hb
    rw [h1] at hc'
    injection hc' with hc'
    subst hc'
    obtain ⟨c', j', hc', hj', hb'⟩ := hb'
    rw [h1'] at hc'
    injection hc' with hc'
    subst hc'
    rw [h3] at ho
    have hjj : j' ≠ j := fun e => inj_spec hi i c (lk_mem h1) ho j hj i' c2 (lk_mem h1') hne (by rw [hj', e])
    exact hm.apart j j' (Ne.symm hjj) (((fact i c h1 h2).2 j hj).2 ho) ((fact i' c2 h1' h2').2 j' hj').1 b hb hb'
  · obtain ⟨c, h1, h2, h3⟩ := live i hl
    obtain ⟨c', j, hc', hj, hb⟩ := hb
    rw [h1] at hc'
    injection hc' with hc'
    subst hc'
    exact hm.foot j ((fact i c h1 h2).2 j hj).1 b hb hB

theorem good_nil {τ : Nat → Value} : Good ρ U [] τ := fun i c h => by cases h
theorem nth_of_mem {l : Env} {c : SV} (h : c ∈ l) : ∃ j, nth .u l j = c := by
  obtain ⟨j, hj, e⟩ := List.getElem_of_mem h
  exact ⟨j, by rw [nth_eq]; simp [hj, e]⟩
theorem nth_memE {l : Env} {t : Nat} (h : t < l.length) : nth .u l t ∈ l := by
  rw [nth_eq]; simp [h]
theorem lk_none_cons {α : Type} {m : List (Nat × α)} {i j : Nat} {c d : α} (h : lk m j = some d) (hn : lk m i = none) : lk ((i, c) :: m) j = some d := by
  rw [lk_cons, if_neg]
  · exact h
  · rintro rfl; rw [hn] at h; cases h
theorem idC_mono {m : Srcs} {c : SC} {i : Nat} {d : SC} (h : lk m i = some d) : lk (idC m c) i = some d := by
  unfold idC
  split <;> first
    | (split
       · exact h
       · rename_i hn; exact lk_none_cons h hn)
    | exact h
theorem idL_mono : ∀ {l : List SC} {m : Srcs} {i : Nat} {d : SC}, lk m i = some d → lk (idL m l) i = some d
  | [], _, _, _, h => h
  | c :: l, _, _, _, h => idL_mono (l := l) (idC_mono h)
theorem idW_mono {m : Srcs} {s : SW} {i : Nat} {d : SC} (h : lk m i = some d) : lk (idW m s) i = some d := by
  cases s with
  | c x => exact idC_mono h
  | g l => exact idL_mono h
theorem idWs_mono : ∀ {l : List SW} {m : Srcs} {i : Nat} {d : SC}, lk m i = some d → lk (idWs m l) i = some d
  | [], _, _, _, h => h
  | c :: l, _, _, _, h => idWs_mono (l := l) (idW_mono h)
theorem idV_mono {m : Srcs} {s : SV} {i : Nat} {d : SC} (h : lk m i = some d) : lk (idV m s) i = some d := by
  cases s with
  | w x => exact idW_mono h
  | t l => exact idWs_mono h
theorem idE_mono : ∀ {l : Env} {m : Srcs} {i : Nat} {d : SC}, lk m i = some d → lk (idE m l) i = some d
  | [], _, _, _, h => h
  | c :: l, _, _, _, h => idE_mono (l := l) (idV_mono h)
def Has (m : Srcs) (i : Nat) : Prop := ∃ c, lk m i = some c
theorem idC_held {m : Srcs} {c : SC} (h : keptC c = true) : c.wf (Has (idC m c)) := by
  have key : ∀ i (d : SC), (match lk m i with | some _ => m | none => (i, d) :: m) = idC m c → Has (idC m c) i := by
    intro i d e
    rw [← e]
    cases hl : lk m i with
    | some c => exact ⟨c, hl⟩
    | none => exact ⟨d, by simp [lk_cons]⟩
  intro x hx
  cases c <;> simp only [SC.ids, keptC] at hx h
  all_goals first
    | exact hx.elim
    | (subst hx; exact key _ _ rfl)
    | cases h
theorem SC.wf.has {m m' : Srcs} {c : SC} (h : c.wf (Has m)) (hm : ∀ i d, lk m i = some d → lk m' i = some d) : c.wf (Has m') := h.mono fun x ⟨d, hd⟩ => ⟨d, hm x d hd⟩
theorem idL_held : ∀ {l : List SC} {m : Srcs}, keptL l = true → ∀ c ∈ l, c.wf (Has (idL m l))
  | [], _, _ => fun c h => by cases h
  | c :: l, m, h => by
    unfold keptL at h
    split at h
    · rename_i hk
      intro x hx
      rcases List.mem_cons.1 hx with rfl | hx
      · show x.wf (Has (idL (idC m x) l))
        exact (idC_held hk).has fun i d hd => idL_mono hd
      · exact idL_held h x hx
    · cases h
theorem idW_held {m : Srcs} {s : SW} (h : keptW s = true) : s.wf (Has (idW m s)) := by
  cases s with
  | c x => exact idC_held h
  | g l => exact idL_held h
theorem idWs_held : ∀ {l : List SW} {m : Srcs}, keptWs l = true → ∀ c ∈ l, c.wf (Has (idWs m l))
  | [], _, _ => fun c h => by cases h
  | c :: l, m, h => by
    unfold keptWs at h
    split at h
    · rename_i hk
      intro x hx
      rcases List.mem_cons.1 hx with rfl | hx
      · show x.wf (Has (idWs (idW m x) l))
        exact (idW_held hk).mono fun i ⟨d, hd⟩ => ⟨d, idWs_mono hd⟩
      · exact idWs_held h x hx
    · cases h
theorem idV_held {m : Srcs} {s : SV} (h : keptV s = true) : s.wf (Has (idV m s)) := by
  cases s with
  | w x => exact idW_held h
  | t l => exact idWs_held h
theorem idE_held : ∀ {l : Env} {m : Srcs}, keptE l = true → ∀ c ∈ l, c.wf (Has (idE m l))
  | [], _, _ => fun c h => by cases h
  | c :: l, m, h => by
    unfold keptE at h
    split at h
    · rename_i hk
      intro x hx
      rcases List.mem_cons.1 hx with rfl | hx
      · show x.wf (Has (idE (idV m x) l))
        exact (idV_held hk).mono fun i ⟨d, hd⟩ => ⟨d, idE_mono hd⟩
      · exact idE_held h x hx
    · cases h
theorem good_idC {m : Srcs} {c : SC} {v : Value} (hg : Good ρ U m ρ) (hd : DenC ρ c v) (hw : c.wf U) : Good ρ U (idC m c) ρ := by
  have key : ∀ i (d : SC), DenC ρ d (ρ i) → d.wf U → Good ρ U (match lk m i with | some _ => m | none => (i, d) :: m) ρ := by
    intro i d h1 h2
    split
    · exact hg
    · intro j e he
      rw [lk_cons] at he
      split at he
      · rename_i hij
        injection he with he
        subst he; subst hij
        exact ⟨h1, h2⟩
      · exact hg j e he
  unfold idC
  split
  · rename_i i off
    obtain ⟨g, h1, h2⟩ := hd
    exact key i _ ⟨g, h1, h1⟩ (fun x hx => hw x hx)
  · rename_i i
    exact key i _ ⟨rfl, by rw [← hd.1]; exact hd.2⟩ (fun x hx => hw x hx)
  · rename_i i lo n sz
    obtain ⟨A, n0, c0, A', c', h1, _⟩ := hd
    exact key i _ ⟨rfl, A, n0, c0, h1⟩ (fun x hx => hw x hx)
  · rename_i i
    exact key i _ ⟨rfl, by rw [← hd.1]; exact hd.2⟩ (fun x hx => hw x hx)
  · exact hg
theorem good_idL : ∀ {l : List SC} {m : Srcs}, Good ρ U m ρ → (∀ c ∈ l, (∃ v, DenC ρ c v) ∧ c.wf U) → Good ρ U (idL m l) ρ
  | [], _, hg, _ => hg
  | c :: l, _, hg, h => by
    obtain ⟨⟨v, hv⟩, hw⟩ := h c (by simp)
    exact good_idL (l := l) (good_idC hg hv hw) fun c hc => h c (by simp [hc])
theorem good_idW {m : Srcs} {s : SW} {v : Value} (hg : Good ρ U m ρ) (hd : DenW ρ s v) (hw : s.wf U) : Good ρ U (idW m s) ρ := by
  cases s with
  | c x => exact good_idC hg hd hw
  | g l =>
    obtain ⟨vs, _, hl⟩ := hd
    refine good_idL hg fun c hc => ⟨?_, hw c hc⟩
    obtain ⟨j, hj⟩ := List.getElem?_of_mem hc
    obtain ⟨v, _, hv⟩ := hl.2 j c hj
    exact ⟨v, hv⟩
theorem good_idWs : ∀ {l : List SW} {m : Srcs}, Good ρ U m ρ → (∀ c ∈ l, (∃ v, DenW ρ c v) ∧ c.wf U) → Good ρ U (idWs m l) ρ
  | [], _, hg, _ => hg
  | c :: l, _, hg, h => by
    obtain ⟨⟨v, hv⟩, hw⟩ := h c (by simp)
    exact good_idWs (l := l) (good_idW hg hv hw) fun c hc => h c (by simp [hc])
theorem good_idV {m : Srcs} {s : SV} {v : Value} (hg : Good ρ U m ρ) (hd : DenV ρ s v) (hw : s.wf U) : Good ρ U (idV m s) ρ := by
  cases s with
  | w x => exact good_idW hg hd hw
  | t l =>
    obtain ⟨vs, _, _, hl⟩ := hd
    refine good_idWs hg fun c hc => ⟨?_, hw c hc⟩
    obtain ⟨j, hj⟩ := List.getElem?_of_mem hc
    obtain ⟨v, _, hv⟩ := hl j c hj
    exact ⟨v, hv⟩
theorem good_idE : ∀ {l : Env} {m : Srcs}, Good ρ U m ρ → (∀ c ∈ l, ∃ v, DenV ρ c v ∧ c.wf U) → Good ρ U (idE m l) ρ
  | [], _, hg, _ => hg
  | c :: l, _, hg, h => by
    obtain ⟨v, hv, hw⟩ := h c (by simp)
    exact good_idE (l := l) (good_idV hg hv hw) fun c hc => h c (by simp [hc])
theorem fit_sound {τs σ : St} {a : Act} {p : Option Prop} {m : Srcs} {F : Fr} (hS : Sim B w0 F σ a w) (h : fit F.x τs σ = some (p, m)) (hp : holdsO p) : Sim B w0 F (cut m τs) a w := by
  obtain ⟨h1, h2, ρ, φ, hm, hd, hF⟩ := hS
  unfold fit at h
  split at h
  · rename_i m1 p1 he
    split at h
    · rename_i m2 q2 d hx
      split at h
      · rename_i r2 hM hi hw hl hkx hwx
        simp only [Option.some.injEq, Prod.mk.injEq] at h
        obtain ⟨rfl, rfl⟩ := h
        obtain ⟨hp1, hp2⟩ := andO_iff.1 hp
        obtain ⟨hq2, hr2⟩ := andO_iff.1 hp2
        obtain ⟨τ1, he1, hg1, hd1⟩ := fitE_sound (f := fun t => a.tmps.getD t undef) (good_idE (m := []) good_nil (fun c hc => by obtain ⟨j, hj⟩ := nth_of_mem hc; have := hF j; rw [hj] at this; exact ⟨_, this⟩)) he hp1 hd
        obtain ⟨τ2, he2, hg2, hf2⟩ := fitX_sound rfl hm hg1 hx hq2
        have hM' := fitM_sound rfl hm hg2 hM hr2
        unfold wfSt at hw
        split at hw
        · rename_i w1 w2 w3
          have hle : τs.H.length ≤ τs.n := by
            have := Nat.le_of_ble_eq_true w3
            rwa [len_eq] at this
          refine ⟨h1, ?_, τ2, _, fit_mem hm ?_ hi w2 hle, fun t => ⟨hd1 m2 τ2 he2 t, wfE_wf w1 t⟩, fun t => ⟨?_, wfE_wf hwx t⟩⟩
          rotate_right
          · refine DenV.anchors (U := fun i => ∃ c, lk (idE [] F.x) i = some c) (hF t).1 ?_ fun i ⟨c, hc⟩ => ((he1.trans he2) i c hc).2
            by_cases ht : t < F.x.length
            · exact idE_held hkx _ (nth_memE ht)
            · rw [nth_out _ _ _ (by omega)]; exact fun _ h => h.elim
          · have := Nat.le_of_ble_eq_true hl
            rw [len_eq, len_eq] at this
            exact Nat.le_trans this h2
          · intro i c hic
            rcases hM' i c (lk_mem hic) with hid | ⟨c', hc', hf⟩
            · obtain ⟨_, j, hj, hf⟩ := hf2 m2 τ2 (.refl _ _) hg2 i hid
              rw [hj] at hic
              injection hic with hic
              subst hic
              rw [Nat.sub_zero] at hf
              exact hf
            · rw [hc'] at hic
              injection hic with hic
              subst hic
              exact hf
        · cases hw
      · cases h
    · cases h
  · cases h
theorem keepH_cover : ∀ {m : Srcs} {H : Heap} {k : Nat}, cover m k H = true → ∀ i, hget (keepH m k H) i = hget H i := by
  intro m H k h i
  rw [hget_keepH]
  induction H generalizing k i with
  | nil =>
    have : hget ([] : Heap) i = .dead := by cases i <;> rfl
    rw [this]
    split <;> rfl
  | cons h0 hs ih =>
    unfold cover at h
    split at h
    · cases h
    · rename_i hno
      cases i with
      | zero =>
        rw [Nat.add_zero]
        cases hl : lk m k with
        | some c => rfl
        | none =>
          cases h0 with
          | dead => rfl
          | cells o t l => exact absurd hl (fun e => hno rfl e)
          | arr k e o xs => exact absurd hl (fun e => hno rfl e)
          | map k f => exact absurd hl (fun e => hno rfl e)
          | hole fk e xs ix c => exact absurd hl (fun e => hno rfl e)
          | pre fk ys c => exact absurd hl (fun e => hno rfl e)
          | room e rows ix c => exact absurd hl (fun e => hno rfl e)
      | succ i =>
        have := ih h i
        have e : k + 1 + i = k + (i + 1) := by omega
        rw [e] at this
        exact this
theorem Sim.heap {F : Fr} {σ : St} {H' : Heap} {a : Act} (h : Sim B w0 F σ a w) (hH : ∀ i, hget H' i = hget σ.H i) : Sim B w0 F ⟨σ.e, H', σ.n⟩ a w := by
  have : hget H' = hget σ.H := funext hH
  obtain ⟨h1, h2, ρ, φ, hm, hd, hF⟩ := h
  exact ⟨h1, h2, ρ, φ, by rw [this]; exact hm, hd, hF⟩
end
end Go.Eng
