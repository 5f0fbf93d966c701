/- The conditions of a function's body: what its walk asks for, as a plain proposition. -/
import Derived.Test.YtadblcopmoiaaaaESound8
set_option linter.unusedVariables false
set_option linter.unusedSimpArgs false
namespace Go.Eng
open Go Go.RowKit

structure St where (e : Env) (H : Heap) (n : Nat)
noncomputable def deads (n : Nat) (x : HB) : Heap := Nat.rec (motive := fun _ => Heap) [x] (fun _ ih => .dead :: ih) n
noncomputable def setAt (l : Heap) (n : Nat) (x : HB) : Heap := List.rec (motive := fun _ => Nat → Heap) (fun n => deads n x) (fun y l ih n => Nat.casesOn (motive := fun _ => Heap) n (x :: l) (fun m => y :: ih m)) l n
theorem setAt_nz (x : HB) : setAt [] 0 x = [x] := rfl
theorem setAt_ns (n : Nat) (x : HB) : setAt [] (n + 1) x = .dead :: setAt [] n x := rfl
theorem setAt_cz (y x : HB) (l : Heap) : setAt (y :: l) 0 x = x :: l := rfl
theorem setAt_cs (y x : HB) (l : Heap) (n : Nat) : setAt (y :: l) (n + 1) x = y :: setAt l n x := rfl
noncomputable def applyL (H : Heap) : List (Nat × HB) → Heap
  | [] => H
  | (i, x) :: l => applyL (setAt H i x) l
noncomputable def lk {α : Type} (l : List (Nat × α)) (t : Nat) : Option α := List.rec (motive := fun _ => Option α) none (fun x _ ih => Bool.rec (motive := fun _ => Option α) ih (some x.2) (Nat.beq x.1 t)) l
theorem lk_nil {α : Type} (t : Nat) : lk ([] : List (Nat × α)) t = none := rfl
theorem lk_cons' {α : Type} (x : Nat × α) (l : List (Nat × α)) (t : Nat) : lk (x :: l) t = if x.1 = t then some x.2 else lk l t := by
  show Bool.rec (motive := fun _ => Option α) (lk l t) (some x.2) (Nat.beq x.1 t) = _
  by_cases h : x.1 = t
  · rw [if_pos h, h, Nat.beq_refl]
  · rw [if_neg h]
    cases hb : Nat.beq x.1 t with
    | false => rfl
    | true => exact absurd (Nat.eq_of_beq_eq_true hb) h
def andO : Option Prop → Option Prop → Option Prop
  | none, q => q
  | p, none => p
  | some p, some q => some (p ∧ q)
def conj : Option Prop → Prop → Prop
  | none, q => q
  | some p, q => p ∧ q
def imp : Option Prop → Prop → Prop
  | none, q => q
  | some p, q => p → q
def conjL : List Prop → Prop → Prop
  | [], q => q
  | p :: l, q => p ∧ conjL l q

/-- What the evaluation does not cover: false. -/
inductive Bad (why : Nat) (α : Type) (x : α) : Prop

/-! ### Values that pass between functions -/
inductive AC where
  | i (n : Int)
  | b (x : Bool)
  | a (k : K) (xs : List k.T)
  | o (fk : FK) (e : Nat) (xs : List fk.T)
  | fn (f : Nat)
  | np
inductive AV where
  | c (x : AC)
  | r (l : List AC)
  | p (own : Bool) (ty : Nat) (l : List AC)
/-- Kinds of cells, of structs. -/
inductive CK where
  | i | b | a (k : K) | fn
@[reducible] def CK.T : CK → Type
  | .i => Int | .b => Bool | .a k => List k.T | .fn => Nat
def CK.enc : (k : CK) → k.T → AC
  | .i, n => .i n | .b, x => .b x | .a k, xs => .a k xs | .fn, f => .fn f
structure MapD where (n : Int) (l : List Int)
structure WorldD where (n : Int) (times : List Int) (drivers : List Driver) (orders : List Order) (plan : List Route)
inductive SK where
  | f (k : FK) | route | world | map
@[reducible] def SK.T : SK → Type
  | .f k => FK.T k | .route => Route | .world => WorldD | .map => MapD
def SK.cks : SK → List CK
  | .f .int => [.i] | .f .bool => [.b] | .f .win => [.i, .i] | .f .order => [.i, .i, .i, .i, .i, .i, .i, .i, .i, .i] | .f .driver => [.i, .i, .i, .i, .i, .b] | .f .stop => [.i, .b]
  | .f .visit => [.i, .b, .i, .i, .i, .i] | .f .trouble => [.i, .i, .i] | .f .leg => [.i, .i, .i, .i, .i] | .f .state => [.i, .i, .i, .i] | .f .site => [.i, .i, .i, .i]
  | .f .fault => [.i, .i] | .f .spot => [.i, .i, .i, .i]
  | .route => [.i, .i, .a (.f .stop)]
  | .world => [.i, .a (.f .int), .a (.f .driver), .a (.f .order), .a .route]
  | .map => [.i, .a (.f .int)]
def encCV : List CV → List AC
  | [] => []
  | .i n :: l => .i n :: encCV l
  | .b x :: l => .b x :: encCV l
  | .sl k xs :: l => .a (.f k) xs :: encCV l
def SK.enc : (k : SK) → k.T → List AC
  | .f k, x => encCV (k.enc x)
  | .route, x => [.i x.driver, .i x.served, .a (.f .stop) x.stops]
  | .world, x => [.i x.n, .a (.f .int) x.times, .a (.f .driver) x.drivers, .a (.f .order) x.orders, .a .route x.plan]
  | .map, x => [.i x.n, .a (.f .int) x.l]
def SK.dec : (k : SK) → List AC → Option k.T
  | .f .int, [.i n] => some n
  | .f .bool, [.b n] => some n
  | .f .win, [.i xa, .i xb] => some ⟨xa, xb⟩
  | .f .order, [.i xa, .i xb, .i xc, .i xd, .i xe, .i xf, .i xg, .i xh, .i xi, .i xj] => some ⟨xa, xb, xc, xd, xe, xf, xg, xh, xi, xj⟩
  | .f .driver, [.i xa, .i xb, .i xc, .i xd, .i xe, .b xf] => some ⟨xa, xb, xc, xd, xe, xf⟩
  | .f .stop, [.i xa, .b xb] => some ⟨xa, xb⟩
  | .f .visit, [.i xa, .b xb, .i xc, .i xd, .i xe, .i xf] => some ⟨xa, xb, xc, xd, xe, xf⟩
  | .f .trouble, [.i xa, .i xb, .i xc] => some ⟨xa, xb, xc⟩
  | .f .leg, [.i xa, .i xb, .i xc, .i xd, .i xe] => some ⟨xa, xb, xc, xd, xe⟩
  | .f .state, [.i xa, .i xb, .i xc, .i xd] => some ⟨xa, xb, xc, xd⟩
  | .f .site, [.i xa, .i xb, .i xc, .i xd] => some ⟨xa, xb, xc, xd⟩
  | .f .fault, [.i xa, .i xb] => some ⟨xa, xb⟩
  | .f .spot, [.i xa, .i xb, .i xc, .i xd] => some ⟨xa, xb, xc, xd⟩
  | .route, [.i xa, .i xb, .a (.f .stop) xc] => some ⟨xa, xb, xc⟩
  | .world, [.i xa, .a (.f .int) xb, .a (.f .driver) xc, .a (.f .order) xd, .a .route xe] => some ⟨xa, xb, xc, xd, xe⟩
  | .map, [.i xa, .a (.f .int) xb] => some ⟨xa, xb⟩
  | _, _ => none
theorem SK.enc_dec {k : SK} {l : List AC} {x : k.T} (h : k.dec l = some x) : k.enc x = l := by
  unfold SK.dec at h
  split at h <;> first
    | (injection h with h; subst h; rfl)
    | cases h
/-- Kinds of parameters. -/
inductive PK where
  | c (k : CK)
  | r (s : SK)
  | p (s : SK) (ty : Nat)
  | q (s : SK) (ty : Nat)
@[reducible] def PK.T : PK → Type
  | .c k => CK.T k | .r s => SK.T s | .p s _ => SK.T s | .q s _ => Option (SK.T s)
def PK.enc : (k : PK) → k.T → AV
  | .c k, x => .c (k.enc x)
  | .r s, x => .r (s.enc x)
  | .p s ty, x => .p false ty (s.enc x)
  | .q s ty, x => match x with | none => .c .np | some x => .p false ty (s.enc x)
/-- No list is longer. -/
structure LenOk (n : Nat) : Prop where
  le : n ≤ 9223372036854775807
def K.ok : (k : K) → List k.T → Prop
  | .f _, xs => LenOk xs.length
  | .route, xs => LenOk xs.length ∧ ∀ r ∈ xs, LenOk (r : Route).stops.length
  | .rows _, xs => LenOk xs.length ∧ ∀ r ∈ xs, LenOk r.length
def CK.ok : (k : CK) → k.T → Option Prop
  | .a k, xs => some (k.ok xs)
  | _, _ => none
def SK.ok : (k : SK) → k.T → Option Prop
  | .f _, _ => none
  | .route, x => some (LenOk x.stops.length)
  | .world, x => some (LenOk x.times.length ∧ LenOk x.drivers.length ∧ LenOk x.orders.length ∧ K.ok .route x.plan)
  | .map, x => some (LenOk x.l.length)
def PK.ok : (k : PK) → k.T → Option Prop
  | .c k, x => k.ok x
  | .r s, x => s.ok x
  | .p s _, x => s.ok x
  | .q s _, x => match x with | none => none | some x => s.ok x
def Fun : List PK → Type → Type
  | [], R => R
  | p :: l, R => p.T → Fun l R
/-- A value as symbolic cells: names from n on. -/
def AC.conc (n : Nat) : AC → SC × List HB
  | .i x => (.i x, [])
  | .b x => (.b x, [])
  | .a k xs => (.fs n, [.arr k 0 false xs])
  | .o fk e xs => (.fs n, [.arr (.f fk) e true xs])
  | .fn f => (.fn f, [])
  | .np => (.nlp, [])
noncomputable def concL : List AC → Nat → List SC × List HB
  | [], _ => ([], [])
  | x :: l, n => match x.conc n with
    | (c, h) => match concL l (n + len h) with
      | (cs, hs) => (c :: cs, app h hs)
noncomputable def AV.conc (n : Nat) : AV → SW × List HB
  | .c x => match x.conc n with | (c', h) => (.c c', h)
  | .r l => match concL l n with | (cs, h) => (.g cs, h)
  | .p own ty l => match concL l (n + 1) with | (cs, h) => (.c (.p n 0), .cells own ty cs :: h)
noncomputable def concV : List AV → Nat → List SW × List HB
  | [], _ => ([], [])
  | x :: l, n => match x.conc n with
    | (c, h) => match concV l (n + len h) with
      | (cs, hs) => (c :: cs, app h hs)
/-- What a call comes to. -/
structure Alt where (h : Option Prop) (r : List AV)
structure Res where (pre : Option Prop) (alts : List Alt)
structure Con where (ps : List PK) (run : Fun ps Res)
abbrev Cons := List (Nat × Con)
/-- All values of a parameter; of a pointer that may be nil: nil, and every other. -/
def overP : (p : PK) → (p.T → Prop) → Prop
  | .c k, f => ∀ x : CK.T k, f x
  | .r s, f => ∀ x : SK.T s, f x
  | .p s _, f => ∀ x : SK.T s, f x
  | .q s _, f => f none ∧ ∀ x : SK.T s, f (some x)
/-- All arguments: each one's symbolic state. -/
def allArgs {R : Type} : (ps : List PK) → Env → Heap → Fun ps R → (Env → Heap → R → Prop) → Prop
  | [], e, H, r, k => k e H r
  | p :: ps, e, H, f, k => overP p fun x => imp (p.ok x) (match (p.enc x).conc (len H) with
    | (s, h) => allArgs ps (app e [.w s]) (app H h) (f x) k)
/-- A cell of the caller's as an argument's. -/
noncomputable def absC (H : Heap) : CK → SC → Option (AC × Option Prop)
  | .i, .i n => some (.i n, none)
  | .b, .b x => some (.b x, none)
  | .b, .l x => some (.b x, none)
  | .fn, .fn f => some (.fn f, none)
  | .a k, .nls => some (.a k [], none)
  | .a k, .fs id => match hget H id with
    | .arr k' _ _ xs => match K.same k' k with
      | some ⟨h⟩ => some (.a k (h ▸ xs), none)
      | none => none
    | _ => none
  | .a k, .s id lo n sz => match hget H id with
    | .arr k' _ _ xs => match K.same k' k with
      | some ⟨h⟩ => if sz = k.size then some (.a k (part (h ▸ xs) lo n), some (lo + n ≤ (h ▸ xs : List k.T).length)) else none
      | none => none
    | _ => none
  | _, _ => none
noncomputable def absL (H : Heap) : List CK → List SC → Option (List AC × Option Prop)
  | [], [] => some ([], none)
  | k :: ks, c :: cs => match absC H k c, absL H ks cs with
    | some (x, p), some (xs, q) => some (x :: xs, andO p q)
    | _, _ => none
  | _, _ => none
def AC.ofCK : (k : CK) → AC → Option k.T
  | .i, .i n => some n
  | .b, .b x => some x
  | .fn, .fn f => some f
  | .a k, .a k' xs => match K.same k' k with | some ⟨h⟩ => some (h ▸ xs) | none => none
  | _, _ => none
noncomputable def absP (H : Heap) : (k : PK) → SV → Option (k.T × Option Prop)
  | .c k, .w (.c x) => match absC H k x with
    | some (y, p) => match AC.ofCK k y with
      | some z => some (z, p)
      | none => none
    | none => none
  | .r s, .w (.g l) => match absL H s.cks l with
    | some (ys, p) => match s.dec ys with
      | some z => some (z, p)
      | none => none
    | none => none
  | .p s ty, .w (.c (.p id 0)) => match hget H id with
    | .cells _ ty' l => if ty = ty' then (match absL H s.cks l with
      | some (ys, p) => match s.dec ys with
        | some z => some (z, p)
        | none => none
      | none => none) else none
    | _ => none
  | .q s ty, .w (.c .nlp) => some (none, none)
  | .q s ty, .w (.c (.p id 0)) => match hget H id with
    | .cells _ ty' l => if ty = ty' then (match absL H s.cks l with
      | some (ys, p) => match s.dec ys with
        | some z => some (some z, p)
        | none => none
      | none => none) else none
    | _ => none
  | _, _ => none
noncomputable def runArgs {R : Type} (H : Heap) : (ps : List PK) → List SV → Fun ps R → Option (R × Option Prop)
  | [], [], r => some (r, none)
  | p :: ps, s :: ss, f => match absP H p s with
    | some (x, c) => match runArgs H ps ss (f x) with
      | some (r, c') => some (r, andO c c')
      | none => none
    | none => none
  | _, _, _ => none

/-! ### Fitting a state to a form -/
abbrev Srcs := List (Nat × SC)
def sameSrc : SC → SC → Bool
  | .fs a, .fs b => a == b
  | .p a 0, .p b 0 => a == b
  | .nls, .nls => true
  | _, _ => false
noncomputable def addM (m : Srcs) (i : Nat) (c : SC) : Option Srcs := match lk m i with
  | none => some ((i, c) :: m)
  | some c' => match sameSrc c c' with | true => some m | false => none
noncomputable def fitC (m : Srcs) : SC → SC → Option (Srcs × Option Prop)
  | .u, _ => some (m, none)
  | .i x, .i y => some (m, some (y = x))
  | .b x, .b y => some (m, some (y = x))
  | .b x, .l y => some (m, some (y = x))
  | .l x, .b y => some (m, some (y = x))
  | .l x, .l y => match x == y with | true => some (m, none) | false => none
  | .nls, .nls => some (m, none)
  | .nlp, .nlp => some (m, none)
  | .fn f, .fn g => if f = g then some (m, none) else none
  | .p i o, .p j o' => if o = o' then (match addM m i (.p j 0) with | some m' => some (m', none) | none => none) else none
  | .fs i, .fs j => match addM m i (.fs j) with | some m' => some (m', none) | none => none
  | .fs i, .nls => match addM m i .nls with | some m' => some (m', none) | none => none
  | .fs i, .s j lo n sz => match lk m i with | none => some ((i, .s j lo n sz) :: m, none) | some _ => none
  | .s i lo n sz, .s j lo' n' sz' => if sz = sz' then (match addM m i (.fs j) with | some m' => some (m', some (lo' = lo ∧ n' = n)) | none => none) else none
  | _, _ => none
noncomputable def fitL (m : Srcs) : List SC → List SC → Option (Srcs × Option Prop)
  | [], [] => some (m, none)
  | t :: ts, c :: cs => match fitC m t c with
    | some (m', p) => match fitL m' ts cs with
      | some (m'', q) => some (m'', andO p q)
      | none => none
    | none => none
  | _, _ => none
noncomputable def fitW (m : Srcs) : SW → SW → Option (Srcs × Option Prop)
  | .c t, .c c => fitC m t c
  | .g t, .g c => fitL m t c
  | _, _ => none
noncomputable def fitWs (m : Srcs) : List SW → List SW → Option (Srcs × Option Prop)
  | [], [] => some (m, none)
  | t :: ts, c :: cs => match fitW m t c with
    | some (m', p) => match fitWs m' ts cs with
      | some (m'', q) => some (m'', andO p q)
      | none => none
    | none => none
  | _, _ => none
def SV.isU : SV → Bool
  | .w (.c .u) => true
  | _ => false
noncomputable def fitV (m : Srcs) : SV → SV → Option (Srcs × Option Prop)
  | .w (.c .u), _ => some (m, none)
  | .w t, .w c => fitW m t c
  | .t t, .t c => fitWs m t c
  | _, _ => none
def tlE : Env → Env
  | [] => []
  | _ :: l => l
noncomputable def fitE (m : Srcs) : Env → Env → Option (Srcs × Option Prop)
  | [], _ => some (m, none)
  | t :: ts, cs => match fitV m t (nth .u cs 0) with
    | some (m', p) => match fitE m' ts (tlE cs) with
      | some (m'', q) => some (m'', andO p q)
      | none => none
    | none => none
/-- The variables' cells, in the names' order. -/
noncomputable def fitX (H : Heap) (m : Srcs) : Nat → Heap → Option (Srcs × Option Prop × List Nat)
  | _, [] => some (m, none, [])
  | i, .cells own ty l :: hs => match lk m i with
    | some (.p j 0) => match hget H j with
      | .cells own' ty' l' => if ty = ty' then (match own == own' with
        | true => match fitL m l l' with
          | some (m', p) => match fitX H m' (i + 1) hs with
            | some (m'', q, d) => some (m'', andO p q, i :: d)
            | none => none
          | none => none
        | false => none) else none
      | _ => none
    | some _ => none
    | none => fitX H m (i + 1) hs
  | i, _ :: hs => fitX H m (i + 1) hs
noncomputable def fitA (H : Heap) (t : HB) (src : SC) : Option (Option Prop) := match t, src with
  | .arr k e own xs, .nls => some (some (xs = []))
  | .arr k e own xs, .fs j => match hget H j with
    | .arr k' e' own' ys => match K.same k' k with
      | some ⟨h⟩ => match own, own' with
        | false, false => some (some ((h ▸ ys : List k.T) = xs))
        | true, true => if e = e' then some (some ((h ▸ ys : List k.T) = xs)) else none
        | _, _ => none
      | none => none
    | _ => none
  | .dead, _ => some none
  | _, _ => none
/-- All that is reached: arrays fit, variables were fitted. -/
noncomputable def fitM (HT H : Heap) (d : List Nat) (all : Srcs) : Srcs → Option (Option Prop)
  | [] => some none
  | (i, _) :: m => match (match hget HT i with
    | .cells _ _ _ => if d.contains i then some none else none
    | t => match lk all i with
      | some c => fitA H t c
      | none => none), fitM HT H d all m with
    | some p, some q => some (andO p q)
    | _, _ => none
def srcId : SC → Option Nat
  | .fs j => some j
  | .p j _ => some j
  | .s j _ _ _ => some j
  | _ => none
def clash (i : Nat) (j : Option Nat) : Srcs → Bool
  | [] => false
  | (i', c') :: m => match i == i' with
    | true => clash i j m
    | false => match j, srcId c' with
      | some a, some b => match a == b with | true => true | false => clash i j m
      | _, _ => clash i j m
noncomputable def inj (HT : Heap) (all : Srcs) : Srcs → Bool
  | [] => true
  | (i, c) :: m => match (hget HT i).own with
    | true => match clash i (srcId c) all with | true => false | false => inj HT all m
    | false => inj HT all m
def wfC (n : Nat) : SC → Bool
  | .p i _ | .el i _ _ _ | .fs i | .s i _ _ _ => Nat.blt i n
  | _ => true
def wfL (n : Nat) : List SC → Bool
  | [] => true
  | c :: l => match wfC n c with | true => wfL n l | false => false
def wfW (n : Nat) : SW → Bool
  | .c x => wfC n x
  | .g l => wfL n l
def wfWs (n : Nat) : List SW → Bool
  | [] => true
  | c :: l => match wfW n c with | true => wfWs n l | false => false
def wfV (n : Nat) : SV → Bool
  | .w x => wfW n x
  | .t l => wfWs n l
def wfE (n : Nat) : Env → Bool
  | [] => true
  | c :: l => match wfV n c with | true => wfE n l | false => false
def wfH (n : Nat) : Heap → Bool
  | [] => true
  | .cells _ _ l :: hs => match wfL n l with | true => wfH n hs | false => false
  | _ :: hs => wfH n hs
noncomputable def wfSt (σ : St) : Bool := match wfE σ.n σ.e, wfH σ.n σ.H, Nat.ble (len σ.H) σ.n with
  | true, true, true => true
  | _, _, _ => false
/-- The frames that wait keep their names. -/
noncomputable def idC (m : Srcs) : SC → Srcs
  | .p i _ => match lk m i with | some _ => m | none => (i, .p i 0) :: m
  | .fs i | .s i _ _ _ => match lk m i with | some _ => m | none => (i, .fs i) :: m
  | _ => m
noncomputable def idL (m : Srcs) : List SC → Srcs
  | [] => m
  | c :: l => idL (idC m c) l
noncomputable def idW (m : Srcs) : SW → Srcs
  | .c x => idC m x
  | .g l => idL m l
noncomputable def idWs (m : Srcs) : List SW → Srcs
  | [] => m
  | c :: l => idWs (idW m c) l
noncomputable def idV (m : Srcs) : SV → Srcs
  | .w x => idW m x
  | .t l => idWs m l
noncomputable def idE (m : Srcs) : Env → Srcs
  | [] => m
  | c :: l => idE (idV m c) l
/-- Names that a form does not speak of: places in elements. -/
def keptC : SC → Bool
  | .el _ _ _ _ => false
  | _ => true
def keptL : List SC → Bool
  | [] => true
  | c :: l => match keptC c with | true => keptL l | false => false
def keptW : SW → Bool
  | .c x => keptC x
  | .g l => keptL l
def keptWs : List SW → Bool
  | [] => true
  | c :: l => match keptW c with | true => keptWs l | false => false
def keptV : SV → Bool
  | .w x => keptW x
  | .t l => keptWs l
def maskX : Env → Env
  | [] => []
  | c :: l => (match keptV c with | true => c | false => .u) :: maskX l
def keptE : Env → Bool
  | [] => true
  | c :: l => match keptV c with | true => keptE l | false => false
/-- The form's memory, as far as it is reached. -/
noncomputable def keepH (m : Srcs) : Nat → Heap → Heap
  | _, [] => []
  | i, h :: hs => (match lk m i with | some _ => h | none => .dead) :: keepH m (i + 1) hs
/-- A state fits a form: what it asks, and the form's part that is reached. -/
noncomputable def fit (x : Env) (τ σ : St) : Option (Option Prop × Srcs) := match fitE (idE [] x) τ.e σ.e with
  | some (m, p) => match fitX σ.H m 0 τ.H with
    | some (m', q, d) => match fitM τ.H σ.H d m' m', inj τ.H m' m', wfSt τ, Nat.ble (len τ.e) (len σ.e), keptE x, wfE τ.n x with
      | some r, true, true, true, true, true => some (andO p (andO q r), m')
      | _, _, _, _, _, _ => none
    | none => none
  | none => none

/-! ### Loops -/
inductive VS where
  | i (s : Nat) | b (s : Nat) | r (s : Nat) (k : FK) | app (s : Nat) (k : FK) (e : Nat) | arr (s : Nat) (k : FK)
  | ci (s off : Nat) | cb (s off : Nat) | capp (s off : Nat) (k : FK) (e : Nat) | car (s off : Nat) (k : FK)
@[reducible] def VS.T : VS → Type
  | .i _ => Int | .b _ => Bool | .r _ k => k.T | .app _ k _ => List k.T | .arr _ k => List k.T
  | .ci _ _ => Int | .cb _ _ => Bool | .capp _ _ k _ => List k.T | .car _ _ k => List k.T
def Over (R : Type) : List VS → Type
  | [] => R
  | v :: l => v.T → Over R l
structure LA where (keep : List Nat) (vars : List VS)
noncomputable def fcells (k : FK) (x : k.T) : List SC := (concL (encCV (k.enc x)) 0).1
noncomputable def inCell (σ : St) (s : Nat) (f : List SC → List SC) : St := match nth .u σ.e s with
  | .w (.c (.p id 0)) => match hget σ.H id with
    | .cells o ty l => ⟨σ.e, setAt σ.H id (.cells o ty (f l)), σ.n⟩
    | _ => σ
  | _ => σ
noncomputable def inArr (σ : St) (c : SC) (k : FK) (xs : List k.T) : St := match c with
  | .fs id => match hget σ.H id with
    | .arr _ e own _ => ⟨σ.e, setAt σ.H id (.arr (.f k) e own xs), σ.n⟩
    | _ => σ
  | _ => σ
noncomputable def atCell (σ : St) (s off : Nat) : SC := match nth .u σ.e s with
  | .w (.c (.p id 0)) => match hget σ.H id with
    | .cells _ _ l => nth .u l off
    | _ => .u
  | _ => .u
noncomputable def hav (σ : St) : (v : VS) → v.T → St
  | .i s, x => ⟨put (.w (.c (.i x))) σ.e s, σ.H, σ.n⟩
  | .b s, x => ⟨put (.w (.c (.b x))) σ.e s, σ.H, σ.n⟩
  | .r s k, x => ⟨put (.w (.g (fcells k x))) σ.e s, σ.H, σ.n⟩
  | .app s k e, xs => ⟨put (.w (.c (.fs σ.n))) σ.e s, setAt σ.H σ.n (.arr (.f k) e true xs), σ.n + 1⟩
  | .arr s k, xs => inArr σ (match nth .u σ.e s with | .w (.c c) => c | _ => .u) k xs
  | .ci s off, x => inCell σ s (fun l => put (.i x) l off)
  | .cb s off, x => inCell σ s (fun l => put (.b x) l off)
  | .capp s off k e, xs => match inCell σ s (fun l => put (.fs σ.n) l off) with
    | σ' => ⟨σ'.e, setAt σ'.H σ'.n (.arr (.f k) e true xs), σ'.n + 1⟩
  | .car s off k, xs => inArr σ (atCell σ s off) k xs
noncomputable def getArr (σ : St) (c : SC) (k : FK) : Option (List k.T) := match c with
  | .nls => some []
  | .fs id => match hget σ.H id with
    | .arr (.f k') _ _ xs => match FK.same k' k with | some ⟨h⟩ => some (h ▸ xs) | none => none
    | _ => none
  | _ => none
def getI : SC → Option Int
  | .i x => some x
  | _ => none
def getB : SC → Option Bool
  | .b x => some x
  | .l x => some x
  | _ => none
noncomputable def slot (σ : St) (s : Nat) : SC := match nth .u σ.e s with | .w (.c c) => c | _ => .u
noncomputable def ext (σ : St) : (v : VS) → Option v.T
  | .i s => getI (slot σ s)
  | .b s => getB (slot σ s)
  | .r s k => match nth .u σ.e s with
    | .w (.g l) => match cvsOf l with | some cs => k.dec cs | none => none
    | _ => none
  | .app s k _ => getArr σ (slot σ s) k
  | .arr s k => getArr σ (slot σ s) k
  | .ci s off => getI (atCell σ s off)
  | .cb s off => getB (atCell σ s off)
  | .capp s off k _ => getArr σ (atCell σ s off) k
  | .car s off k => getArr σ (atCell σ s off) k
/-- All values of a loop's variables: the state at the loop's head. -/
def allV {R : Type} (τ : St) : (vs : List VS) → Over R vs → (St → R → Prop) → Prop
  | [], r, k => k τ r
  | v :: vs, f, k => ∀ x : v.T, allV (hav τ v x) vs (f x) k
/-- The values that a state has. -/
def oneV {R : Type} (τ σ : St) : (vs : List VS) → Over R vs → (St → R → Prop) → Prop
  | [], r, k => k τ r
  | v :: vs, f, k => match ext σ v with
    | some x => oneV (hav τ v x) σ vs (f x) k
    | none => Bad 20 Nat 0
def keepE (ks : List Nat) : Nat → Env → Env
  | _, [] => []
  | i, x :: l => (if ks.contains i then x else .u) :: keepE ks (i + 1) l
def varSlots : List VS → List Nat
  | [] => []
  | .i s :: l | .b s :: l | .r s _ :: l | .app s _ _ :: l | .arr s _ :: l | .ci s _ :: l | .cb s _ :: l | .capp s _ _ _ :: l | .car s _ _ :: l => s :: varSlots l
def pair {R S : Type} : (vs : List VS) → Over R vs → Over S vs → Over (R × S) vs
  | [], a, b => (a, b)
  | _ :: vs, f, g => fun x => pair vs (f x) (g x)
def okFit (o : Option (Option Prop × Srcs)) (k : Srcs → Prop) : Prop := match o with
  | some (p, m) => conj p (k m)
  | none => Bad 1 Nat 0
noncomputable def cut (m : Srcs) (τ : St) : St := ⟨τ.e, keepH m 0 τ.H, τ.n⟩
noncomputable def cover (m : Srcs) : Nat → Heap → Bool
  | _, [] => true
  | i, h :: hs => match h.live, lk m i with
    | true, none => false
    | _, _ => cover m (i + 1) hs
def loopVC (fx : Env) (la : LA) (σ : St) (body : (St → Prop) → St → Prop) : Prop :=
  match St.mk (keepE (app (varSlots la.vars) la.keep) 0 σ.e) σ.H σ.n with
  | τ => ∃ (inv : Over Prop la.vars) (μ : Over Nat la.vars),
    oneV τ σ la.vars inv (fun τ' p => okFit (fit fx τ' σ) fun _ => p) ∧
    oneV τ σ la.vars inv (fun τ' _ => match fit fx τ' σ with
      | some (_, m) => allV τ la.vars (pair la.vars inv μ) (fun τ' r => r.1 → body (fun σ' =>
          oneV τ σ' la.vars (pair la.vars inv μ) (fun τ'' r' => okFit (fit fx (cut m τ'') σ') fun m' => match cover m' 0 (keepH m 0 τ''.H) with | true => r'.1 ∧ r'.2 < r.2 | false => Bad 2 Nat 0)) (cut m τ'))
      | none => Bad 3 St τ')
/-- Paths that meet: what they have in common, for what follows. -/
def joinVC (fx : Env) (la : LA) (σ : St) (one : (St → Prop) → St → Prop) (two : St → Prop) : Prop :=
  match St.mk (keepE (app (varSlots la.vars) la.keep) 0 σ.e) σ.H σ.n with
  | τ => ∃ inv : Over Prop la.vars,
    oneV τ σ la.vars inv (fun τ' _ => match fit fx τ' σ with
      | some (_, m) => one (fun σ' => oneV τ σ' la.vars inv (fun τ'' r => okFit (fit fx (cut m τ'') σ') fun m' => match cover m' 0 (keepH m 0 τ''.H) with | true => r | false => Bad 2 Nat 0)) σ ∧
          allV τ la.vars inv (fun τ'' r => r → two (cut m τ''))
      | none => Bad 3 St τ')

/-! ### Results -/
def pad : Nat → Env
  | 0 => []
  | n + 1 => .u :: pad n
noncomputable def loadW (T : Tab) (t id off : Nat) (H : Heap) : Option SW := match hget H id, look T t with
  | .cells _ _ l, some (.sc _ _) => if off < len l then some (.c (nth .u l off)) else none
  | .cells _ _ l, some (.st m _ _ _) => if off + m ≤ len l then some (.g (tk m (dr off l))) else none
  | _, _ => none
noncomputable def resWs (T : Tab) (σ : St) : List ResultVar → Option (List SW)
  | [] => some []
  | .tmp t :: l => match nth .u σ.e t, resWs T σ l with
    | .w x, some r => some (x :: r)
    | _, _ => none
  | .cell a t :: l => match nth .u σ.e a with
    | .w (.c (.p id off)) => match loadW T t id off σ.H, resWs T σ l with
      | some x, some r => some (x :: r)
      | _, _ => none
    | _ => none
/-! ### Operations in their order -/
structure Got where (pre : Option Prop) (alts : List (Option Prop × Out))
def resSV : List SW → SV
  | [x] => .w x
  | l => .t l
def shC (n : Nat) : SC → SC
  | .p i o => .p (n + i) o
  | .el i a b c => .el (n + i) a b c
  | .fs i => .fs (n + i)
  | .s i a b c => .s (n + i) a b c
  | c => c
def numb (n : Nat) : List HB → List (Nat × HB)
  | [] => []
  | h :: l => (n, h) :: numb (n + 1) l
def ownH : List HB → Bool
  | [] => true
  | h :: l => match h.own with | true => ownH l | false => false
noncomputable def gotAlts (n : Nat) : List Alt → Option (List (Option Prop × Out))
  | [] => some []
  | a :: l => match concV a.r n, gotAlts n l with
    | (ws, hs), some r => match ownH hs with
      | true => some ((a.h, ⟨resSV ws, numb n hs, n + len hs, none⟩) :: r)
      | false => none
    | _, none => none
noncomputable def evs (e : Env) : List Operand → List SV
  | [] => []
  | x :: l => ev e x :: evs e l
noncomputable def stepG (T : Tab) (e : Env) (H : Heap) (n : Nat) (op : Op) : Option Got := match step T e H n op with
  | some o => match Nat.ble n o.n with
    | true => some ⟨o.c, [(none, o)]⟩
    | false => none
  | none => none
noncomputable def stepC (T : Tab) (C : Cons) (e : Env) (H : Heap) (n : Nat) (op : Op) : Option Got := match op with
  | .call c => match c.callee with
    | .value f => match ev e f with
      | .w (.c (.fn g)) => match lk C g with
        | some con => match runArgs H con.ps (evs e c.args.toList) con.run with
          | some (r, p) => match gotAlts n r.alts with
            | some l => some ⟨andO p r.pre, l⟩
            | none => none
          | none => none
        | none => none
      | _ => none
    | _ => stepG T e H n op
  | _ => stepG T e H n op
noncomputable def putD (d : Option Tmp) (v : SV) (e : Env) : Env := match d with
  | some t => put v e t
  | none => e
noncomputable def St.upd (σ : St) (d : Option Tmp) (o : Out) : St := ⟨putD d o.v σ.e, applyL σ.H o.d, o.n⟩
def allAlts (σ : St) (d : Option Tmp) (k : St → Prop) : List (Option Prop × Out) → Prop
  | [] => True
  | [(h, o)] => imp h (k (σ.upd d o))
  | (h, o) :: l => imp h (k (σ.upd d o)) ∧ allAlts σ d k l
/-- Functions whose code is walked where they are called. -/
abbrev Inl := Nat → Option (Env → List SV → St → (SV → St → Prop) → Prop)
noncomputable def callee (e : Env) (op : Op) : Option (Nat × List SV) := match op with
  | .call c => match c.callee with
    | .value f => match ev e f with
      | .w (.c (.fn g)) => some (g, evs e c.args.toList)
      | _ => none
    | _ => none
  | _ => none
def runC (T : Tab) (C : Cons) (σ : St) (o : Oper) (k : St → Prop) : Prop := match stepC T C σ.e σ.H σ.n o.op with
  | some g => conj g.pre (allAlts σ o.dst k g.alts)
  | none => Bad 4 Oper o
def runOp (T : Tab) (C : Cons) (I : Inl) (fx : Env) (σ : St) (o : Oper) (k : St → Prop) : Prop := match callee σ.e o.op with
  | some (g, args) => match I g with
    | some r => r fx args σ fun v σ' => k ⟨putD o.dst v σ'.e, σ'.H, σ'.n⟩
    | none => runC T C σ o k
  | none => runC T C σ o k
def opDst (ops : List Oper) (g : Nat) : Option Tmp := match ops, g with
  | [], _ => none
  | o :: _, 0 => o.dst
  | _ :: l, n + 1 => opDst l n
def vcSeq (T : Tab) (C : Cons) (I : Inl) (fx : Env) (all : List Oper) : List Oper → St → (St → Prop) → Prop
  | [], σ, k => k σ
  | o :: r, σ, k => match o.guard with
    | none => runOp T C I fx σ o fun σ => vcSeq T C I fx all r σ k
    | some (g, want) => match opDst all g with
      | none => Bad 5 Oper o
      | some s => match nth .u σ.e s with
        | .w (.c (.l x)) => match x == want with
          | true => runOp T C I fx σ o fun σ => vcSeq T C I fx all r σ k
          | false => vcSeq T C I fx all r ⟨putD o.dst (.t []) σ.e, σ.H, σ.n⟩ k
        | .t [] => vcSeq T C I fx all r ⟨putD o.dst (.t []) σ.e, σ.H, σ.n⟩ k
        | .w (.c (.b x)) => (x = want → runOp T C I fx ⟨put (.w (.c (.l want))) σ.e s, σ.H, σ.n⟩ o fun σ => vcSeq T C I fx all r σ k) ∧
            (x = !want → vcSeq T C I fx all r ⟨putD o.dst (.t []) (put (.w (.c (.l (!want)))) σ.e s), σ.H, σ.n⟩ k)
        | _ => Bad 6 Oper o

/-! ### Operations in any order -/
def bit (m i : Nat) : Bool := !(Nat.beq (Nat.land 1 (Nat.shiftRight m i)) 0)
noncomputable def ancOf (acc : List Nat) : List Edge → Nat
  | [] => 0
  | e :: l => match Region.binds .any e with
    | true => Nat.lor (Nat.lor (Nat.shiftLeft 1 e.on) (nth 0 acc e.on)) (ancOf acc l)
    | false => ancOf acc l
def edgesOk (i : Nat) : List Edge → Bool
  | [] => true
  | e :: l => match Region.binds .any e, Nat.blt e.on i with
    | true, false => false
    | _, _ => edgesOk i l
noncomputable def ancsGo : List Oper → List Nat → Option (List Nat)
  | [], acc => some acc
  | o :: r, acc => match edgesOk (len acc) o.after.toList with
    | true => ancsGo r (app acc [ancOf acc o.after.toList])
    | false => none
noncomputable def isInc (ancs : List Nat) (i j : Nat) : Bool := match i == j, bit (nth 0 ancs i) j, bit (nth 0 ancs j) i with
  | false, false, false => true
  | _, _, _ => false
/-- The slots that operations write that are in no order with the i-th. -/
noncomputable def incDst (ancs : List Nat) (i : Nat) : Nat → List Oper → List Tmp
  | _, [] => []
  | j, o :: l => match isInc ancs i j, o.dst with
    | true, some d => d :: incDst ancs i (j + 1) l
    | _, _ => incDst ancs i (j + 1) l
noncomputable def maskE : List Tmp → Env → Env
  | [], e => e
  | d :: l, e => put .u (maskE l e) d
structure LE where (ix : Nat) (H : Heap) (d : List (Nat × HB))
noncomputable def deadL : List (Nat × HB) → Heap → Heap
  | [], H => H
  | (q, _) :: l, H => setAt (deadL l H) q .dead
noncomputable def maskH (ancs : List Nat) (i : Nat) : List LE → Heap → Heap
  | [], H => H
  | l :: L, H => match isInc ancs i l.ix with
    | true => deadL l.d (maskH ancs i L H)
    | false => maskH ancs i L H
def hasKey (q : Nat) : List (Nat × HB) → Bool
  | [] => false
  | (a, _) :: l => match a == q with | true => true | false => hasKey q l
noncomputable def freeOf (l : LE) : List (Nat × HB) → Bool
  | [] => true
  | (q, _) :: d => match hasKey q l.d, (hget l.H q).live with
    | false, false => freeOf l d
    | _, _ => false
noncomputable def apartL (ancs : List Nat) (i : Nat) (d : List (Nat × HB)) : List LE → Bool
  | [] => true
  | l :: L => match isInc ancs i l.ix with
    | true => match freeOf l d with | true => apartL ancs i d L | false => false
    | false => apartL ancs i d L
/-- The blocks that operations write that are in no order with the i-th: by their addresses where the region begins. -/
noncomputable def stKeys (ancs : List Nat) (e : Env) (i : Nat) : Nat → List Oper → List Nat
  | _, [] => []
  | j, o :: l => match isInc ancs i j, o.op with
    | true, .store _ a _ => match ev e a with
      | .w (.c (.p id _)) => id :: stKeys ancs e i (j + 1) l
      | _ => stKeys ancs e i (j + 1) l
    | _, _ => stKeys ancs e i (j + 1) l
def hasStore : List Oper → Bool
  | [] => false
  | o :: l => match o.op with
    | .store _ _ _ => true
    | _ => hasStore l
noncomputable def deadK : List Nat → Heap → Heap
  | [], H => H
  | q :: l, H => setAt (deadK l H) q .dead
def dstOk (d : Option Tmp) (ds : List Tmp) : Bool := match d with
  | none => true
  | some t => !ds.contains t
def vcDraw (T : Tab) (C : Cons) (all : List Oper) (ancs : List Nat) (ks : Nat → List Nat) : List Oper → Nat → St → List LE → (St → Prop) → Prop
  | [], _, σ, _, k => k σ
  | o :: r, i, σ, L, k => match incDst ancs i 0 all with
    | ds => match dstOk o.dst ds with
      | false => Bad 7 Oper o
      | true => match maskE ds σ.e, deadK (ks i) (maskH ancs i L σ.H) with
        | e1, H1 =>
          let run (σ : St) (e1 : Env) : Prop := match stepC T C e1 H1 σ.n o.op with
            | some ⟨pre, [(none, out)]⟩ => match apartL ancs i out.d L with
              | true => conj pre (vcDraw T C all ancs ks r (i + 1) (σ.upd o.dst out) (⟨i, H1, out.d⟩ :: L) k)
              | false => Bad 8 Oper o
            | _ => Bad 9 Oper o
          match o.guard with
          | none => run σ e1
          | some (g, want) => match opDst all g with
            | none => Bad 10 Oper o
            | some s => match nth .u e1 s with
              | .w (.c (.l x)) => match x == want with
                | true => run σ e1
                | false => vcDraw T C all ancs ks r (i + 1) ⟨putD o.dst (.t []) σ.e, σ.H, σ.n⟩ L k
              | .t [] => vcDraw T C all ancs ks r (i + 1) ⟨putD o.dst (.t []) σ.e, σ.H, σ.n⟩ L k
              | .w (.c (.b x)) => (x = want → run ⟨put (.w (.c (.l want))) σ.e s, σ.H, σ.n⟩ (put (.w (.c (.l want))) e1 s)) ∧
                  (x = !want → vcDraw T C all ancs ks r (i + 1) ⟨putD o.dst (.t []) (put (.w (.c (.l (!want)))) σ.e s), σ.H, σ.n⟩ L k)
              | _ => Bad 6 Oper o

structure Kont where (norm : St → Prop) (ret : St → Prop) (ex : List (Nat × (St → Prop)))
noncomputable def lit (σ : St) (c : Operand) (x : Bool) : St := match c with
  | .tmp t => ⟨put (.w (.c (.l x))) σ.e t, σ.H, σ.n⟩
  | _ => σ
def firstR : Code → Option Nat
  | .region i _ _ => some i
  | .seq a b => match firstR a with | some i => some i | none => firstR b
  | .cond _ a b => match firstR a with | some i => some i | none => firstR b
  | .block _ c => firstR c
  | .loop c => firstR c
  | _ => none

def vcCode (T : Tab) (C : Cons) (I : Inl) (A : List (Nat × LA)) (fx : Env) : Code → Kont → St → Prop
  | .skip, K, σ => K.norm σ
  | .seq a b, K, σ => match firstR b with
    | some i => match lk A (i + 1000000) with
      | some la => joinVC fx la σ (fun k σ => vcCode T C I A fx a ⟨k, K.ret, K.ex⟩ σ) (fun σ => vcCode T C I A fx b K σ)
      | none => vcCode T C I A fx a ⟨fun σ => vcCode T C I A fx b K σ, K.ret, K.ex⟩ σ
    | none => vcCode T C I A fx a ⟨fun σ => vcCode T C I A fx b K σ, K.ret, K.ex⟩ σ
  | .cond c a b, K, σ => match ev σ.e c with
    | .w (.c (.l true)) => vcCode T C I A fx a K σ
    | .w (.c (.l false)) => vcCode T C I A fx b K σ
    | .w (.c (.b x)) => (x = true → vcCode T C I A fx a K (lit σ c true)) ∧ (x = false → vcCode T C I A fx b K (lit σ c false))
    | _ => Bad 12 Operand c
  | .block i c, K, σ => vcCode T C I A fx c ⟨K.norm, K.ret, (i, K.norm) :: K.ex⟩ σ
  | .exit i, K, σ => match lk K.ex i with
    | some k => k σ
    | none => Bad 13 Nat i
  | .loop c, K, σ => match firstR c with
    | some i => match lk A i with
      | some la => loopVC fx la σ (fun k σ => vcCode T C I A fx c ⟨k, K.ret, K.ex⟩ σ)
      | none => Bad 14 Nat i
    | none => Bad 15 Nat 0
  | .ret, K, σ => K.ret σ
  | .region _ ops false, K, σ => vcSeq T C I fx ops.toList ops.toList σ K.norm
  | .region _ ops true, K, σ => match ancsGo ops.toList [] with
    | some ancs => match hasStore ops.toList with
      | true => vcDraw T C ops.toList ancs (fun i => stKeys ancs σ.e i 0 ops.toList) ops.toList 0 σ [] K.norm
      | false => vcDraw T C ops.toList ancs (fun _ => []) ops.toList 0 σ [] K.norm
    | none => Bad 16 Nat 0
  | _, _, _ => Bad 17 Nat 0

/-- A function that is called is walked in the caller's memory; the caller's slots wait. -/
structure InlE where (fn : Func) (A : List (Nat × LA))
abbrev Inls := List (Nat × InlE)
def enter (T : Tab) (vc : List (Nat × LA) → Env → Code → Kont → St → Prop) (en : InlE) (fx : Env) (args : List SV) (σ : St) (k : SV → St → Prop) : Prop := match en.fn.body with
  | some c => match maskX σ.e with
    | e0 => match (fun σ' : St => match resWs T σ' en.fn.results.toList with
        | some ws => k (resSV ws) ⟨e0, σ'.H, σ'.n⟩
        | none => Bad 21 Nat 0) with
      | R => vc en.A (app e0 fx) c ⟨R, R, []⟩ ⟨app args (pad (en.fn.ntmps - len args)), σ.H, σ.n⟩
  | none => Bad 22 Nat 0
noncomputable def vcLev (T : Tab) (C : Cons) (Is : Inls) : Nat → Inl
  | 0 => fun _ => none
  | d + 1 => fun g => match lk Is g with
    | some en => some (enter T (fun A fx c K σ => vcCode T C (vcLev T C Is d) A fx c K σ) en)
    | none => none
/-! ### A function's end -/
/-- The results fit what was told. -/
noncomputable def fitR (σ : St) (ws : List SW) (r : List AV) : Option (Option Prop) := match concV r 0 with
  | (ts, HR) => match fitWs [] ts ws with
    | some (m, p) => match fitX σ.H m 0 HR with
      | some (m', q, d) => match fitM HR σ.H d m' m', inj HR m' m', wfWs (len HR) ts, wfH (len HR) HR, cover m' 0 HR with
        | some s, true, true, true, true => some (andO p (andO q s))
        | _, _, _, _, _ => none
      | none => none
    | none => none
def altOk (σ : St) (ws : List SW) (a : Alt) : Prop := match fitR σ ws a.r with
  | some p => holdsO (andO a.h p)
  | none => Bad 18 (List SW) ws
def anyAlt (σ : St) (ws : List SW) : List Alt → Prop
  | [] => False
  | [a] => altOk σ ws a
  | a :: l => altOk σ ws a ∨ anyAlt σ ws l
def retK (T : Tab) (rs : List ResultVar) (as : List Alt) (σ : St) : Prop := match resWs T σ rs with
  | some ws => anyAlt σ ws as
  | none => Bad 19 Nat 0
def vcFnI (T : Tab) (C : Cons) (Is : Inls) (A : List (Nat × LA)) (fn : Func) (con : Con) : Prop := match fn.body with
  | some c => allArgs con.ps [] [] con.run fun e H r => imp r.pre (vcCode T C (vcLev T C Is 4) A [] c ⟨retK T fn.results.toList r.alts, retK T fn.results.toList r.alts, []⟩ ⟨app e (pad (fn.ntmps - len e)), H, len H⟩)
  | none => False
def vcFn (T : Tab) (C : Cons) (A : List (Nat × LA)) (fn : Func) (con : Con) : Prop := vcFnI T C [] A fn con
end Go.Eng
