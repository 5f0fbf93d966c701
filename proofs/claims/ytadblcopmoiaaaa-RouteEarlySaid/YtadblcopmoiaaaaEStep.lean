/- One operation, evaluated on symbolic values and symbolic memory. -/
import Derived.Test.YtadblcopmoiaaaaEMem
set_option linter.unusedVariables false
set_option linter.unusedSimpArgs false
namespace Go.Eng
open Go Go.RowKit

structure FD where (off size : Nat) (agg : Bool) (ty : Nat)
inductive TD where
  | sc (k : Option (K × Nat)) (z : SC)
  | st (n : Nat) (fs : List FD) (z : List SC) (eq : Bool)
abbrev Tab := List (Nat × TD)
noncomputable def look (l : Tab) (t : Nat) : Option TD := List.rec (motive := fun _ => Option TD) none (fun x _ ih => Bool.rec (motive := fun _ => Option TD) ih (some x.2) (Nat.beq x.1 t)) l
theorem look_nil (t : Nat) : look [] t = none := rfl
theorem look_cons (x : Nat × TD) (l : Tab) (t : Nat) : look (x :: l) t = if x.1 = t then some x.2 else look l t := by
  show Bool.rec (motive := fun _ => Option TD) (look l t) (some x.2) (Nat.beq x.1 t) = _
  by_cases h : x.1 = t
  · rw [if_pos h, h, Nat.beq_refl]
  · rw [if_neg h]
    cases hb : Nat.beq x.1 t with
    | false => rfl
    | true => exact absurd (Nat.eq_of_beq_eq_true hb) h
def cst : Value → SV
  | .int .i64 n => .w (.c (.i n))
  | .bool b => .w (.c (.l b))
  | .slice none 0 0 => .w (.c .nls)
  | .pointer none => .w (.c .nlp)
  | _ => .u
noncomputable def ev (e : Env) : Operand → SV
  | .tmp t => nth .u e t
  | .const v => cst v
  | .func f => .w (.c (.fn f))
  | .global _ => .u
noncomputable def hget (H : Heap) (id : Nat) : HB := nth .dead H id
noncomputable def tk {α : Type} (n : Nat) (l : List α) : List α := List.rec (motive := fun _ => Nat → List α) (fun _ => []) (fun x _ ih n => Nat.casesOn (motive := fun _ => List α) n [] (fun m => x :: ih m)) l n
theorem tk_nil {α : Type} (n : Nat) : tk n ([] : List α) = [] := rfl
theorem tk_zero {α : Type} (l : List α) : tk 0 l = [] := by cases l <;> rfl
theorem tk_succ {α : Type} (n : Nat) (x : α) (l : List α) : tk (n + 1) (x :: l) = x :: tk n l := rfl
noncomputable def dr {α : Type} (n : Nat) (l : List α) : List α := List.rec (motive := fun _ => Nat → List α) (fun _ => []) (fun x l ih n => Nat.casesOn (motive := fun _ => List α) n (x :: l) ih) l n
theorem dr_nil {α : Type} (n : Nat) : dr n ([] : List α) = [] := rfl
theorem dr_zero {α : Type} (l : List α) : dr 0 l = l := by cases l <;> rfl
theorem dr_succ {α : Type} (n : Nat) (x : α) (l : List α) : dr (n + 1) (x :: l) = dr n l := rfl
noncomputable def splice {α : Type} (l : List α) (off : Nat) (xs : List α) : List α := app (tk off l) (app xs (dr (off + len xs) l))
def SW.cells : SW → List SC
  | .c x => [x]
  | .g l => l
def SC.known : SC → Bool
  | .u => false
  | _ => true
def known : List SC → Bool
  | [] => true
  | c :: l => match c.known with | true => known l | false => false
/-- A cell as an element's cell: numbers and bools alone. -/
def SC.cv : SC → Option CV
  | .i n => some (.i n)
  | .b x => some (.b x)
  | .l x => some (.b x)
  | _ => none
def cvsOf : List SC → Option (List CV)
  | [] => some []
  | c :: l => match c.cv, cvsOf l with
    | some x, some r => some (x :: r)
    | _, _ => none
/-- An element's cells as symbolic cells: a slice in it is a block of its own. -/
def cells : List CV → Nat → List SC × List (Nat × HB) × Nat
  | [], n => ([], [], n)
  | .i x :: l, n => match cells l n with | (a, b, m) => (.i x :: a, b, m)
  | .b x :: l, n => match cells l n with | (a, b, m) => (.b x :: a, b, m)
  | .sl k xs :: l, n => match cells l (n + 1) with | (a, b, m) => (.fs n :: a, (n, .arr (.f k) 0 false xs) :: b, m)
def flatCV : List CV → Bool
  | [] => true
  | .sl _ _ :: _ => false
  | _ :: l => flatCV l

/-- A condition. -/
def holdsO : Option Prop → Prop
  | none => True
  | some p => p
structure Out where
  v : SV
  d : List (Nat × HB)
  n : Nat
  c : Option Prop

def wrap (n : Int) : Int := IntKind.i64.wrap n
def arith (op : BinOp) (x y : Int) : Option (SC × Option Prop) := match op with
  | .add => some (.i (wrap (x + y)), none)
  | .sub => some (.i (wrap (x - y)), none)
  | .mul => some (.i (wrap (x * y)), none)
  | .quo => some (.i (wrap (x.tdiv y)), some (y ≠ 0))
  | .rem => some (.i (x.tmod y), some (y ≠ 0))
  | .eql => some (.b (decide (x = y)), none)
  | .neq => some (.b (!decide (x = y)), none)
  | .lss => some (.b (decide (x < y)), none)
  | .leq => some (.b (decide (x ≤ y)), none)
  | .gtr => some (.b (decide (x > y)), none)
  | .geq => some (.b (decide (x ≥ y)), none)
  | _ => none
/-- '==' of two values of a type: numbers, bools, structs of these. -/
def eqS : SC → SC → SC → Option Bool
  | .i _, .i x, .i y => some (decide (x = y))
  | .l _, .b x, .b y => some (x == y)
  | .l _, .l x, .b y => some (x == y)
  | .l _, .b x, .l y => some (x == y)
  | .l _, .l x, .l y => some (x == y)
  | .nlp, .nlp, .nlp => some true
  | .nlp, .nlp, .p _ _ => some false
  | .nlp, .p _ _, .nlp => some false
  | _, _, _ => none
noncomputable def eqF (cmp : Nat → SW → SW → Option Bool) : List FD → List SC → List SC → Option Bool
  | [], _, _ => some true
  | ⟨off, s, g, t⟩ :: fs, l, m =>
    match (match g with | true => cmp t (.g (tk s (dr off l))) (.g (tk s (dr off m))) | false => cmp t (.c (nth .u l off)) (.c (nth .u m off))), eqF cmp fs l m with
    | some a, some b => some (a && b)
    | _, _ => none
noncomputable def eqT (T : Tab) : Nat → Nat → SW → SW → Option Bool
  | 0, _, _, _ => none
  | d + 1, t, x, y => match look T t, x, y with
    | some (.sc _ z), .c a, .c b => eqS z a b
    | some (.st n fs _ true), .g l, .g m => if len l = n then (if len m = n then (if fs.all (fun fd => decide (fd.off + fd.size ≤ n)) then eqF (eqT T d) fs l m else none) else none) else none
    | _, _, _ => none
/-- Of pointers it is known. -/
noncomputable def ptrEq (T : Tab) (t : Nat) : SW → SW → Option Bool
  | .c a, .c b => match look T t with
    | some (.sc _ .nlp) => match a, b with
      | .nlp, .nlp => some true
      | .nlp, .p _ _ => some false
      | .p _ _, .nlp => some false
      | _, _ => none
    | _ => none
  | _, _ => none
noncomputable def build (fs : List FD) (e : Env) : List (Nat × Operand) → List SC → Option (List SC)
  | [], l => some l
  | (i, x) :: r, l => match ev e x, nth ⟨0, 0, false, 0⟩ fs i with
    | .w s, ⟨off, n, _, _⟩ => if known s.cells then (if i < len fs then (if len s.cells = n then (if off + n ≤ len l then build fs e r (splice l off s.cells) else none) else none) else none) else none
    | _, _ => none
noncomputable def elems (fk : FK) (e : Env) : Nat → List (Nat × Operand) → Option (List fk.T)
  | _, [] => some []
  | j, (i, x) :: r => if i = j then (match ev e x with
    | .w s => match cvsOf s.cells with
      | some cs => match fk.dec cs, elems fk e (j + 1) r with
        | some y, some ys => some (y :: ys)
        | _, _ => none
      | none => none
    | _ => none) else none
/-- The elements that a slice shows. -/
def part {α : Type} (xs : List α) (lo n : Nat) : List α := (xs.drop lo).take n

noncomputable def stepLoad (T : Tab) (t : Nat) (a : SV) (H : Heap) (n : Nat) : Option Out := match a with
  | .w (.c (.p id off)) => match hget H id, look T t with
    | .cells _ _ l, some (.sc _ _) => if off < len l then some ⟨.w (.c (nth .u l off)), [], n, none⟩ else none
    | .cells _ _ l, some (.st m _ _ _) => if off + m ≤ len l then some ⟨.w (.g (tk m (dr off l))), [], n, none⟩ else none
    | _, _ => none
  | .w (.c (.el id ix sz off)) => match hget H id, look T t with
    | .arr k _ own xs, some (.sc _ _) => match nth (.i 0) (k.enc (xs.getD ix k.zero)) off with
      | .i x => if off < k.size then (if sz = k.size then some ⟨.w (.c (.i x)), [], n, some (ix < xs.length)⟩ else none) else none
      | .b x => if off < k.size then (if sz = k.size then some ⟨.w (.c (.b x)), [], n, some (ix < xs.length)⟩ else none) else none
      | .sl fk ys => if off < k.size then (if sz = k.size then (if own then none else some ⟨.w (.c (.fs n)), [(n, .arr (.f fk) 0 false ys)], n + 1, some (ix < xs.length)⟩) else none) else none
    | .arr k _ own xs, some (.st m _ _ _) => match cells (tk m (dr off (k.enc (xs.getD ix k.zero)))) n with
      | (l, d, n') => if off + m ≤ k.size then (if sz = k.size then (match own, d with
        | true, _ :: _ => none
        | _, _ => some ⟨.w (.g l), d, n', some (ix < xs.length)⟩) else none) else none
    | _, _ => none
  | _ => none
noncomputable def stepStore (T : Tab) (t : Nat) (a x : SV) (H : Heap) (n : Nat) : Option Out := match a, x with
  | .w (.c (.p id off)), .w s => match hget H id, look T t with
    | .cells true ty l, some (.sc _ _) => match s with
      | .c c => if c.known then (if off < len l then some ⟨.u, [(id, .cells true ty (put c l off))], n, none⟩ else none) else none
      | _ => none
    | .cells true ty l, some (.st m _ _ _) => match s with
      | .g l' => if known l' then (if len l' = m then (if off + m ≤ len l then some ⟨.u, [(id, .cells true ty (splice l off l'))], n, none⟩ else none) else none) else none
      | _ => none
    | _, _ => none
  | .w (.c (.el id ix sz off)), .w s => match hget H id with
    | .arr (.f fk) e true xs => match cvsOf s.cells with
      | some cs => match fk.dec (splice (fk.enc (xs.getD ix fk.zero)) off cs) with
        | some y => if off + len cs ≤ fk.size then (if sz = fk.size then (match look T t, s with
          | some (.sc _ _), .c _ => some ⟨.u, [(id, .arr (.f fk) e true (xs.set ix y))], n, some (ix < xs.length)⟩
          | some (.st m _ _ _), .g l' => if len l' = m then some ⟨.u, [(id, .arr (.f fk) e true (xs.set ix y))], n, some (ix < xs.length)⟩ else none
          | _, _ => none) else none) else none
        | none => none
      | none => none
    | _ => none
  | _, _ => none
/-- What is appended or copied: the block that it lies in, its elements. -/
noncomputable def srcOf (fk : FK) (b : SV) (H : Heap) (n : Nat) : Option (Nat × List fk.T) := match b with
  | .w (.c .nls) => some (n, [])
  | .w (.c (.fs id)) => match hget H id with
    | .arr (.f k2) _ _ ys => match FK.same k2 fk with | some ⟨h⟩ => some (id, h ▸ ys) | none => none
    | _ => none
  | .w (.c (.s id lo m sz)) => match hget H id with
    | .arr (.f k2) _ _ ys => match FK.same k2 fk with | some ⟨h⟩ => if sz = k2.size then some (id, h ▸ part ys lo m) else none | none => none
    | _ => none
  | _ => none
def srcC (fk : FK) (b : SV) (H : Heap) : Prop := match b with
  | .w (.c (.s id lo m _)) => match hget H id with
    | .arr _ _ _ ys => lo + m ≤ ys.length
    | _ => True
  | _ => True
noncomputable def stepAppend (T : Tab) (t : Nat) (a b : SV) (H : Heap) (n : Nat) : Option Out := match look T t with
  | some (.sc (some (.f fk, e)) _) => match srcOf fk b H n with
    | none => none
    | some (id2, ys) => match a with
      | .w (.c .nls) => some ⟨.w (.c (.fs n)), [(n, .arr (.f fk) e true ys)], n + 1, some (srcC fk b H ∧ ys.length * (8 * fk.size) ≤ 140737488355328)⟩
      | .w (.c (.fs id)) => if id = id2 then none else match hget H id with
        | .arr (.f k1) e1 true xs => match FK.same k1 fk with
          | some ⟨h⟩ => if e1 = e then some ⟨.w (.c (.fs n)), [(id, .dead), (n, .arr (.f fk) e true ((h ▸ xs) ++ ys))], n + 1, some (srcC fk b H ∧ ((h ▸ xs : List fk.T).length + ys.length) * (8 * fk.size) ≤ 140737488355328)⟩ else none
          | none => none
        | _ => none
      | _ => none
  | _ => none
noncomputable def stepLen (a : SV) (H : Heap) (n : Nat) : Option Out := match a with
  | .w (.c .nls) => some ⟨.w (.c (.i 0)), [], n, none⟩
  | .w (.c (.fs id)) => match hget H id with
    | .arr _ _ _ xs => some ⟨.w (.c (.i (xs.length : Int))), [], n, none⟩
    | _ => none
  | .w (.c (.s _ _ m _)) => some ⟨.w (.c (.i (m : Int))), [], n, none⟩
  | _ => none
noncomputable def stepIndex (x ix : SV) (H : Heap) (n : Nat) : Option Out := match x, ix with
  | .w (.c (.fs id)), .w (.c (.i j)) => match hget H id with
    | .arr k _ _ xs => some ⟨.w (.c (.el id j.toNat k.size 0)), [], n, some (0 ≤ j ∧ j < (xs.length : Int))⟩
    | _ => none
  | .w (.c (.s id lo m sz)), .w (.c (.i j)) => match hget H id with
    | .arr k _ _ xs => if sz = k.size then some ⟨.w (.c (.el id (lo + j.toNat) sz 0)), [], n, some (0 ≤ j ∧ j < (m : Int))⟩ else none
    | _ => none
  | _, _ => none
noncomputable def bound (e : Env) (d : Int) : Option Operand → Option Int
  | none => some d
  | some x => match ev e x with | .w (.c (.i n)) => some n | _ => none
noncomputable def stepSlice (x : SV) (e : Env) (lo hi : Option Operand) (H : Heap) (n : Nat) : Option Out := match x with
  | .w (.c (.fs id)) => match hget H id with
    | .arr k _ _ xs => match bound e 0 lo, bound e (xs.length : Int) hi with
      | some l, some h => some ⟨.w (.c (.s id l.toNat (h.toNat - l.toNat) k.size)), [], n, some (0 ≤ l ∧ l ≤ h ∧ h ≤ (xs.length : Int))⟩
      | _, _ => none
    | _ => none
  | .w (.c (.s id lo0 m sz)) => match hget H id with
    | .arr k _ _ xs => match bound e 0 lo, bound e (m : Int) hi with
      | some l, some h => if sz = k.size then some ⟨.w (.c (.s id (lo0 + l.toNat) (h.toNat - l.toNat) sz)), [], n, some (0 ≤ l ∧ l ≤ h ∧ h ≤ (m : Int))⟩ else none
      | _, _ => none
    | _ => none
  | _ => none
noncomputable def stepCopy (a b : SV) (H : Heap) (n : Nat) : Option Out := match a with
  | .w (.c (.fs id)) => match hget H id with
    | .arr (.f fk) e true xs => match srcOf fk b H n with
      | none => none
      | some (id2, ys) => if id = id2 then none else some ⟨.w (.c (.i ((Nat.min ys.length xs.length : Nat) : Int))), [(id, .arr (.f fk) e true (ys.take xs.length ++ xs.drop ys.length))], n, some (srcC fk b H)⟩
    | _ => none
  | _ => none

noncomputable def step (T : Tab) (e : Env) (H : Heap) (n : Nat) (op : Op) : Option Out := match op with
  | .move x | .assign x => some ⟨ev e x, [], n, none⟩
  | .pick c a b => match ev e c with
    | .w (.c (.l true)) => some ⟨ev e a, [], n, none⟩
    | .w (.c (.l false)) => some ⟨ev e b, [], n, none⟩
    | _ => none
  | .alloc t => match look T t with
    | some (.sc _ z) => some ⟨.w (.c (.p n 0)), [(n, .cells true t [z])], n + 1, none⟩
    | some (.st _ _ z _) => some ⟨.w (.c (.p n 0)), [(n, .cells true t z)], n + 1, none⟩
    | none => none
  | .box t x => match ev e x with
    | .w s => if known s.cells then some ⟨.w (.c (.p n 0)), [(n, .cells true t s.cells)], n + 1, none⟩ else none
    | _ => none
  | .load t a => stepLoad T t (ev e a) H n
  | .store t a x => stepStore T t (ev e a) (ev e x) H n
  | .nilCheck x => match ev e x with
    | .w (.c (.p id off)) => some ⟨.w (.c (.p id off)), [], n, none⟩
    | .w (.c (.el id ix sz off)) => some ⟨.w (.c (.el id ix sz off)), [], n, none⟩
    | _ => none
  | .binOp op t x y _ => match ev e x, ev e y with
    | .w (.c (.i a)), .w (.c (.i b)) => match arith op a b with
      | some (c, p) => some ⟨.w (.c c), [], n, p⟩
      | none => none
    | .w a, .w b => match ptrEq T t a b with
      | some r => match op with
        | .eql => some ⟨.w (.c (.l r)), [], n, none⟩
        | .neq => some ⟨.w (.c (.l (!r))), [], n, none⟩
        | _ => none
      | none => match op, eqT T 9 t a b with
        | .eql, some r => some ⟨.w (.c (.b r)), [], n, none⟩
        | .neq, some r => some ⟨.w (.c (.b (!r))), [], n, none⟩
        | _, _ => none
    | _, _ => none
  | .unOp op _ x => match op, ev e x with
    | .not, .w (.c (.b a)) => some ⟨.w (.c (.b (!a))), [], n, none⟩
    | .not, .w (.c (.l a)) => some ⟨.w (.c (.l (!a))), [], n, none⟩
    | .neg, .w (.c (.i a)) => some ⟨.w (.c (.i (wrap (-a)))), [], n, none⟩
    | _, _ => none
  | .build t ps => match look T t with
    | some (.st _ fs z _) => match build fs e ps.toList z with
      | some l => some ⟨.w (.g l), [], n, none⟩
      | none => none
    | _ => none
  | .buildSlice t m ps => match look T t with
    | some (.sc (some (.f fk, ety)) _) => match elems fk e 0 ps.toList with
      | some ys => if len ps.toList = m then (if m * fk.size ≤ 16777216 then some ⟨.w (.c (.fs n)), [(n, .arr (.f fk) ety true ys)], n + 1, none⟩ else none) else none
      | none => none
    | _ => none
  | .field t x f => match ev e x, look T t with
    | .w (.g l), some (.st m fs _ _) => match nth ⟨0, 0, false, 0⟩ fs f with
      | ⟨off, s, g, _⟩ => if len l = m then (if f < len fs then (if off + s ≤ m then some ⟨.w (match g with | true => .g (tk s (dr off l)) | false => .c (nth .u l off)), [], n, none⟩ else none) else none) else none
    | _, _ => none
  | .fieldAddr t a f => match look T t with
    | some (.st _ fs _ _) => match nth ⟨0, 0, false, 0⟩ fs f with
      | ⟨off, _, _, _⟩ => if f < len fs then (match ev e a with
        | .w (.c (.p id o)) => some ⟨.w (.c (.p id (o + off))), [], n, none⟩
        | .w (.c (.el id ix sz o)) => some ⟨.w (.c (.el id ix sz (o + off))), [], n, none⟩
        | _ => none) else none
    | _ => none
  | .indexAddr t x ix => match look T t with
    | some (.sc (some (k, _)) _) => match ev e x with
      | .w (.c (.fs id)) => match hget H id with
        | .arr k' _ _ _ => match K.same k k' with | some _ => stepIndex (ev e x) (ev e ix) H n | none => none
        | _ => none
      | .w (.c (.s id _ _ _)) => match hget H id with
        | .arr k' _ _ _ => match K.same k k' with | some _ => stepIndex (ev e x) (ev e ix) H n | none => none
        | _ => none
      | _ => none
    | _ => none
  | .slice t x lo hi mx => match look T t, mx with
    | some (.sc (some (k, _)) _), none => match ev e x with
      | .w (.c (.fs id)) => match hget H id with
        | .arr k' _ _ _ => match K.same k k' with | some _ => stepSlice (ev e x) e lo hi H n | none => none
        | _ => none
      | .w (.c (.s id _ _ _)) => match hget H id with
        | .arr k' _ _ _ => match K.same k k' with | some _ => stepSlice (ev e x) e lo hi H n | none => none
        | _ => none
      | _ => none
    | _, _ => none
  | .makeSlice t l c => match look T t, ev e l, ev e c with
    | some (.sc (some (.f fk, ety)) _), .w (.c (.i a)), .w (.c (.i b)) =>
      some ⟨.w (.c (.fs n)), [(n, .arr (.f fk) ety true (List.replicate a.toNat fk.zero))], n + 1, some (0 ≤ a ∧ a ≤ b ∧ b * (8 * fk.size) ≤ 281474976710656)⟩
    | _, _, _ => none
  | .extract t j => match ev e t with
    | .t l => if j < len l then some ⟨.w (nth (.c .u) l j), [], n, none⟩ else none
    | _ => none
  | .call c => match c.callee, c.args.toList, c.argTypes.toList with
    | .builtin .len, [x], [t] => match look T t with
      | some (.sc (some _) _) => stepLen (ev e x) H n
      | _ => none
    | .builtin .append, [x, y], [t, t'] => if t = t' then stepAppend T t (ev e x) (ev e y) H n else none
    | .builtin .copy, [x, y], [t, _] => match look T t, ev e x with
      | some (.sc (some (k, _)) _), .w (.c (.fs id)) => match hget H id with
        | .arr k' _ _ _ => match K.same k k' with | some _ => stepCopy (ev e x) (ev e y) H n | none => none
        | _ => none
      | _, _ => none
    | .builtin .max, [x, y], _ => match ev e x, ev e y with
      | .w (.c (.i a)), .w (.c (.i b)) => some ⟨.w (.c (.i (max a b))), [], n, none⟩
      | _, _ => none
    | .builtin .min, [x, y], _ => match ev e x, ev e y with
      | .w (.c (.i a)), .w (.c (.i b)) => some ⟨.w (.c (.i (min a b))), [], n, none⟩
      | _, _ => none
    | _, _, _ => none
  | _ => none
end Go.Eng
