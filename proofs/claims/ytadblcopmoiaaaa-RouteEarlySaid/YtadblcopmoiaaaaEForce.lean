/- The conditions, states reckoned out on the way (the kernel's evaluation is by name): the same conditions. -/
import Derived.Test.YtadblcopmoiaaaaEFn2
set_option linter.unusedVariables false
set_option linter.unusedSimpArgs false
namespace Go.Eng
open Go Go.RowKit

/-- No elements, with their type (for conditions in print). -/
@[reducible] def nilOf (α : Type) : List α := []
def f16 (n : Nat) (k : Nat → Prop) : Prop := match n with
  | 0 => k 0 | 1 => k 1 | 2 => k 2 | 3 => k 3 | 4 => k 4 | 5 => k 5 | 6 => k 6 | 7 => k 7 | 8 => k 8 | 9 => k 9 | 10 => k 10 | 11 => k 11 | 12 => k 12 | 13 => k 13 | 14 => k 14 | 15 => k 15
  | m => k m
theorem f16_eq (n : Nat) (k : Nat → Prop) : f16 n k = k n := by
  unfold f16
  split <;> rfl
def fN (n : Nat) (k : Nat → Prop) : Prop := f16 (n / 16) fun a => f16 (n % 16) fun b => k (16 * a + b)
theorem fN_eq (n : Nat) (k : Nat → Prop) : fN n k = k n := by
  unfold fN
  rw [f16_eq, f16_eq, Nat.div_add_mod]
def fC : SC → (SC → Prop) → Prop
  | .u, k => k .u
  | .i n, k => k (.i n)
  | .b x, k => k (.b x)
  | .l true, k => k (.l true)
  | .l false, k => k (.l false)
  | .p i o, k => k (.p i o)
  | .el i x s o, k => k (.el i x s o)
  | .fs i, k => k (.fs i)
  | .s i l n s, k => k (.s i l n s)
  | .nls, k => k .nls
  | .nlp, k => k .nlp
  | .fn f, k => k (.fn f)
theorem fC_eq (c : SC) (k : SC → Prop) : fC c k = k c := by
  cases c with
  | l x => cases x <;> rfl
  | _ => rfl
def fL : List SC → (List SC → Prop) → Prop
  | [], k => k []
  | c :: l, k => fC c fun c => fL l fun l => k (c :: l)
theorem fL_eq : ∀ (l : List SC) (k : List SC → Prop), fL l k = k l
  | [], _ => rfl
  | c :: l, k => by simp only [fL, fC_eq, fL_eq l]
def fW : SW → (SW → Prop) → Prop
  | .c x, k => fC x fun x => k (.c x)
  | .g l, k => fL l fun l => k (.g l)
theorem fW_eq (s : SW) (k : SW → Prop) : fW s k = k s := by cases s <;> simp only [fW, fC_eq, fL_eq]
def fWs : List SW → (List SW → Prop) → Prop
  | [], k => k []
  | c :: l, k => fW c fun c => fWs l fun l => k (c :: l)
theorem fWs_eq : ∀ (l : List SW) (k : List SW → Prop), fWs l k = k l
  | [], _ => rfl
  | c :: l, k => by simp only [fWs, fW_eq, fWs_eq l]
def fV : SV → (SV → Prop) → Prop
  | .w x, k => fW x fun x => k (.w x)
  | .t l, k => fWs l fun l => k (.t l)
theorem fV_eq (s : SV) (k : SV → Prop) : fV s k = k s := by cases s <;> simp only [fV, fW_eq, fWs_eq]
def fE : Env → (Env → Prop) → Prop
  | [], k => k []
  | c :: l, k => fV c fun c => fE l fun l => k (c :: l)
theorem fE_eq : ∀ (l : Env) (k : Env → Prop), fE l k = k l
  | [], _ => rfl
  | c :: l, k => by simp only [fE, fV_eq, fE_eq l]
def fB : HB → (HB → Prop) → Prop
  | .dead, k => k .dead
  | .cells o ty l, k => fL l fun l => k (.cells o ty l)
  | .arr kk e true xs, k => k (.arr kk e true xs)
  | .arr kk e false xs, k => k (.arr kk e false xs)
theorem fB_eq (s : HB) (k : HB → Prop) : fB s k = k s := by
  cases s with
  | dead => rfl
  | cells o ty l => simp only [fB, fL_eq]
  | arr kk e o xs => cases o <;> rfl
def fH : Heap → (Heap → Prop) → Prop
  | [], k => k []
  | c :: l, k => fB c fun c => fH l fun l => k (c :: l)
theorem fH_eq : ∀ (l : Heap) (k : Heap → Prop), fH l k = k l
  | [], _ => rfl
  | c :: l, k => by simp only [fH, fB_eq, fH_eq l]
def fD : List (Nat × HB) → (List (Nat × HB) → Prop) → Prop
  | [], k => k []
  | (i, c) :: l, k => fN i fun i => fB c fun c => fD l fun l => k ((i, c) :: l)
theorem fD_eq : ∀ (l : List (Nat × HB)) (k : List (Nat × HB) → Prop), fD l k = k l
  | [], _ => rfl
  | (i, c) :: l, k => by simp only [fD, fN_eq, fB_eq, fD_eq l]
def fM : Srcs → (Srcs → Prop) → Prop
  | [], k => k []
  | (i, c) :: l, k => fN i fun i => fC c fun c => fM l fun l => k ((i, c) :: l)
theorem fM_eq : ∀ (l : Srcs) (k : Srcs → Prop), fM l k = k l
  | [], _ => rfl
  | (i, c) :: l, k => by simp only [fM, fN_eq, fC_eq, fM_eq l]
def force (σ : St) (k : St → Prop) : Prop := fE σ.e fun e => fH σ.H fun H => fN σ.n fun n => k ⟨e, H, n⟩
theorem force_eq (σ : St) (k : St → Prop) : force σ k = k σ := by simp only [force, fE_eq, fH_eq, fN_eq]

/-- A list's spine alone. -/
noncomputable def fS {α : Type} (l : List α) : (List α → Prop) → Prop := List.rec (motive := fun _ => (List α → Prop) → Prop) (fun k => k []) (fun x _ ih k => ih fun l => k (x :: l)) l
theorem fS_eq {α : Type} : ∀ (l : List α) (k : List α → Prop), fS l k = k l
  | [], _ => rfl
  | x :: l, k => fS_eq l fun l => k (x :: l)
noncomputable def updF (σ : St) (d : Option Tmp) (o : Out) (k : St → Prop) : Prop := fV o.v fun v => fS (putD d v σ.e) fun e => match o.d with
  | [] => fN o.n fun n => k ⟨e, σ.H, n⟩
  | x :: l => fD (x :: l) fun dl => fS (applyL σ.H dl) fun H => fN o.n fun n => k ⟨e, H, n⟩
theorem updF_eq (σ : St) (d : Option Tmp) (o : Out) (k : St → Prop) : updF σ d o k = k (σ.upd d o) := by
  obtain ⟨v, dl, n, c⟩ := o
  cases dl with
  | nil => simp only [updF, fV_eq, fS_eq, fN_eq, St.upd, applyL]
  | cons x l => simp only [updF, fV_eq, fS_eq, fN_eq, fD_eq, St.upd]
noncomputable def envF (e : Env) (σ : St) (k : St → Prop) : Prop := fS e fun e => k ⟨e, σ.H, σ.n⟩
theorem envF_eq (e : Env) (σ : St) (k : St → Prop) : envF e σ k = k ⟨e, σ.H, σ.n⟩ := by simp only [envF, fS_eq]
noncomputable def allAltsF (σ : St) (d : Option Tmp) (k : St → Prop) : List (Option Prop × Out) → Prop
  | [] => True
  | [(h, o)] => imp h (updF σ d o k)
  | (h, o) :: l => imp h (updF σ d o k) ∧ allAltsF σ d k l
theorem allAltsF_eq (σ : St) (d : Option Tmp) (k : St → Prop) : ∀ l, allAltsF σ d k l = allAlts σ d k l
  | [] => rfl
  | [(h, o)] => by simp only [allAltsF, allAlts, updF_eq]
  | (h, o) :: x :: l => by
    have := allAltsF_eq σ d k (x :: l)
    simp only [allAltsF, allAlts, updF_eq] at this ⊢
    rw [this]
def runCF (T : Tab) (C : Cons) (σ : St) (o : Oper) (k : St → Prop) : Prop := match stepC T C σ.e σ.H σ.n o.op with
  | some g => conj g.pre (allAltsF σ o.dst k g.alts)
  | none => Bad 4 Oper o
theorem runCF_eq (T : Tab) (C : Cons) (σ : St) (o : Oper) (k : St → Prop) : runCF T C σ o k = runC T C σ o k := by
  unfold runCF runC
  simp only [allAltsF_eq]
  try rfl
def runOpF (T : Tab) (C : Cons) (I : Inl) (fx : Env) (σ : St) (o : Oper) (k : St → Prop) : Prop := match callee σ.e o.op with
  | some (g, args) => match I g with
    | some r => r fx args σ fun v σ' => fV v fun v => envF (putD o.dst v σ'.e) σ' k
    | none => runCF T C σ o k
  | none => runCF T C σ o k
theorem runOpF_eq (T : Tab) (C : Cons) (I : Inl) (fx : Env) (σ : St) (o : Oper) (k : St → Prop) : runOpF T C I fx σ o k = runOp T C I fx σ o k := by
  unfold runOpF runOp
  simp only [fV_eq, envF_eq, runCF_eq]
  try rfl
def vcSeqF (T : Tab) (C : Cons) (I : Inl) (fx : Env) (all : List Oper) : List Oper → St → (St → Prop) → Prop
  | [], σ, k => k σ
  | o :: r, σ, k => match o.guard with
    | none => runOpF T C I fx σ o fun σ => vcSeqF T C I fx all r σ k
    | some (g, want) => match opDst all g with
      | none => Bad 5 Oper o
      | some s => match nth .u σ.e s with
        | .w (.c (.l x)) => match x == want with
          | true => runOpF T C I fx σ o fun σ => vcSeqF T C I fx all r σ k
          | false => envF (putD o.dst (.t []) σ.e) σ fun σ => vcSeqF T C I fx all r σ k
        | .t [] => envF (putD o.dst (.t []) σ.e) σ fun σ => vcSeqF T C I fx all r σ k
        | .w (.c (.b x)) => (x = want → envF (put (.w (.c (.l want))) σ.e s) σ fun σ => runOpF T C I fx σ o fun σ => vcSeqF T C I fx all r σ k) ∧
            (x = !want → envF (putD o.dst (.t []) (put (.w (.c (.l (!want)))) σ.e s)) σ fun σ => vcSeqF T C I fx all r σ k)
        | _ => Bad 6 Oper o
theorem vcSeqF_eq (T : Tab) (C : Cons) (I : Inl) (fx : Env) (all : List Oper) : ∀ (r : List Oper) (σ : St) (k : St → Prop), vcSeqF T C I fx all r σ k = vcSeq T C I fx all r σ k
  | [], _, _ => rfl
  | o :: r, σ, k => by
    have ih := vcSeqF_eq T C I fx all r
    simp only [vcSeqF, vcSeq, runOpF_eq, envF_eq, ih]
    try rfl
def vcDrawF (T : Tab) (C : Cons) (all : List Oper) (ancs : List Nat) (ks : Nat → List Nat) : List Oper → Nat → St → List LE → (St → Prop) → Prop
  | [], _, σ, _, k => k σ
  | o :: r, i, σ, L, k => match incDst ancs i 0 all with
    | ds => match dstOk o.dst ds with
      | false => Bad 7 Oper o
      | true => fS (maskE ds σ.e) fun e1 => fS (deadK (ks i) (maskH ancs i L σ.H)) fun H1 =>
          let run (σ : St) (e1 : Env) : Prop := match stepC T C e1 H1 σ.n o.op with
            | some ⟨pre, [(none, out)]⟩ => match apartL ancs i out.d L with
              | true => conj pre (fD out.d fun d => updF σ o.dst out fun σ => vcDrawF T C all ancs ks r (i + 1) σ (⟨i, H1, d⟩ :: L) k)
              | false => Bad 8 Oper o
            | _ => Bad 9 Oper o
          match o.guard with
          | none => run σ e1
          | some (g, want) => match opDst all g with
            | none => Bad 10 Oper o
            | some s => match nth .u e1 s with
              | .w (.c (.l x)) => match x == want with
                | true => run σ e1
                | false => envF (putD o.dst (.t []) σ.e) σ fun σ => vcDrawF T C all ancs ks r (i + 1) σ L k
              | .t [] => envF (putD o.dst (.t []) σ.e) σ fun σ => vcDrawF T C all ancs ks r (i + 1) σ L k
              | .w (.c (.b x)) => (x = want → run ⟨put (.w (.c (.l want))) σ.e s, σ.H, σ.n⟩ (put (.w (.c (.l want))) e1 s)) ∧
                  (x = !want → envF (putD o.dst (.t []) (put (.w (.c (.l (!want)))) σ.e s)) σ fun σ => vcDrawF T C all ancs ks r (i + 1) σ L k)
              | _ => Bad 6 Oper o
theorem vcDrawF_eq (T : Tab) (C : Cons) (all : List Oper) (ancs : List Nat) (ks : Nat → List Nat) : ∀ (r : List Oper) (i : Nat) (σ : St) (L : List LE) (k : St → Prop), vcDrawF T C all ancs ks r i σ L k = vcDraw T C all ancs ks r i σ L k
  | [], _, _, _, _ => rfl
  | o :: r, i, σ, L, k => by
    have ih := vcDrawF_eq T C all ancs ks r
    simp only [vcDrawF, vcDraw, fS_eq, fD_eq, updF_eq, envF_eq, ih]
    try rfl
def loopVCF (fx : Env) (la : LA) (σ : St) (body : (St → Prop) → St → Prop) : Prop :=
  force (St.mk (keepE (app (varSlots la.vars) la.keep) 0 σ.e) σ.H σ.n) fun τ => ∃ (inv : Over Prop la.vars) (μ : Over Nat la.vars),
    oneV τ σ la.vars inv (fun τ' p => okFit (fit fx τ' σ) fun _ => p) ∧
    oneV τ σ la.vars inv (fun τ' _ => match fit fx τ' σ with
      | some (_, m) => fM m fun m => allV τ la.vars (pair la.vars inv μ) (fun τ' r => r.1 → force (cut m τ') fun h => body (fun σ' =>
          oneV τ σ' la.vars (pair la.vars inv μ) (fun τ'' r' => force (cut m τ'') fun τc => okFit (fit fx τc σ') fun m' => match cover m' 0 (keepH m 0 τ''.H) with | true => r'.1 ∧ r'.2 < r.2 | false => Bad 2 Nat 0)) h)
      | none => Bad 3 St τ')
def joinVCF (fx : Env) (la : LA) (σ : St) (one : (St → Prop) → St → Prop) (two : St → Prop) : Prop :=
  force (St.mk (keepE (app (varSlots la.vars) la.keep) 0 σ.e) σ.H σ.n) fun τ => ∃ inv : Over Prop la.vars,
    oneV τ σ la.vars inv (fun τ' _ => match fit fx τ' σ with
      | some (_, m) => fM m fun m => one (fun σ' => oneV τ σ' la.vars inv (fun τ'' r => force (cut m τ'') fun τc => okFit (fit fx τc σ') fun m' => match cover m' 0 (keepH m 0 τ''.H) with | true => r | false => Bad 2 Nat 0)) σ ∧
          allV τ la.vars inv (fun τ'' r => r → force (cut m τ'') fun h => two h)
      | none => Bad 3 St τ')
theorem joinVCF_eq (fx : Env) (la : LA) (σ : St) (one : (St → Prop) → St → Prop) (two : St → Prop) : joinVCF fx la σ one two = joinVC fx la σ one two := by
  unfold joinVCF joinVC
  simp only [force_eq, fM_eq]
  try rfl
theorem loopVCF_eq (fx : Env) (la : LA) (σ : St) (body : (St → Prop) → St → Prop) : loopVCF fx la σ body = loopVC fx la σ body := by
  unfold loopVCF loopVC
  simp only [force_eq, fM_eq]
  try rfl
theorem lit_eq (σ : St) (c : Operand) (x : Bool) : (⟨(lit σ c x).e, σ.H, σ.n⟩ : St) = lit σ c x := by cases c <;> rfl
def vcCodeF (T : Tab) (C : Cons) (I : Inl) (A : List (Nat × LA)) (fx : Env) : Code → Kont → St → Prop
  | .skip, K, σ => K.norm σ
  | .seq a b, K, σ => match firstR b with
    | some i => match lk A (i + 1000000) with
      | some la => joinVCF fx la σ (fun k σ => vcCodeF T C I A fx a ⟨k, K.ret, K.ex⟩ σ) (fun σ => vcCodeF T C I A fx b K σ)
      | none => vcCodeF T C I A fx a ⟨fun σ => vcCodeF T C I A fx b K σ, K.ret, K.ex⟩ σ
    | none => vcCodeF T C I A fx a ⟨fun σ => vcCodeF T C I A fx b K σ, K.ret, K.ex⟩ σ
  | .cond c a b, K, σ => match ev σ.e c with
    | .w (.c (.l true)) => vcCodeF T C I A fx a K σ
    | .w (.c (.l false)) => vcCodeF T C I A fx b K σ
    | .w (.c (.b x)) => (x = true → fS (lit σ c true).e fun e => vcCodeF T C I A fx a K ⟨e, σ.H, σ.n⟩) ∧ (x = false → fS (lit σ c false).e fun e => vcCodeF T C I A fx b K ⟨e, σ.H, σ.n⟩)
    | _ => Bad 12 Operand c
  | .block i c, K, σ => vcCodeF T C I A fx c ⟨K.norm, K.ret, (i, K.norm) :: K.ex⟩ σ
  | .exit i, K, σ => match lk K.ex i with
    | some k => k σ
    | none => Bad 13 Nat i
  | .loop c, K, σ => match firstR c with
    | some i => match lk A i with
      | some la => loopVCF fx la σ (fun k σ => vcCodeF T C I A fx c ⟨k, K.ret, K.ex⟩ σ)
      | none => Bad 14 Nat i
    | none => Bad 15 Nat 0
  | .ret, K, σ => K.ret σ
  | .region _ ops false, K, σ => vcSeqF T C I fx ops.toList ops.toList σ K.norm
  | .region _ ops true, K, σ => match ancsGo ops.toList [] with
    | some ancs => match hasStore ops.toList with
      | true => vcDrawF T C ops.toList ancs (fun i => stKeys ancs σ.e i 0 ops.toList) ops.toList 0 σ [] K.norm
      | false => vcDrawF T C ops.toList ancs (fun _ => []) ops.toList 0 σ [] K.norm
    | none => Bad 16 Nat 0
  | _, _, _ => Bad 17 Nat 0
theorem vcCodeF_eq (T : Tab) (C : Cons) (I : Inl) (A : List (Nat × LA)) (fx : Env) : ∀ (c : Code) (K : Kont) (σ : St), vcCodeF T C I A fx c K σ = vcCode T C I A fx c K σ
  | .skip, _, _ => rfl
  | .seq a b, K, σ => by (simp only [vcCodeF, vcCode, vcCodeF_eq T C I A fx a, vcCodeF_eq T C I A fx b, joinVCF_eq]; try rfl)
  | .cond c a b, K, σ => by (simp only [vcCodeF, vcCode, vcCodeF_eq T C I A fx a, vcCodeF_eq T C I A fx b, fS_eq, lit_eq]; try rfl)
  | .block i c, K, σ => by (simp only [vcCodeF, vcCode, vcCodeF_eq T C I A fx c]; try rfl)
  | .exit i, K, σ => rfl
  | .loop c, K, σ => by (simp only [vcCodeF, vcCode, vcCodeF_eq T C I A fx c, loopVCF_eq]; try rfl)
  | .ret, _, _ => rfl
  | .region _ ops false, K, σ => by (simp only [vcCodeF, vcCode, vcSeqF_eq]; try rfl)
  | .region _ ops true, K, σ => by (simp only [vcCodeF, vcCode, vcDrawF_eq]; try rfl)
  | .rangeFunc _ _ _ _, _, _ => rfl
  | .scope _, _, _ => rfl
  | .label _, _, _ => rfl
  | .goto _, _, _ => rfl
  | .refuse _, _, _ => rfl
def enterF (T : Tab) (vc : List (Nat × LA) → Env → Code → Kont → St → Prop) (en : InlE) (fx : Env) (args : List SV) (σ : St) (k : SV → St → Prop) : Prop := match en.fn.body with
  | some c => fE (maskX σ.e) fun e0 => match (fun σ' : St => match resWs T σ' en.fn.results.toList with
        | some ws => k (resSV ws) ⟨e0, σ'.H, σ'.n⟩
        | none => Bad 21 Nat 0) with
      | R => force ⟨app args (pad (en.fn.ntmps - len args)), σ.H, σ.n⟩ fun σ => vc en.A (app e0 fx) c ⟨R, R, []⟩ σ
  | none => Bad 22 Nat 0
theorem enterF_eq (T : Tab) (vc : List (Nat × LA) → Env → Code → Kont → St → Prop) (en : InlE) : enterF T vc en = enter T vc en := by
  funext fx args σ k
  unfold enterF enter
  simp only [fE_eq, force_eq]
  try rfl
noncomputable def vcLevF (T : Tab) (C : Cons) (Is : Inls) : Nat → Inl
  | 0 => fun _ => none
  | d + 1 => fun g => match lk Is g with
    | some en => some (enterF T (fun A fx c K σ => vcCodeF T C (vcLevF T C Is d) A fx c K σ) en)
    | none => none
theorem vcLevF_eq (T : Tab) (C : Cons) (Is : Inls) : ∀ d, vcLevF T C Is d = vcLev T C Is d
  | 0 => rfl
  | d + 1 => by
    funext g
    simp only [vcLevF, vcLev, vcLevF_eq T C Is d, enterF_eq, vcCodeF_eq]
    try rfl
def vcFnF (T : Tab) (C : Cons) (Is : Inls) (A : List (Nat × LA)) (fn : Func) (con : Con) : Prop := match fn.body with
  | some c => allArgs con.ps [] [] con.run fun e H r => imp r.pre (force ⟨app e (pad (fn.ntmps - len e)), H, len H⟩ fun σ => vcCodeF T C (vcLevF T C Is 4) A [] c ⟨retK T fn.results.toList r.alts, retK T fn.results.toList r.alts, []⟩ σ)
  | none => False
theorem vcFnF_eq (T : Tab) (C : Cons) (Is : Inls) (A : List (Nat × LA)) (fn : Func) (con : Con) : vcFnF T C Is A fn con = vcFnI T C Is A fn con := by
  unfold vcFnF vcFnI
  simp only [force_eq, vcLevF_eq, vcCodeF_eq]
  try rfl
section
variable {P : Program} {T : Tab}
theorem toldI {C : Cons} {Is : Inls} {A : List (Nat × LA)} {f : Nat} {fn : Func} {con : Con} (hT : TabOk P T) (hP : P.follows .mixedOrders = true) (hC : CsOk P C) (hIs : InlsOk P Is) (hf : P.funcs[f]? = some fn) (hn : (fn.name == "runtime.NumGoroutine") = false) {p : Prop} (e : vcFnF T C Is A fn con = p) (h : p) : Told P f con :=
  toldI0 hT hP hC hIs hf hn ((vcFnF_eq T C Is A fn con).symm.trans e) h
theorem told {C : Cons} {A : List (Nat × LA)} {f : Nat} {fn : Func} {con : Con} (hT : TabOk P T) (hP : P.follows .mixedOrders = true) (hC : CsOk P C) (hf : P.funcs[f]? = some fn) (hn : (fn.name == "runtime.NumGoroutine") = false) {p : Prop} (e : vcFnF T C [] A fn con = p) (h : p) : Told P f con :=
  toldI hT hP hC inlsOk_nil hf hn e h
end
end Go.Eng
