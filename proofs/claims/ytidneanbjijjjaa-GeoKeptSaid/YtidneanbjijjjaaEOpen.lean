/- The engine: EForce, ELaw, EOpen. -/
import Derived.Test.YtidneanbjijjjaaEFn
import Derived.WalkKit
import Derived.ProofKit
import Derived.OpenShut
import Derived.ChangeOld
import Derived.SizedLaws
/- The conditions, states reckoned out on the way (the kernel's evaluation is by name): the same conditions. -/
set_option linter.unusedVariables false
set_option linter.unusedSimpArgs false
namespace Go.Eng
open Go Go.RowKit

/-- No elements, with their type (for conditions in print). -/
@[reducible] def nilOf (α : Type) : List α := []
def f16 (n : Nat) (k : Nat → Prop) : Prop := match n with
  | 0 => k 0 | 1 => k 1 | 2 => k 2 | 3 => k 3 | 4 => k 4 | 5 => k 5 | 6 => k 6 | 7 => k 7 | 8 => k 8 | 9 => k 9 | 10 => k 10 | 11 => k 11 | 12 => k 12 | 13 => k 13 | 14 => k 14 | 15 => k 15
  | m => k m
theorem f16_eq (n : Nat) (k : Nat → Prop) : f16 n k = k n := by
  unfold f16
  split <;> rfl
def fN (n : Nat) (k : Nat → Prop) : Prop := f16 (n / 16) fun a => f16 (n % 16) fun b => k (16 * a + b)
theorem fN_eq (n : Nat) (k : Nat → Prop) : fN n k = k n := by
  unfold fN
  rw [f16_eq, f16_eq, Nat.div_add_mod]
def fC : SC → (SC → Prop) → Prop
  | .u, k => k .u
  | .i n, k => k (.i n)
  | .b x, k => k (.b x)
  | .l true, k => k (.l true)
  | .l false, k => k (.l false)
  | .p i o, k => k (.p i o)
  | .el i x s o, k => k (.el i x s o)
  | .fs i, k => k (.fs i)
  | .s i l n s, k => k (.s i l n s)
  | .nls, k => k .nls
  | .nlp, k => k .nlp
  | .fn f, k => k (.fn f)
  | .m i, k => k (.m i)
  | .st i n, k => k (.st i n)
theorem fC_eq (c : SC) (k : SC → Prop) : fC c k = k c := by
  cases c with
  | l x => cases x <;> rfl
  | _ => rfl
def fL : List SC → (List SC → Prop) → Prop
  | [], k => k []
  | c :: l, k => fC c fun c => fL l fun l => k (c :: l)
theorem fL_eq : ∀ (l : List SC) (k : List SC → Prop), fL l k = k l
  | [], _ => rfl
  | c :: l, k => by simp only [fL, fC_eq, fL_eq l]
def fW : SW → (SW → Prop) → Prop
  | .c x, k => fC x fun x => k (.c x)
  | .g l, k => fL l fun l => k (.g l)
theorem fW_eq (s : SW) (k : SW → Prop) : fW s k = k s := by cases s <;> simp only [fW, fC_eq, fL_eq]
def fWs : List SW → (List SW → Prop) → Prop
  | [], k => k []
  | c :: l, k => fW c fun c => fWs l fun l => k (c :: l)
theorem fWs_eq : ∀ (l : List SW) (k : List SW → Prop), fWs l k = k l
  | [], _ => rfl
  | c :: l, k => by simp only [fWs, fW_eq, fWs_eq l]
def fV : SV → (SV → Prop) → Prop
  | .w x, k => fW x fun x => k (.w x)
  | .t l, k => fWs l fun l => k (.t l)
theorem fV_eq (s : SV) (k : SV → Prop) : fV s k = k s := by cases s <;> simp only [fV, fW_eq, fWs_eq]
def fE : Env → (Env → Prop) → Prop
  | [], k => k []
  | c :: l, k => fV c fun c => fE l fun l => k (c :: l)
theorem fE_eq : ∀ (l : Env) (k : Env → Prop), fE l k = k l
  | [], _ => rfl
  | c :: l, k => by simp only [fE, fV_eq, fE_eq l]
def fB : HB → (HB → Prop) → Prop
  | .dead, k => k .dead
  | .cells o ty l, k => fL l fun l => k (.cells o ty l)
  | .arr kk e true xs, k => k (.arr kk e true xs)
  | .arr kk e false xs, k => k (.arr kk e false xs)
  | .map kk f, k => k (.map kk f)
  | .hole fk e xs ix c, k => fC c fun c => k (.hole fk e xs ix c)
  | .pre fk ys c, k => k (.pre fk ys c)
  | .room e rows ix c, k => fC c fun c => k (.room e rows ix c)
theorem fB_eq (s : HB) (k : HB → Prop) : fB s k = k s := by
  cases s with
  | dead => rfl
  | cells o ty l => simp only [fB, fL_eq]
  | arr kk e o xs => cases o <;> rfl
  | map kk f => rfl
  | hole fk e xs ix c => simp only [fB, fC_eq]
  | pre fk ys c => rfl
  | room e rows ix c => simp only [fB, fC_eq]
def fH : Heap → (Heap → Prop) → Prop
  | [], k => k []
  | c :: l, k => fB c fun c => fH l fun l => k (c :: l)
theorem fH_eq : ∀ (l : Heap) (k : Heap → Prop), fH l k = k l
  | [], _ => rfl
  | c :: l, k => by simp only [fH, fB_eq, fH_eq l]
def fD : List (Nat × HB) → (List (Nat × HB) → Prop) → Prop
  | [], k => k []
  | (i, c) :: l, k => fN i fun i => fB c fun c => fD l fun l => k ((i, c) :: l)
theorem fD_eq : ∀ (l : List (Nat × HB)) (k : List (Nat × HB) → Prop), fD l k = k l
  | [], _ => rfl
  | (i, c) :: l, k => by simp only [fD, fN_eq, fB_eq, fD_eq l]
def fM : Srcs → (Srcs → Prop) → Prop
  | [], k => k []
  | (i, c) :: l, k => fN i fun i => fC c fun c => fM l fun l => k ((i, c) :: l)
theorem fM_eq : ∀ (l : Srcs) (k : Srcs → Prop), fM l k = k l
  | [], _ => rfl
  | (i, c) :: l, k => by simp only [fM, fN_eq, fC_eq, fM_eq l]
def force (σ : St) (k : St → Prop) : Prop := fE σ.e fun e => fH σ.H fun H => fN σ.n fun n => k ⟨e, H, n⟩
theorem force_eq (σ : St) (k : St → Prop) : force σ k = k σ := by simp only [force, fE_eq, fH_eq, fN_eq]

/-- A list's spine alone. -/
noncomputable def fS {α : Type} (l : List α) : (List α → Prop) → Prop := List.rec (motive := fun _ => (List α → Prop) → Prop) (fun k => k []) (fun x _ ih k => ih fun l => k (x :: l)) l
theorem fS_eq {α : Type} : ∀ (l : List α) (k : List α → Prop), fS l k = k l
  | [], _ => rfl
  | x :: l, k => fS_eq l fun l => k (x :: l)
noncomputable def updF (σ : St) (d : Option Tmp) (o : Out) (k : St → Prop) : Prop := fV o.v fun v => fS (putD d v σ.e) fun e => match o.d with
  | [] => fN o.n fun n => k ⟨e, σ.H, n⟩
  | x :: l => fD (x :: l) fun dl => fS (applyL σ.H dl) fun H => fN o.n fun n => k ⟨e, H, n⟩
theorem updF_eq (σ : St) (d : Option Tmp) (o : Out) (k : St → Prop) : updF σ d o k = k (σ.upd d o) := by
  obtain ⟨v, dl, n, c⟩ := o
  cases dl with
  | nil => simp only [updF, fV_eq, fS_eq, fN_eq, St.upd, applyL]
  | cons x l => simp only [updF, fV_eq, fS_eq, fN_eq, fD_eq, St.upd]
noncomputable def envF (e : Env) (σ : St) (k : St → Prop) : Prop := fS e fun e => k ⟨e, σ.H, σ.n⟩
theorem envF_eq (e : Env) (σ : St) (k : St → Prop) : envF e σ k = k ⟨e, σ.H, σ.n⟩ := by simp only [envF, fS_eq]
noncomputable def allAltsF (σ : St) (d : Option Tmp) (k : St → Prop) : List (Option Prop × Out) → Prop
  | [] => True
  | [(h, o)] => imp h (updF σ d o k)
  | (h, o) :: l => imp h (updF σ d o k) ∧ allAltsF σ d k l
theorem allAltsF_eq (σ : St) (d : Option Tmp) (k : St → Prop) : ∀ l, allAltsF σ d k l = allAlts σ d k l
  | [] => rfl
  | [(h, o)] => by simp only [allAltsF, allAlts, updF_eq]
  | (h, o) :: x :: l => by
    have := allAltsF_eq σ d k (x :: l)
    simp only [allAltsF, allAlts, updF_eq] at this ⊢
    rw [this]
def runCF (T : Tab) (C : Cons) (σ : St) (o : Oper) (k : St → Prop) : Prop := match stepC T C σ.e σ.H σ.n o.op with
  | some g => conj g.pre (allAltsF σ o.dst k g.alts)
  | none => Bad 4 Oper o
theorem runCF_eq (T : Tab) (C : Cons) (σ : St) (o : Oper) (k : St → Prop) : runCF T C σ o k = runC T C σ o k := by
  unfold runCF runC
  simp only [allAltsF_eq]
  try rfl
def runOpF (T : Tab) (C : Cons) (I : Inl) (fx : Env) (σ : St) (o : Oper) (k : St → Prop) : Prop := match callee σ.e o.op with
  | some (g, args) => match I g with
    | some r => r fx args σ fun v σ' => fV v fun v => envF (putD o.dst v σ'.e) σ' k
    | none => runCF T C σ o k
  | none => runCF T C σ o k
theorem runOpF_eq (T : Tab) (C : Cons) (I : Inl) (fx : Env) (σ : St) (o : Oper) (k : St → Prop) : runOpF T C I fx σ o k = runOp T C I fx σ o k := by
  unfold runOpF runOp
  simp only [fV_eq, envF_eq, runCF_eq]
  try rfl
def vcSeqF (T : Tab) (C : Cons) (I : Inl) (fx : Env) (all : List Oper) : List Oper → St → (St → Prop) → Prop
  | [], σ, k => k σ
  | o :: r, σ, k => match o.guard with
    | none => runOpF T C I fx σ o fun σ => vcSeqF T C I fx all r σ k
    | some (g, want) => match opDst all g with
      | none => Bad 5 Oper o
      | some s => match nth .u σ.e s with
        | .w (.c (.l x)) => match x == want with
          | true => runOpF T C I fx σ o fun σ => vcSeqF T C I fx all r σ k
          | false => envF (putD o.dst (.t []) σ.e) σ fun σ => vcSeqF T C I fx all r σ k
        | .t [] => envF (putD o.dst (.t []) σ.e) σ fun σ => vcSeqF T C I fx all r σ k
        | .w (.c (.b x)) => (x = want → envF (put (.w (.c (.l want))) σ.e s) σ fun σ => runOpF T C I fx σ o fun σ => vcSeqF T C I fx all r σ k) ∧
            (x = !want → envF (putD o.dst (.t []) (put (.w (.c (.l (!want)))) σ.e s)) σ fun σ => vcSeqF T C I fx all r σ k)
        | _ => Bad 6 Oper o
theorem vcSeqF_eq (T : Tab) (C : Cons) (I : Inl) (fx : Env) (all : List Oper) : ∀ (r : List Oper) (σ : St) (k : St → Prop), vcSeqF T C I fx all r σ k = vcSeq T C I fx all r σ k
  | [], _, _ => rfl
  | o :: r, σ, k => by
    have ih := vcSeqF_eq T C I fx all r
    simp only [vcSeqF, vcSeq, runOpF_eq, envF_eq, ih]
    try rfl
def vcDrawF (T : Tab) (C : Cons) (all : List Oper) (ancs : List Nat) (ks : Nat → Env → List Nat) : List Oper → Nat → St → List LE → (St → Prop) → Prop
  | [], _, σ, _, k => k σ
  | o :: r, i, σ, L, k => match incDst ancs i 0 all with
    | ds => match dstOk o.dst ds with
      | false => Bad 7 Oper o
      | true => fS (maskE ds σ.e) fun e1 => fS (deadK (ks i (maskE ds σ.e)) (maskH ancs i L σ.H)) fun H1 =>
          let run (σ : St) (e1 : Env) : Prop := match stepC T C e1 H1 σ.n o.op with
            | some ⟨pre, [(none, out)]⟩ => match apartL ancs i out.d L with
              | true => conj pre (fD out.d fun d => updF σ o.dst out fun σ => vcDrawF T C all ancs ks r (i + 1) σ (⟨i, H1, d⟩ :: L) k)
              | false => Bad 8 Oper o
            | _ => Bad 9 Oper o
          match o.guard with
          | none => run σ e1
          | some (g, want) => match opDst all g with
            | none => Bad 10 Oper o
            | some s => match nth .u e1 s with
              | .w (.c (.l x)) => match x == want with
                | true => run σ e1
                | false => envF (putD o.dst (.t []) σ.e) σ fun σ => vcDrawF T C all ancs ks r (i + 1) σ L k
              | .t [] => envF (putD o.dst (.t []) σ.e) σ fun σ => vcDrawF T C all ancs ks r (i + 1) σ L k
              | .w (.c (.b x)) => (x = want → run ⟨put (.w (.c (.l want))) σ.e s, σ.H, σ.n⟩ (put (.w (.c (.l want))) e1 s)) ∧
                  (x = !want → envF (putD o.dst (.t []) (put (.w (.c (.l (!want)))) σ.e s)) σ fun σ => vcDrawF T C all ancs ks r (i + 1) σ L k)
              | _ => Bad 6 Oper o
theorem vcDrawF_eq (T : Tab) (C : Cons) (all : List Oper) (ancs : List Nat) (ks : Nat → Env → List Nat) : ∀ (r : List Oper) (i : Nat) (σ : St) (L : List LE) (k : St → Prop), vcDrawF T C all ancs ks r i σ L k = vcDraw T C all ancs ks r i σ L k
  | [], _, _, _, _ => rfl
  | o :: r, i, σ, L, k => by
    have ih := vcDrawF_eq T C all ancs ks r
    simp only [vcDrawF, vcDraw, fS_eq, fD_eq, updF_eq, envF_eq, ih]
    try rfl
def loopVCF (fx : Env) (la : LA) (σ : St) (body : (St → Prop) → St → Prop) : Prop :=
  force (St.mk (keepE (app (varSlots la.vars) la.keep) 0 σ.e) σ.H σ.n) fun τ => ∃ (inv : Over Prop la.vars) (μ : Over Nat la.vars),
    oneV τ σ la.vars inv (fun τ' p => okFit (fit fx τ' σ) fun _ => p) ∧
    oneV τ σ la.vars inv (fun τ' _ => match fit fx τ' σ with
      | some (_, m) => fM m fun m => allV τ la.vars (pair la.vars inv μ) (fun τ' r => r.1 → force (cut m τ') fun h => body (fun σ' =>
          oneV τ σ' la.vars (pair la.vars inv μ) (fun τ'' r' => force (cut m τ'') fun τc => okFit (fit fx τc σ') fun m' => match cover m' 0 (keepH m 0 τ''.H) with | true => r'.1 ∧ r'.2 < r.2 | false => Bad 2 Nat 0)) h)
      | none => Bad 3 St τ')
def joinVCF (fx : Env) (la : LA) (σ : St) (one : (St → Prop) → St → Prop) (two : St → Prop) : Prop :=
  force (St.mk (keepE (app (varSlots la.vars) la.keep) 0 σ.e) σ.H σ.n) fun τ => ∃ inv : Over Prop la.vars,
    oneV τ σ la.vars inv (fun τ' _ => match fit fx τ' σ with
      | some (_, m) => fM m fun m => one (fun σ' => oneV τ σ' la.vars inv (fun τ'' r => force (cut m τ'') fun τc => okFit (fit fx τc σ') fun m' => match cover m' 0 (keepH m 0 τ''.H) with | true => r | false => Bad 2 Nat 0)) σ ∧
          allV τ la.vars inv (fun τ'' r => r → force (cut m τ'') fun h => two h)
      | none => Bad 3 St τ')
theorem joinVCF_eq (fx : Env) (la : LA) (σ : St) (one : (St → Prop) → St → Prop) (two : St → Prop) : joinVCF fx la σ one two = joinVC fx la σ one two := by
  unfold joinVCF joinVC
  simp only [force_eq, fM_eq]
  try rfl
theorem loopVCF_eq (fx : Env) (la : LA) (σ : St) (body : (St → Prop) → St → Prop) : loopVCF fx la σ body = loopVC fx la σ body := by
  unfold loopVCF loopVC
  simp only [force_eq, fM_eq]
  try rfl
theorem lit_eq (σ : St) (c : Operand) (x : Bool) : (⟨(lit σ c x).e, σ.H, σ.n⟩ : St) = lit σ c x := by cases c <;> rfl
def ghostVCF (A : List (Nat × LA)) (i : Nat) (σ : St) (k : St → Prop) : Prop := match lk A (i + 2000000) with
  | some la => ghosts la.vars σ fun σ => force σ k
  | none => k σ
theorem ghostVCF_eq (A : List (Nat × LA)) (i : Nat) (σ : St) (k : St → Prop) : ghostVCF A i σ k = ghostVC A i σ k := by
  unfold ghostVCF ghostVC
  simp only [force_eq]
  try rfl
def vcCodeF (T : Tab) (C : Cons) (I : Inl) (A : List (Nat × LA)) (fx : Env) : Code → Kont → St → Prop
  | .skip, K, σ => K.norm σ
  | .seq a b, K, σ => match firstR b with
    | some i => match lk A (i + 1000000) with
      | some la => joinVCF fx la σ (fun k σ => vcCodeF T C I A fx a ⟨k, K.ret, K.ex⟩ σ) (fun σ => vcCodeF T C I A fx b K σ)
      | none => vcCodeF T C I A fx a ⟨fun σ => vcCodeF T C I A fx b K σ, K.ret, K.ex⟩ σ
    | none => vcCodeF T C I A fx a ⟨fun σ => vcCodeF T C I A fx b K σ, K.ret, K.ex⟩ σ
  | .cond c a b, K, σ => match ev σ.e c with
    | .w (.c (.l true)) => vcCodeF T C I A fx a K σ
    | .w (.c (.l false)) => vcCodeF T C I A fx b K σ
    | .w (.c (.b x)) => (x = true → fS (lit σ c true).e fun e => vcCodeF T C I A fx a K ⟨e, σ.H, σ.n⟩) ∧ (x = false → fS (lit σ c false).e fun e => vcCodeF T C I A fx b K ⟨e, σ.H, σ.n⟩)
    | _ => Bad 12 Operand c
  | .block i c, K, σ => vcCodeF T C I A fx c ⟨K.norm, K.ret, (i, K.norm) :: K.ex⟩ σ
  | .exit i, K, σ => match lk K.ex i with
    | some k => k σ
    | none => Bad 13 Nat i
  | .loop c, K, σ => match firstR c with
    | some i => match lk A i with
      | some la => loopVCF fx la σ (fun k σ => vcCodeF T C I A fx c ⟨k, K.ret, K.ex⟩ σ)
      | none => Bad 14 Nat i
    | none => Bad 15 Nat 0
  | .ret, K, σ => K.ret σ
  | .region i ops false, K, σ => ghostVCF A i σ fun σ => vcSeqF T C I fx ops.toList ops.toList σ fun σ => ghostVCF A (i + 1000000) σ K.norm
  | .region i ops true, K, σ => ghostVCF A i σ fun σ => match mapInc ops.toList with
    | some mi => match incSt T σ mi with
      | some σ' => force σ' K.norm
      | none => Bad 24 Nat 0
    | none => match ancsGo ops.toList [] with
      | some ancs => match lastWalk I ancs ops.toList with
        | some (x, o) => vcDrawF T C ops.toList ancs (fun _ _ => []) x 0 σ [] (fun σ => runOpF T C I fx σ o K.norm)
        | none => match hasStore ops.toList with
          | true => vcDrawF T C ops.toList ancs (fun i e => app (opKeys (len σ.H) e i ops.toList) (stKeys ancs σ.e i 0 ops.toList)) ops.toList 0 σ [] K.norm
          | false => vcDrawF T C ops.toList ancs (fun _ _ => []) ops.toList 0 σ [] K.norm
      | none => Bad 16 Nat 0
  | _, _, _ => Bad 17 Nat 0
theorem vcCodeF_eq (T : Tab) (C : Cons) (I : Inl) (A : List (Nat × LA)) (fx : Env) : ∀ (c : Code) (K : Kont) (σ : St), vcCodeF T C I A fx c K σ = vcCode T C I A fx c K σ
  | .skip, _, _ => rfl
  | .seq a b, K, σ => by (simp only [vcCodeF, vcCode, vcCodeF_eq T C I A fx a, vcCodeF_eq T C I A fx b, joinVCF_eq]; try rfl)
  | .cond c a b, K, σ => by (simp only [vcCodeF, vcCode, vcCodeF_eq T C I A fx a, vcCodeF_eq T C I A fx b, fS_eq, lit_eq]; try rfl)
  | .block i c, K, σ => by (simp only [vcCodeF, vcCode, vcCodeF_eq T C I A fx c]; try rfl)
  | .exit i, K, σ => rfl
  | .loop c, K, σ => by (simp only [vcCodeF, vcCode, vcCodeF_eq T C I A fx c, loopVCF_eq]; try rfl)
  | .ret, _, _ => rfl
  | .region _ ops false, K, σ => by (simp only [vcCodeF, vcCode, vcSeqF_eq, ghostVCF_eq]; try rfl)
  | .region _ ops true, K, σ => by (simp only [vcCodeF, vcCode, vcDrawF_eq, runOpF_eq, force_eq, ghostVCF_eq]; try rfl)
  | .rangeFunc _ _ _ _, _, _ => rfl
  | .scope _, _, _ => rfl
  | .label _, _, _ => rfl
  | .goto _, _, _ => rfl
  | .refuse _, _, _ => rfl
def enterF (T : Tab) (vc : List (Nat × LA) → Env → Code → Kont → St → Prop) (en : InlE) (fx : Env) (args : List SV) (σ : St) (k : SV → St → Prop) : Prop := match en.fn.body with
  | some c => fE (maskX σ.e) fun e0 => match (fun σ' : St => match resWs T σ' en.fn.results.toList with
        | some ws => k (resSV ws) ⟨e0, σ'.H, σ'.n⟩
        | none => Bad 21 Nat 0) with
      | R => force ⟨app args (pad (en.fn.ntmps - len args)), σ.H, σ.n⟩ fun σ => vc en.A (app e0 fx) c ⟨R, R, []⟩ σ
  | none => Bad 22 Nat 0
theorem enterF_eq (T : Tab) (vc : List (Nat × LA) → Env → Code → Kont → St → Prop) (en : InlE) : enterF T vc en = enter T vc en := by
  funext fx args σ k
  unfold enterF enter
  simp only [fE_eq, force_eq]
  try rfl
noncomputable def vcLevF (T : Tab) (C : Cons) (Is : Inls) : Nat → Inl
  | 0 => fun _ => none
  | d + 1 => fun g => match lk Is g with
    | some en => some (enterF T (fun A fx c K σ => vcCodeF T C (vcLevF T C Is d) A fx c K σ) en)
    | none => none
theorem vcLevF_eq (T : Tab) (C : Cons) (Is : Inls) : ∀ d, vcLevF T C Is d = vcLev T C Is d
  | 0 => rfl
  | d + 1 => by
    funext g
    simp only [vcLevF, vcLev, vcLevF_eq T C Is d, enterF_eq, vcCodeF_eq]
    try rfl
def vcFnF (T : Tab) (C : Cons) (Is : Inls) (A : List (Nat × LA)) (fn : Func) (con : Con) : Prop := match fn.body with
  | some c => allArgs con.ps [] [] con.run fun e H r => imp r.pre (force ⟨app e (pad (fn.ntmps - len e)), H, len H⟩ fun σ => fE (fxOf r.alts e) fun fx => vcCodeF T C (vcLevF T C Is 4) A fx c ⟨retK T fx fn.results.toList r.alts, retK T fx fn.results.toList r.alts, []⟩ σ)
  | none => False
theorem vcFnF_eq (T : Tab) (C : Cons) (Is : Inls) (A : List (Nat × LA)) (fn : Func) (con : Con) : vcFnF T C Is A fn con = vcFnI T C Is A fn con := by
  unfold vcFnF vcFnI
  simp only [force_eq, fE_eq, vcLevF_eq, vcCodeF_eq]
  try rfl
section
variable {P : Program} {T : Tab}
theorem toldI {C : Cons} {Is : Inls} {A : List (Nat × LA)} {f : Nat} {fn : Func} {con : Con} (hT : TabOk P T) (hP : P.follows .mixedOrders = true) (hC : CsOk P C) (hIs : InlsOk P Is) (hf : P.funcs[f]? = some fn) (hn : (fn.name == "runtime.NumGoroutine") = false) {p : Prop} (e : vcFnF T C Is A fn con = p) (h : p) : Told P f con :=
  toldI0 hT hP hC hIs hf hn ((vcFnF_eq T C Is A fn con).symm.trans e) h
theorem told {C : Cons} {A : List (Nat × LA)} {f : Nat} {fn : Func} {con : Con} (hT : TabOk P T) (hP : P.follows .mixedOrders = true) (hC : CsOk P C) (hf : P.funcs[f]? = some fn) (hn : (fn.name == "runtime.NumGoroutine") = false) {p : Prop} (e : vcFnF T C [] A fn con = p) (h : p) : Told P f con :=
  toldI hT hP hC inlsOk_nil hf hn e h
end
end Go.Eng

/- From what is told of a statement's function to its row. -/
set_option linter.unusedVariables false
set_option linter.unusedSimpArgs false
namespace Go.Eng
open Go Go.RowKit
section
variable {P : Program} {w : World} {fb : Nat → Prop}
def Args : List PK → Type
  | [] => Unit
  | p :: l => p.T × Args l
def appF {R : Type} : (ps : List PK) → Fun ps R → Args ps → R
  | [], r, _ => r
  | _ :: ps, f, x => appF ps (f x.1) x.2
def PDs (w : World) (fb : Nat → Prop) : (ps : List PK) → Args ps → List Value → Prop
  | [], _, [] => True
  | p :: ps, x, v :: vs => PD w fb (p.enc x.1) v ∧ PDs w fb ps x.2 vs
  | _, _, _ => False
theorem allArgs_vals {R : Type} {k : Env → Heap → R → Prop} : ∀ {ps : List PK} {f : Fun ps R} {e : Env} {Hs : Heap} {vs0 vs : List Value} {x : Args ps}, PDs w fb ps x vs → Start fb e Hs vs0 w → allArgs ps e Hs f k → ∃ e' Hs', k e' Hs' (appF ps f x) ∧ Start fb e' Hs' (vs0 ++ vs) w
  | [], f, e, Hs, vs0, vs, x, hd, hs, hk => by
    cases vs with
    | nil => exact ⟨e, Hs, hk, by simpa using hs⟩
    | cons v vs => exact hd.elim
  | p :: ps, f, e, Hs, vs0, vs, x, hd, hs, hk => by
    cases vs with
    | nil => exact hd.elim
    | cons v vs =>
      have hk' := imp_iff.1 (overP_iff.1 hk x.1) (pd_ok hd.1)
      generalize hx : (p.enc x.1).conc (len Hs) = q at hk'
      obtain ⟨s', h'⟩ := q
      obtain ⟨e', Hs', h3, h4⟩ := allArgs_vals hd.2 (start_push hs hd.1 hx) hk'
      exact ⟨e', Hs', h3, by simpa using h4⟩
theorem law_calls {f : Nat} {con : Con} (h : Told P f con) {x : Args con.ps} {vs : List Value} (hx : PDs w (· < w.heap.size) con.ps x vs) {pre : Option Prop} (hr : appF con.ps con.run x = ⟨pre, [⟨none, [.c (.b true)]⟩]⟩) (hp : holdsO pre) :
    Calls P f vs.toArray w fun e w' => e = .returned (.bool true) ∧ Below w.heap.size w w' := by
  obtain ⟨e', Hs', hk, hs⟩ := allArgs_vals hx (start_nil fun _ h => h) h.1
  rw [hr] at hk
  refine Calls.mono (hk _ w vs (by simpa using hs) hp) fun e w' he => ?_
  cases e with
  | panicked c => exact he.elim
  | outgrown => exact he.elim
  | returned v =>
    obtain ⟨a, ha, ⟨_, ρ, φ, hm, hd, _⟩, _⟩ := he
    simp only [List.mem_singleton] at ha
    subst ha
    have hd : v = .bool true := hd
    subst hd
    exact ⟨rfl, hm.below⟩
end
end Go.Eng

/- A statement's arguments, as a row hands them, are parameters' values. -/
set_option linter.unusedVariables false
set_option linter.unusedSimpArgs false
namespace Go.Eng
open Go Go.RowKit Go.ChangeShapes Go.WideShapes
section
variable {H : Type} {enc : TypeId × Value → H} {P : Program} {w : World} {spare : Nat → Bool} {held : Bool}

def InR (n : Int) : Prop := -9223372036854775808 ≤ n ∧ n ≤ 9223372036854775807
def flatR : CV → Prop
  | .i n => InR n
  | _ => True
def cvR : CV → Prop
  | .i n => InR n
  | .b _ => True
  | .sl k xs => ∀ x ∈ xs, ∀ c ∈ k.enc x, flatR c
/-- Numbers in the machine's bounds. -/
def K.inR (k : K) (xs : List k.T) : Prop := ∀ x ∈ xs, ∀ c ∈ k.enc x, cvR c
def acR : AC → Prop
  | .i n => InR n
  | .a k xs => k.inR xs
  | _ => True
def avR : AV → Prop
  | .c x => acR x
  | .r l => ∀ c ∈ l, acR c
  | .p _ _ l => ∀ c ∈ l, acR c

/-- What one datum weighs another one weighs, too. -/
def Wt (P : Program) (u : TypeId) (d : DataW H) (t : TypeId) (d' : DataW H) : Prop := ∀ q ∈ d.weights P u, q ∈ d'.weights P t
def Light (P : Program) (t : TypeId) (d : DataW H) : Prop := ∀ q ∈ d.weights P t, q ≤ reachBytes
theorem Wt.light {u t : TypeId} {d d' : DataW H} (h : Wt P u d t d') (hl : Light P t d') : Light P u d := fun q hq => hl q (h q hq)
theorem weightsAll_mem {e : TypeId} : ∀ {l : List (DataW H)} {d : DataW H} {q : Nat}, d ∈ l → q ∈ d.weights P e → q ∈ DataW.weightsAll P e l
  | [], _, _, h, _ => by cases h
  | x :: l, d, q, h, hq => by
    rw [DataW.weightsAll]
    rcases List.mem_cons.1 h with rfl | h
    · exact List.mem_append_left _ hq
    · exact List.mem_append_right _ (weightsAll_mem h hq)
/-- No list takes more bytes than there are. -/
def K.szd : (k : K) → List k.T → Prop
  | .f k, xs => xs.length * (8 * k.size) ≤ 140737488351232
  | .route, xs => xs.length * 40 ≤ 140737488351232 ∧ ∀ r ∈ xs, (r : Route).stops.length * 16 ≤ 140737488351232
  | .rows k, xs => xs.length * 24 ≤ 140737488351232 ∧ ∀ r ∈ xs, (r : List k.T).length * (8 * k.size) ≤ 140737488351232
def AC.szd : AC → Prop
  | .a k xs => k.szd xs
  | _ => True
def AV.szd : AV → Prop
  | .c x => x.szd
  | .r l => ∀ c ∈ l, c.szd
  | _ => True
/-- The types of a type's cells. -/
def flatGo (P : Program) (rec : TypeId → Option (List TypeId)) : Nat → List Field → Option (List TypeId)
  | _, [] => some []
  | off, f :: fs => match rec f.type with
    | some ts => if f.offset = off ∧ P.cellsOf f.type = ts.length then (match flatGo P rec (off + ts.length) fs with
      | some r => some (ts ++ r)
      | none => none) else none
    | none => none
def flatT (P : Program) : Nat → TypeId → Option (List TypeId)
  | 0, _ => none
  | n + 1, t => match P.underlying t with
    | some (.struct fs) => flatGo P (flatT P n) 0 fs.toList
    | some (.int .i64) => some [t]
    | some .bool => some [t]
    | some (.slice _) => some [t]
    | _ => none

theorem flat_open : ∀ (n : Nat) (t : TypeId) (ts : List TypeId) (fuel : Nat) (cs : List Value) (x : DataW H × List MemPlace), flatT P n t = some ts → DataW.trod enc P w 0 spare held fuel t cs = some x →
    ∀ (j : Nat) u, ts[j]? = some u → ∃ m y, DataW.trod enc P w 0 spare held m u ((cs.drop j).take 1) = some y ∧ Wt P u y.1 t x.1
  | 0, _, _, _, _, _, h, _ => by simp [flatT] at h
  | n + 1, t, ts, fuel, cs, x, h, hx => by
    have leaf : ∀ (v : Value), cs = [v] → some [t] = some ts → ∀ (j : Nat) u, ts[j]? = some u → ∃ m y, DataW.trod enc P w 0 spare held m u ((cs.drop j).take 1) = some y ∧ Wt P u y.1 t x.1 := by
      intro v hv hts j u hj
      injection hts with hts
      subst hts
      match j, hj with
      | 0, hj =>
        simp at hj; subst hj
        exact ⟨fuel, x, by rw [hv] at hx ⊢; exact hx, fun q h => h⟩
      | j + 1, hj => simp at hj
    unfold flatT at h
    split at h
    · rename_i fs hu
      obtain ⟨xs, m, _, hxe, hlen, hxs, hf⟩ := DataW.trod_struct hu hx
      have key : ∀ (l : List Field) (off k : Nat) (r : List TypeId), flatGo P (flatT P n) off l = some r → fs.toList.drop k = l → ∀ (j : Nat) u, r[j]? = some u → ∃ m y, DataW.trod enc P w 0 spare held m u ((cs.drop (off + j)).take 1) = some y ∧ Wt P u y.1 t x.1 := by
        intro l
        induction l with
        | nil => intro off k r hr _ j u hj; simp [flatGo] at hr; subst hr; simp at hj
        | cons f l ih =>
          intro off k r hr hk j u hj
          simp only [flatGo] at hr
          split at hr
          · rename_i ts1 h1
            split at hr
            · rename_i hc
              obtain ⟨hoff, hcell⟩ := hc
              split at hr
              · rename_i r1 hr1
                injection hr with hr
                subst hr
                have hfk : fs[k]? = some f := by
                  have := congrArg (·[0]?) hk
                  simpa using this
                have hfx := hf k f hfk
                have hkx : k < xs.length := by rw [hxs]; exact (Array.getElem?_eq_some_iff.1 hfk).1
                rw [List.getElem?_eq_getElem hkx] at hfx
                by_cases hj1 : j < ts1.length
                · rw [List.getElem?_append_left hj1] at hj
                  obtain ⟨m', y, hy, hwt⟩ := flat_open n f.type ts1 _ _ _ h1 hfx j u hj
                  refine ⟨m', y, ?_, fun q hq => ?_⟩
                  rotate_right
                  · have h2 := hwt q hq
                    rw [hxe]
                    simp only [DataW.weights, hu]
                    refine DataW.weights_mem_each (j := k) (t := f.type) (d := xs[k].1) ?_ ?_ q h2
                    · have : fs.toList[k]? = some f := by simpa using hfk
                      rw [List.getElem?_map, this]; rfl
                    · rw [List.getElem?_map, List.getElem?_eq_getElem hkx]; rfl
                  have e : (((cs.drop f.offset).take (P.cellsOf f.type)).drop j).take 1 = (cs.drop (off + j)).take 1 := by
                    rw [hoff, hcell, List.drop_take, List.take_take, List.drop_drop]
                    congr 1
                    omega
                  rw [e] at hy
                  exact hy
                · rw [List.getElem?_append_right (by omega)] at hj
                  have hk' : fs.toList.drop (k + 1) = l := by
                    rw [← List.drop_drop, hk]; rfl
                  obtain ⟨m', y, hy, hwt⟩ := ih (off + ts1.length) (k + 1) r1 hr1 hk' (j - ts1.length) u hj
                  refine ⟨m', y, ?_, hwt⟩
                  have e : off + ts1.length + (j - ts1.length) = off + j := by omega
                  rw [e] at hy
                  exact hy
              · cases hr
            · cases hr
          · cases hr
      intro j u hj
      obtain ⟨m', y, hy, hwt⟩ := key fs.toList 0 0 ts h rfl j u hj
      rw [Nat.zero_add] at hy
      exact ⟨m', y, hy, hwt⟩
    · rename_i hu
      obtain ⟨v, hv, _⟩ := DataW.trod_int hu hx
      exact leaf _ hv h
    · rename_i hu
      obtain ⟨v, hv, _⟩ := DataW.trod_bool hu hx
      exact leaf _ hv h
    · rename_i e hu
      rcases DataW.trod_slice hu hx with ⟨hv, _⟩ | ⟨a, len, cap, _, _, _, _, hv, _⟩
      · exact leaf _ hv h
      · exact leaf _ hv h
    · cases h
theorem one_at {cs : List Value} {j : Nat} {v : Value} (h : (cs.drop j).take 1 = [v]) : cs[j]? = some v := by
  have := congrArg (·[0]?) h
  simpa using this

/-- Numbers and bools alone. -/
def ckF (P : Program) (t : TypeId) : CK → Bool
  | .i => match P.underlying t with | some (.int .i64) => true | _ => false
  | .b => match P.underlying t with | some .bool => true | _ => false
  | _ => false
def ckFs (P : Program) : List TypeId → List CK → Bool
  | [], [] => true
  | t :: ts, k :: ks => ckF P t k && ckFs P ts ks
  | _, _ => false
theorem ckFs_get : ∀ {ts : List TypeId} {ks : List CK}, ckFs P ts ks = true → ts.length = ks.length ∧ ∀ (j : Nat) t k, ts[j]? = some t → ks[j]? = some k → ckF P t k = true
  | [], [], _ => ⟨rfl, fun j t k h => by simp at h⟩
  | t :: ts, k :: ks, h => by
    simp only [ckFs, Bool.and_eq_true] at h
    obtain ⟨h1, h2⟩ := ckFs_get h.2
    refine ⟨by simp [h1], fun j t' k' ht hk => ?_⟩
    cases j with
    | zero => simp at ht hk; subst ht; subst hk; exact h.1
    | succ j => exact h2 j t' k' (by simpa using ht) (by simpa using hk)
  | [], _ :: _, h => by cases h
  | _ :: _, [], h => by cases h
def ckCV : CK → CV → Prop
  | .i, .i _ => True
  | .b, .b _ => True
  | _, _ => False
theorem all2_i {ks : List CK} {cvs : List CV} (h : All2 ckCV (.i :: ks) cvs) : ∃ n l, cvs = .i n :: l ∧ All2 ckCV ks l := by
  match cvs, h with
  | .i n :: l, h => exact ⟨n, l, rfl, h.2⟩
theorem all2_b {ks : List CK} {cvs : List CV} (h : All2 ckCV (.b :: ks) cvs) : ∃ n l, cvs = .b n :: l ∧ All2 ckCV ks l := by
  match cvs, h with
  | .b n :: l, h => exact ⟨n, l, rfl, h.2⟩
theorem all2_n {cvs : List CV} (h : All2 ckCV [] cvs) : cvs = [] := by
  match cvs, h with
  | [], _ => rfl
theorem fk_make : ∀ {k : FK} {cvs : List CV}, All2 ckCV (SK.f k).cks cvs → ∃ x : k.T, k.enc x = cvs
  | .int, cvs, h => by
    obtain ⟨x0, l0, e0, h⟩ := all2_i h
    have e := all2_n h
    subst e
    subst e0
    exact ⟨x0, rfl⟩
  | .bool, cvs, h => by
    obtain ⟨x0, l0, e0, h⟩ := all2_b h
    have e := all2_n h
    subst e
    subst e0
    exact ⟨x0, rfl⟩
  | .win, cvs, h => by
    obtain ⟨x0, l0, e0, h⟩ := all2_i h
    obtain ⟨x1, l1, e1, h⟩ := all2_i h
    have e := all2_n h
    subst e
    subst e1
    subst e0
    exact ⟨⟨x0, x1⟩, rfl⟩
  | .order, cvs, h => by
    obtain ⟨x0, l0, e0, h⟩ := all2_i h
    obtain ⟨x1, l1, e1, h⟩ := all2_i h
    obtain ⟨x2, l2, e2, h⟩ := all2_i h
    obtain ⟨x3, l3, e3, h⟩ := all2_i h
    obtain ⟨x4, l4, e4, h⟩ := all2_i h
    obtain ⟨x5, l5, e5, h⟩ := all2_i h
    obtain ⟨x6, l6, e6, h⟩ := all2_i h
    obtain ⟨x7, l7, e7, h⟩ := all2_i h
    obtain ⟨x8, l8, e8, h⟩ := all2_i h
    obtain ⟨x9, l9, e9, h⟩ := all2_i h
    have e := all2_n h
    subst e
    subst e9
    subst e8
    subst e7
    subst e6
    subst e5
    subst e4
    subst e3
    subst e2
    subst e1
    subst e0
    exact ⟨⟨x0, x1, x2, x3, x4, x5, x6, x7, x8, x9⟩, rfl⟩
  | .driver, cvs, h => by
    obtain ⟨x0, l0, e0, h⟩ := all2_i h
    obtain ⟨x1, l1, e1, h⟩ := all2_i h
    obtain ⟨x2, l2, e2, h⟩ := all2_i h
    obtain ⟨x3, l3, e3, h⟩ := all2_i h
    obtain ⟨x4, l4, e4, h⟩ := all2_i h
    obtain ⟨x5, l5, e5, h⟩ := all2_b h
    have e := all2_n h
    subst e
    subst e5
    subst e4
    subst e3
    subst e2
    subst e1
    subst e0
    exact ⟨⟨x0, x1, x2, x3, x4, x5⟩, rfl⟩
  | .stop, cvs, h => by
    obtain ⟨x0, l0, e0, h⟩ := all2_i h
    obtain ⟨x1, l1, e1, h⟩ := all2_b h
    have e := all2_n h
    subst e
    subst e1
    subst e0
    exact ⟨⟨x0, x1⟩, rfl⟩
  | .visit, cvs, h => by
    obtain ⟨x0, l0, e0, h⟩ := all2_i h
    obtain ⟨x1, l1, e1, h⟩ := all2_b h
    obtain ⟨x2, l2, e2, h⟩ := all2_i h
    obtain ⟨x3, l3, e3, h⟩ := all2_i h
    obtain ⟨x4, l4, e4, h⟩ := all2_i h
    obtain ⟨x5, l5, e5, h⟩ := all2_i h
    have e := all2_n h
    subst e
    subst e5
    subst e4
    subst e3
    subst e2
    subst e1
    subst e0
    exact ⟨⟨x0, x1, x2, x3, x4, x5⟩, rfl⟩
  | .trouble, cvs, h => by
    obtain ⟨x0, l0, e0, h⟩ := all2_i h
    obtain ⟨x1, l1, e1, h⟩ := all2_i h
    obtain ⟨x2, l2, e2, h⟩ := all2_i h
    have e := all2_n h
    subst e
    subst e2
    subst e1
    subst e0
    exact ⟨⟨x0, x1, x2⟩, rfl⟩
  | .leg, cvs, h => by
    obtain ⟨x0, l0, e0, h⟩ := all2_i h
    obtain ⟨x1, l1, e1, h⟩ := all2_i h
    obtain ⟨x2, l2, e2, h⟩ := all2_i h
    obtain ⟨x3, l3, e3, h⟩ := all2_i h
    obtain ⟨x4, l4, e4, h⟩ := all2_i h
    have e := all2_n h
    subst e
    subst e4
    subst e3
    subst e2
    subst e1
    subst e0
    exact ⟨⟨x0, x1, x2, x3, x4⟩, rfl⟩
  | .state, cvs, h => by
    obtain ⟨x0, l0, e0, h⟩ := all2_i h
    obtain ⟨x1, l1, e1, h⟩ := all2_i h
    obtain ⟨x2, l2, e2, h⟩ := all2_i h
    obtain ⟨x3, l3, e3, h⟩ := all2_i h
    have e := all2_n h
    subst e
    subst e3
    subst e2
    subst e1
    subst e0
    exact ⟨⟨x0, x1, x2, x3⟩, rfl⟩
  | .site, cvs, h => by
    obtain ⟨x0, l0, e0, h⟩ := all2_i h
    obtain ⟨x1, l1, e1, h⟩ := all2_i h
    obtain ⟨x2, l2, e2, h⟩ := all2_i h
    obtain ⟨x3, l3, e3, h⟩ := all2_i h
    have e := all2_n h
    subst e
    subst e3
    subst e2
    subst e1
    subst e0
    exact ⟨⟨x0, x1, x2, x3⟩, rfl⟩
  | .fault, cvs, h => by
    obtain ⟨x0, l0, e0, h⟩ := all2_i h
    obtain ⟨x1, l1, e1, h⟩ := all2_i h
    have e := all2_n h
    subst e
    subst e1
    subst e0
    exact ⟨⟨x0, x1⟩, rfl⟩
  | .hunt, cvs, h => by
    obtain ⟨x0, l0, e0, h⟩ := all2_i h
    obtain ⟨x1, l1, e1, h⟩ := all2_i h
    obtain ⟨x2, l2, e2, h⟩ := all2_i h
    obtain ⟨x3, l3, e3, h⟩ := all2_i h
    obtain ⟨x4, l4, e4, h⟩ := all2_b h
    obtain ⟨x5, l5, e5, h⟩ := all2_i h
    have e := all2_n h
    subst e
    subst e5
    subst e4
    subst e3
    subst e2
    subst e1
    subst e0
    exact ⟨⟨x0, x1, x2, x3, x4, x5⟩, rfl⟩
  | .spot, cvs, h => by
    obtain ⟨x0, l0, e0, h⟩ := all2_i h
    obtain ⟨x1, l1, e1, h⟩ := all2_i h
    obtain ⟨x2, l2, e2, h⟩ := all2_i h
    obtain ⟨x3, l3, e3, h⟩ := all2_i h
    have e := all2_n h
    subst e
    subst e3
    subst e2
    subst e1
    subst e0
    exact ⟨⟨x0, x1, x2, x3⟩, rfl⟩
theorem choose_list {α : Type} {p : Nat → α → Prop} : ∀ (n : Nat), (∀ j, j < n → ∃ y, p j y) → ∃ l : List α, l.length = n ∧ ∀ (j : Nat) y, l[j]? = some y → p j y
  | 0, _ => ⟨[], rfl, fun j y h => by simp at h⟩
  | n + 1, h => by
    obtain ⟨l, hl, hp⟩ := choose_list n fun j hj => h j (by omega)
    obtain ⟨y, hy⟩ := h n (by omega)
    refine ⟨l ++ [y], by simp [hl], fun j z hz => ?_⟩
    by_cases hj : j < l.length
    · rw [List.getElem?_append_left hj] at hz
      exact hp j z hz
    · rw [List.getElem?_append_right (by omega)] at hz
      have : j - l.length = 0 := by
        have := (List.getElem?_eq_some_iff.1 hz).1
        simp at this
        omega
      rw [this] at hz
      simp at hz
      subst hz
      have : j = n := by omega
      subst this
      exact hy
theorem lit_inR {n : Int} (h : (Lit.int .i64 n).wf = true) : InR n := by
  simp [Lit.wf, IntKind.min, IntKind.max, IntKind.bits, IntKind.signed] at h
  unfold InR
  omega
/-- An element's type has these cells. -/
def elF (P : Program) (e : TypeId) (k : FK) : Bool := match flatT P 8 e with
  | some ts => ckFs P ts (SK.f k).cks && (decide (P.cellsOf e = k.size) && decide (8 * k.size ≤ P.bytesOf e))
  | none => false
theorem cks_length (k : FK) : (SK.f k).cks.length = k.size := by cases k <;> rfl
theorem all2_len {α β : Type} {R : α → β → Prop} {l : List α} {m : List β} (hl : m.length = l.length) (h : ∀ (j : Nat) a b, l[j]? = some a → m[j]? = some b → R a b) : All2 R l m := by
  rw [all2_iff]
  refine ⟨hl, fun j a ha => ?_⟩
  have hlt := (List.getElem?_eq_some_iff.1 ha).1
  exact ⟨m[j]'(by omega), List.getElem?_eq_getElem (by omega), h j a _ ha (List.getElem?_eq_getElem (by omega))⟩
theorem el_open {e : TypeId} {k : FK} (hk : elF P e k = true) {fuel : Nat} {cs : List Value} {x : DataW H × List MemPlace} (h : DataW.trod enc P w 0 spare held fuel e cs = some x) :
    ∃ y : k.T, ∀ (j : Nat) cv, (k.enc y)[j]? = some cv → cs[j]? = some (cvv cv) ∧ flatR cv := by
  unfold elF at hk
  split at hk
  · rename_i ts hts
    simp only [Bool.and_eq_true] at hk
    obtain ⟨hlen, hget⟩ := ckFs_get hk.1
    have hopen := flat_open 8 e ts fuel cs x hts h
    obtain ⟨cvs, hl, hp⟩ := choose_list (p := fun j cv => (∀ c, (SK.f k).cks[j]? = some c → ckCV c cv) ∧ cs[j]? = some (cvv cv) ∧ flatR cv) ts.length fun j hj => by
      have htj : ts[j]? = some ts[j] := List.getElem?_eq_getElem hj
      have hkj : (SK.f k).cks[j]? = some ((SK.f k).cks[j]'(by omega)) := List.getElem?_eq_getElem (by omega)
      obtain ⟨m, y, hy, _⟩ := hopen j _ htj
      have hc := hget j _ _ htj hkj
      generalize hck : (SK.f k).cks[j]'(by omega) = ck at hc hkj
      unfold ckF at hc
      split at hc
      · split at hc
        · rename_i hu
          obtain ⟨n, hn, _, hw⟩ := DataW.trod_int hu hy
          exact ⟨.i n, fun c h => by rw [hkj] at h; injection h with h; subst h; trivial, one_at hn, lit_inR hw⟩
        · cases hc
      · split at hc
        · rename_i hu
          obtain ⟨n, hn, _⟩ := DataW.trod_bool hu hy
          exact ⟨.b n, fun c h => by rw [hkj] at h; injection h with h; subst h; trivial, one_at hn, trivial⟩
        · cases hc
      · cases hc
    obtain ⟨y, hy⟩ := fk_make (k := k) (all2_len (by omega) fun j a b ha hb => (hp j b hb).1 a ha)
    exact ⟨y, fun j cv hj => (hp j cv (by rw [← hy]; exact hj)).2⟩
  · cases hk

/-- A slice's elements, each opened. -/
theorem sl_open {α : Type} {enc' : α → List CV} {sz : Nat} {R : CV → Value → Prop} {Q : CV → Prop} (S : α → Prop) {t e : TypeId} (ht : P.underlying t = some (.slice e)) (hc : P.cellsOf e = sz) (hpos : 0 < sz)
    (hel : ∀ fuel cs (x : DataW H × List MemPlace), DataW.trod enc P w 0 spare held fuel e cs = some x → ∃ y : α, (∀ (j : Nat) cv, (enc' y)[j]? = some cv → ∃ u, cs[j]? = some u ∧ R cv u ∧ Q cv) ∧ (Light P e x.1 → S y)) (hsz : ∀ y : α, (enc' y).length = sz)
    {fuel : Nat} {cs : List Value} {x : DataW H × List MemPlace} (h : DataW.trod enc P w 0 spare held fuel t cs = some x) :
    ∃ v xs, cs = [v] ∧ ViewR R w (· < w.heap.size) enc' sz v xs ∧ (∀ y ∈ xs, ∀ cv ∈ enc' y, Q cv) ∧ ((x.1 = .nil ∧ xs = []) ∨ ∃ l r, x.1 = .slice l r ∧ l.length = xs.length) ∧ (Light P t x.1 → xs.length * P.bytesOf e ≤ reachBytes ∧ ∀ y ∈ xs, S y) := by
  rcases DataW.trod_slice ht h with ⟨rfl, rfl⟩ | ⟨a, len, cap, elems, rest, n, _, rfl, rfl, _, hl, hm, hlen, hel', _⟩
  · exact ⟨_, [], rfl, ⟨none, 0, rfl, Nat.le_refl _, Nat.zero_le _, fun h => absurd rfl h, fun a ha => by cases ha⟩, fun y hy => (by cases hy), .inl ⟨rfl, rfl⟩, fun _ => ⟨by simp, fun y hy => by cases hy⟩⟩
  · rw [hc] at hel'
    have each : ∀ i, i < len → ∃ y : α, (∀ (j : Nat) cv, (enc' y)[j]? = some cv → ∃ u, w.cell? ((a.add (i * sz)).add j) = some u ∧ R cv u ∧ Q cv) ∧ ∀ (hi : i < elems.length), Light P e (elems[i]).1 → S y := by
      intro i hi
      have h1 := hel' i hi
      rw [List.getElem?_eq_getElem (by omega : i < elems.length)] at h1
      simp only [Option.bind_eq_some_iff] at h1
      obtain ⟨cs, hcs, hx⟩ := h1
      obtain ⟨y, hy, hS⟩ := hel n cs _ hx
      obtain ⟨_, hcl, hcell⟩ := World.cells?_some hcs
      refine ⟨y, fun j cv hj => ?_, fun _ => hS⟩
      obtain ⟨u, hu, hr, hq⟩ := hy j cv hj
      have hjl : j < sz := by
        have := (List.getElem?_eq_some_iff.1 hj).1
        rw [hsz] at this
        exact this
      exact ⟨u, by rw [hcell j hjl]; exact hu, hr, hq⟩
    obtain ⟨xs, hxl, hxs⟩ := choose_list len each
    refine ⟨_, xs, rfl, ⟨some a, cap, by rw [hxl], by rw [hxl]; exact hl, hm, fun hne => ⟨a, rfl, ?_⟩, fun a' ha' i y hy j cv hj => ?_⟩, fun y hy cv hcv => ?_, .inr ⟨_, _, rfl, by simp [hlen, hxl]⟩, fun hL => ⟨?_, fun y hy => ?_⟩⟩
    · have hpos' : 0 < len := by
        rw [← hxl]; exact List.length_pos_iff.2 hne
      have h1 := hel' 0 hpos'
      rw [List.getElem?_eq_getElem (by omega : 0 < elems.length)] at h1
      simp only [Option.bind_eq_some_iff] at h1
      obtain ⟨cs, hcs, _⟩ := h1
      have := World.cells?_block hcs hpos
      rw [add_block] at this
      exact this
    · injection ha' with ha'
      subst ha'
      obtain ⟨u, hu, hr, _⟩ := (hxs i y hy).1 j cv hj
      exact ⟨u, hu, hr⟩
    · obtain ⟨i, hi⟩ := List.getElem?_of_mem hy
      obtain ⟨j, hj⟩ := List.getElem?_of_mem hcv
      obtain ⟨_, _, _, hq⟩ := (hxs i y hi).1 j cv hj
      exact hq
    · have h1 := hL _ (by simp only [DataW.weights, ht]; exact List.mem_cons_self)
      refine Nat.le_trans (Nat.mul_le_mul_right _ ?_) h1
      simp; omega
    · obtain ⟨i, hi⟩ := List.getElem?_of_mem hy
      have hil : i < elems.length := by
        have := (List.getElem?_eq_some_iff.1 hi).1
        omega
      refine (hxs i y hi).2 hil fun q hq => hL q ?_
      simp only [DataW.weights, ht]
      refine List.mem_cons_of_mem _ (List.mem_append_left _ (weightsAll_mem (d := (elems[i]).1) ?_ hq))
      exact List.mem_map.2 ⟨elems[i], List.getElem_mem hil, rfl⟩
theorem elF_bytes {e : TypeId} {k : FK} (hk : elF P e k = true) : 8 * k.size ≤ P.bytesOf e := by
  unfold elF at hk
  split at hk
  · simp only [Bool.and_eq_true, decide_eq_true_eq] at hk
    exact hk.2.2
  · cases hk
theorem flat_sl {k : FK} {t e : TypeId} (ht : P.underlying t = some (.slice e)) (hk : elF P e k = true) {fuel : Nat} {cs : List Value} {x : DataW H × List MemPlace} (h : DataW.trod enc P w 0 spare held fuel t cs = some x) :
    ∃ v xs, cs = [v] ∧ ViewR R0 w (· < w.heap.size) k.enc k.size v xs ∧ (∀ y ∈ xs, ∀ cv ∈ k.enc y, flatR cv) ∧ ((x.1 = .nil ∧ xs = []) ∨ ∃ l r, x.1 = .slice l r ∧ l.length = xs.length) ∧ (Light P t x.1 → xs.length * (8 * k.size) ≤ 140737488351232) := by
  have hc : P.cellsOf e = k.size := by
    unfold elF at hk
    split at hk
    · simp only [Bool.and_eq_true, decide_eq_true_eq] at hk
      exact hk.2.1
    · cases hk
  have hb := elF_bytes hk
  obtain ⟨v, xs, h1, h2, h3, h4, h5⟩ := sl_open (R := R0) (Q := flatR) (enc' := k.enc) (sz := k.size) (fun _ => True) ht hc (FK.size_pos k) (fun fuel cs x hx => by
    obtain ⟨y, hy⟩ := el_open hk hx
    refine ⟨y, fun j cv hj => ?_, fun _ => trivial⟩
    obtain ⟨h1, h2⟩ := hy j cv hj
    exact ⟨_, h1, (R0_flat (enc_at_flat hj)).2 rfl, h2⟩) (fun y => k.enc_length y) h
  exact ⟨v, xs, h1, h2, h3, h4, fun hL => Nat.le_trans (Nat.mul_le_mul_left _ hb) (h5 hL).1⟩
/-- An element's type, of any kind. -/
def elK (P : Program) (e : TypeId) : K → Bool
  | .f k => elF P e k
  | .rows k => (match P.underlying e with | some (.slice e') => elF P e' k | _ => false) && (decide (P.cellsOf e = 1) && decide (24 ≤ P.bytesOf e))
  | .route => (match flatT P 8 e with
    | some [t1, t2, t3] => ckF P t1 .i && ckF P t2 .i && (match P.underlying t3 with | some (.slice e') => elF P e' .stop | _ => false)
    | _ => false) && (decide (P.cellsOf e = 3) && decide (40 ≤ P.bytesOf e))
theorem ckF_i {t : TypeId} (h : ckF P t .i = true) : P.underlying t = some (.int .i64) := by
  unfold ckF at h
  simp only at h
  split at h
  · assumption
  · cases h
theorem k_open {k : K} {t e : TypeId} (ht : P.underlying t = some (.slice e)) (hk : elK P e k = true) {fuel : Nat} {cs : List Value} {x : DataW H × List MemPlace} (h : DataW.trod enc P w 0 spare held fuel t cs = some x) :
    ∃ v xs, cs = [v] ∧ View w (· < w.heap.size) k v xs ∧ k.inR xs ∧ ((x.1 = .nil ∧ xs = []) ∨ ∃ l r, x.1 = .slice l r ∧ l.length = xs.length) ∧ (Light P t x.1 → k.szd xs) := by
  cases k with
  | f k =>
    have hc : P.cellsOf e = k.size := by
      have hk : elF P e k = true := hk
      unfold elF at hk
      split at hk
      · simp only [Bool.and_eq_true, decide_eq_true_eq] at hk
        exact hk.2.1
      · cases hk
    have hb := elF_bytes (show elF P e k = true from hk)
    obtain ⟨v, xs, h1, h2, h3, h4, h5⟩ := sl_open (R := CVat w (· < w.heap.size)) (Q := cvR) (enc' := k.enc) (sz := k.size) (fun _ => True) ht hc (FK.size_pos k) (fun fuel cs x hx => by
      obtain ⟨y, hy⟩ := el_open hk hx
      refine ⟨y, fun j cv hj => ?_, fun _ => trivial⟩
      obtain ⟨h1, h2⟩ := hy j cv hj
      refine ⟨_, h1, (CVat_flat (enc_at_flat hj)).2 rfl, ?_⟩
      have := enc_at_flat hj
      cases cv with
      | i n => exact h2
      | b x => trivial
      | sl k xs => cases this) (fun y => k.enc_length y) h
    exact ⟨v, xs, h1, h2, h3, h4, fun hL => Nat.le_trans (Nat.mul_le_mul_left _ hb) (h5 hL).1⟩
  | rows k =>
    simp only [elK, Bool.and_eq_true, decide_eq_true_eq] at hk
    obtain ⟨hk, hc, hb⟩ := hk
    split at hk
    · rename_i e' hu
      obtain ⟨v, xs, h1, h2, h3, h4, h5⟩ := sl_open (R := CVat w (· < w.heap.size)) (Q := cvR) (enc' := (K.rows k).enc) (sz := 1) (fun r : List k.T => r.length * (8 * k.size) ≤ 140737488351232) ht hc (by decide) (fun fuel cs x hx => by
        obtain ⟨v, ys, g1, g2, g3, _, g5⟩ := flat_sl hu hk hx
        refine ⟨ys, fun j cv hj => ?_, g5⟩
        match j, hj with
        | 0, hj =>
          simp [K.enc] at hj
          subst hj
          exact ⟨v, by rw [g1]; rfl, g2, g3⟩
        | j + 1, hj => simp [K.enc] at hj) (fun y => rfl) h
      exact ⟨v, xs, h1, h2, h3, h4, fun hL => ⟨Nat.le_trans (Nat.mul_le_mul_left _ hb) (h5 hL).1, (h5 hL).2⟩⟩
    · cases hk
  | route =>
    simp only [elK, Bool.and_eq_true, decide_eq_true_eq] at hk
    obtain ⟨hk, hc, hb⟩ := hk
    split at hk
    · rename_i t1 t2 t3 hts
      simp only [Bool.and_eq_true] at hk
      obtain ⟨⟨k1, k2⟩, k3⟩ := hk
      split at k3
      · rename_i e' hu
        obtain ⟨v, xs, h1, h2, h3, h4, h5⟩ := sl_open (R := CVat w (· < w.heap.size)) (Q := cvR) (enc' := K.route.enc) (sz := 3) (fun r : Route => r.stops.length * 16 ≤ 140737488351232) ht hc (by decide) (fun fuel cs x hx => by
          have hopen := flat_open 8 e _ fuel cs x hts hx
          obtain ⟨m1, y1, hy1, _⟩ := hopen 0 t1 rfl
          obtain ⟨m2, y2, hy2, _⟩ := hopen 1 t2 rfl
          obtain ⟨m3, y3, hy3, hw3⟩ := hopen 2 t3 rfl
          obtain ⟨n1, e1, _, w1⟩ := DataW.trod_int (ckF_i k1) hy1
          obtain ⟨n2, e2, _, w2⟩ := DataW.trod_int (ckF_i k2) hy2
          obtain ⟨v, ys, g1, g2, g3, _, g5⟩ := flat_sl hu k3 hy3
          refine ⟨⟨n1, n2, ys⟩, fun j cv hj => ?_, fun hL => g5 (hw3.light hL)⟩
          match j, hj with
          | 0, hj =>
            simp [K.enc] at hj
            subst hj
            exact ⟨_, one_at e1, rfl, lit_inR w1⟩
          | 1, hj =>
            simp [K.enc] at hj
            subst hj
            exact ⟨_, one_at e2, rfl, lit_inR w2⟩
          | 2, hj =>
            simp [K.enc] at hj
            subst hj
            exact ⟨_, one_at g1, g2, g3⟩
          | j + 3, hj => simp [K.enc] at hj) (fun y => rfl) h
        exact ⟨v, xs, h1, h2, h3, h4, fun hL => ⟨Nat.le_trans (Nat.mul_le_mul_left _ hb) (h5 hL).1, (h5 hL).2⟩⟩
      · cases k3
    · cases hk

/-- A cell's type. -/
def ckL (P : Program) (t : TypeId) : CK → Bool
  | .i => ckF P t .i
  | .b => ckF P t .b
  | .a k => match P.underlying t with
    | some (.slice e) => elK P e k
    | _ => false
  | .fn => false
  | .pm _ => false
def LD (d : DataW H) : AC → Prop
  | .a k xs => (d = .nil ∧ xs = []) ∨ ∃ l r, d = .slice l r ∧ l.length = xs.length
  | _ => True
theorem leaf_open {t : TypeId} {k : CK} (hk : ckL P t k = true) {fuel : Nat} {cs : List Value} {x : DataW H × List MemPlace} (h : DataW.trod enc P w 0 spare held fuel t cs = some x) :
    ∃ v, ∃ y : k.T, cs = [v] ∧ AD w (· < w.heap.size) (k.enc y) v ∧ acR (k.enc y) ∧ LD x.1 (k.enc y) ∧ (Light P t x.1 → (k.enc y).szd) := by
  cases k with
  | i =>
    obtain ⟨n, e, _, hw⟩ := DataW.trod_int (ckF_i hk) h
    exact ⟨_, n, e, rfl, lit_inR hw, trivial, fun _ => trivial⟩
  | b =>
    have hk : ckF P t .b = true := hk
    unfold ckF at hk
    simp only at hk
    split at hk
    · rename_i hu
      obtain ⟨n, e, _⟩ := DataW.trod_bool hu h
      exact ⟨_, n, e, rfl, trivial, trivial, fun _ => trivial⟩
    · cases hk
  | fn => cases hk
  | pm ty => cases hk
  | a k =>
    simp only [ckL] at hk
    split at hk
    · rename_i e hu
      obtain ⟨v, xs, h1, h2, h3, h4, h5⟩ := k_open hu hk h
      exact ⟨v, xs, h1, h2, h3, h4, h5⟩
    · cases hk
def ckLs (P : Program) : List TypeId → List CK → Bool
  | [], [] => true
  | t :: ts, k :: ks => ckL P t k && ckLs P ts ks
  | _, _ => false
theorem ckLs_get : ∀ {ts : List TypeId} {ks : List CK}, ckLs P ts ks = true → ts.length = ks.length ∧ ∀ (j : Nat) t k, ts[j]? = some t → ks[j]? = some k → ckL P t k = true
  | [], [], _ => ⟨rfl, fun j t k h => by simp at h⟩
  | t :: ts, k :: ks, h => by
    simp only [ckLs, Bool.and_eq_true] at h
    obtain ⟨h1, h2⟩ := ckLs_get h.2
    refine ⟨by simp [h1], fun j t' k' ht hk => ?_⟩
    cases j with
    | zero => simp at ht hk; subst ht; subst hk; exact h.1
    | succ j => exact h2 j t' k' (by simpa using ht) (by simpa using hk)
  | [], _ :: _, h => by cases h
  | _ :: _, [], h => by cases h
def ckAC (k : CK) (c : AC) : Prop := ∃ y : k.T, c = k.enc y
theorem ac_cv : ∀ {ks : List CK} {acs : List AC}, (∀ k ∈ ks, k = .i ∨ k = .b) → All2 ckAC ks acs → ∃ cvs, All2 ckCV ks cvs ∧ encCV cvs = acs
  | [], [], _, _ => ⟨[], trivial, rfl⟩
  | k :: ks, c :: acs, hk, h => by
    obtain ⟨cvs, h1, h2⟩ := ac_cv (fun k h => hk k (by simp [h])) h.2
    obtain ⟨y, hy⟩ := h.1
    rcases hk k (by simp) with rfl | rfl
    · exact ⟨.i y :: cvs, ⟨trivial, h1⟩, by simp [encCV, h2, hy, CK.enc]⟩
    · exact ⟨.b y :: cvs, ⟨trivial, h1⟩, by simp [encCV, h2, hy, CK.enc]⟩
  | [], _ :: _, _, h => h.elim
  | _ :: _, [], _, h => h.elim
theorem sk_make {s : SK} {acs : List AC} (hns : ∀ ty, s ≠ .search ty) (h : All2 ckAC s.cks acs) : ∃ x : s.T, s.enc x = acs := by
  cases s with
  | f k =>
    obtain ⟨cvs, h1, h2⟩ := ac_cv (by cases k <;> simp [SK.cks]) h
    obtain ⟨x, hx⟩ := fk_make h1
    exact ⟨x, by simp only [SK.enc]; rw [hx, h2]⟩
  | route =>
    match acs, h with
    | [a, b, c], ⟨⟨x, hx⟩, ⟨y, hy⟩, ⟨z, hz⟩, _⟩ => exact ⟨⟨x, y, z⟩, by simp [SK.enc, hx, hy, hz, CK.enc]⟩
  | world =>
    match acs, h with
    | [a, b, c, d, e], ⟨⟨x, hx⟩, ⟨y, hy⟩, ⟨z, hz⟩, ⟨u, hu⟩, ⟨v, hv⟩, _⟩ => exact ⟨⟨x, y, z, u, v⟩, by simp [SK.enc, hx, hy, hz, hu, hv, CK.enc]⟩
  | map =>
    match acs, h with
    | [a, b], ⟨⟨x, hx⟩, ⟨y, hy⟩, _⟩ => exact ⟨⟨x, y⟩, by simp [SK.enc, hx, hy, CK.enc]⟩
  | search ty => exact absurd rfl (hns ty)
def skL (P : Program) (t : TypeId) (s : SK) : Bool := match flatT P 8 t, P.underlying t with
  | some ts, some (.struct _) => ckLs P ts s.cks && decide (P.cellsOf t = ts.length)
  | _, _ => false
theorem sk_open {t : TypeId} {s : SK} (hk : skL P t s = true) {fuel : Nat} {cs : List Value} {x : DataW H × List MemPlace} (h : DataW.trod enc P w 0 spare held fuel t cs = some x) :
    ∃ y : s.T, All2 (AD w (· < w.heap.size)) (s.enc y) cs ∧ (∀ c ∈ s.enc y, acR c) ∧ (Light P t x.1 → ∀ c ∈ s.enc y, c.szd) := by
  unfold skL at hk
  split at hk
  · rename_i ts fs hts hu
    simp only [Bool.and_eq_true, decide_eq_true_eq] at hk
    obtain ⟨hlen, hget⟩ := ckLs_get hk.1
    obtain ⟨_, _, _, _, hcl, _⟩ := DataW.trod_struct hu h
    have hopen := flat_open 8 t ts fuel cs x hts h
    obtain ⟨acs, hl, hp⟩ := choose_list (p := fun j c => (∀ k, s.cks[j]? = some k → ckAC k c) ∧ acR c ∧ (∃ v, cs[j]? = some v ∧ AD w (· < w.heap.size) c v) ∧ (Light P t x.1 → c.szd)) ts.length fun j hj => by
      have htj : ts[j]? = some ts[j] := List.getElem?_eq_getElem hj
      have hkj : s.cks[j]? = some (s.cks[j]'(by omega)) := List.getElem?_eq_getElem (by omega)
      obtain ⟨m, y, hy, hwt⟩ := hopen j _ htj
      have hc := hget j _ _ htj hkj
      obtain ⟨v, z, h1, h2, h3, _, h5⟩ := leaf_open hc hy
      exact ⟨_, fun k hk => by rw [hkj] at hk; injection hk with hk; subst hk; exact ⟨z, rfl⟩, h3, ⟨v, one_at h1, h2⟩, fun hL => h5 (hwt.light hL)⟩
    have hns : ∀ ty, s ≠ .search ty := by
      rintro ty rfl
      have h0 : 0 < ts.length := by rw [hlen]; exact Nat.succ_pos _
      have := hget 0 _ (.pm ty) (List.getElem?_eq_getElem h0) rfl
      cases this
    obtain ⟨y, hy⟩ := sk_make (s := s) hns (all2_len (by omega) fun j a b ha hb => (hp j b hb).1 a ha)
    refine ⟨y, ?_, fun c hc => ?_, fun hL c hc => ?_⟩
    · rw [hy]
      refine all2_len (by omega) fun j a b ha hb => ?_
      obtain ⟨_, _, ⟨v, hv, hd⟩, _⟩ := hp j a ha
      rw [hb] at hv
      injection hv with hv
      subst hv
      exact hd
    · rw [hy] at hc
      obtain ⟨j, hj⟩ := List.getElem?_of_mem hc
      exact (hp j c hj).2.1
    · rw [hy] at hc
      obtain ⟨j, hj⟩ := List.getElem?_of_mem hc
      exact (hp j c hj).2.2.2 hL
  · cases hk
/-- An array of two numbers, as a struct of two. -/
def arL (P : Program) (t : TypeId) : SK → Bool
  | .f .win => match P.underlying t with
    | some (.array 2 e) => ckL P e .i && decide (P.cellsOf t = 2) && decide (P.cellsOf e = 1)
    | _ => false
  | _ => false
theorem ar_open {t : TypeId} {s : SK} (hk : arL P t s = true) {v : Value} {base : Nat} (hv : Value.okWide P w .any base t v) {fuel : Nat} {x : DataW H × List MemPlace} (h : DataW.trod enc P w 0 spare held fuel t v.cells.toList = some x) :
    ∃ y : s.T, (∃ cs, v = .agg cs ∧ All2 (AD w (· < w.heap.size)) (s.enc y) cs.toList) ∧ (∀ c ∈ s.enc y, acR c) ∧ (∀ c ∈ s.enc y, c.szd) := by
  unfold arL at hk
  split at hk
  · split at hk
    · rename_i e hu
      simp only [Bool.and_eq_true, decide_eq_true_eq] at hk
      obtain ⟨⟨hc, h2⟩, h1⟩ := hk
      have hv' := hv
      simp only [Value.okWide, hu] at hv'
      obtain ⟨cs, rfl, hsz, _⟩ := hv'
      obtain ⟨xs, m, _, _, hl, hxl, hx⟩ := DataW.trod_array hu h
      have g0 := hx 0 (by decide)
      have g1 := hx 1 (by decide)
      rw [h1] at g0 g1
      rw [List.getElem?_eq_getElem (by omega)] at g0 g1
      obtain ⟨v0, n0, a0, b0, c0, _, _⟩ := leaf_open (k := .i) hc g0
      obtain ⟨v1, n1, a1, b1, c1, _, _⟩ := leaf_open (k := .i) hc g1
      refine ⟨⟨n0, n1⟩, ⟨cs, rfl, ?_⟩, ?_, ?_⟩
      · have hcl : cs.toList.length = 2 := by rw [h2] at hl; exact hl
        have e0 : (cs.toList.drop (0 * 1)).take 1 = [v0] := a0
        have e1 : (cs.toList.drop (1 * 1)).take 1 = [v1] := a1
        generalize cs.toList = l at *
        match l, hcl with
        | [p, q], _ =>
          simp at e0 e1
          subst e0 e1
          exact ⟨b0, b1, trivial⟩
      · intro c hc'
        simp only [SK.enc, FK.enc, encCV, List.mem_cons, List.not_mem_nil, or_false] at hc'
        rcases hc' with rfl | rfl
        · exact c0
        · exact c1
      · intro c hc'
        simp only [SK.enc, FK.enc, encCV, List.mem_cons, List.not_mem_nil, or_false] at hc'
        rcases hc' with rfl | rfl <;> trivial
    · cases hk
  · cases hk
/-- A parameter's type. -/
def pkL (P : Program) (t : TypeId) : PK → Bool
  | .c k => ckL P t k
  | .r s => skL P t s || arL P t s
  | .p _ _ => false
  | .q _ _ => false
def LDP (d : DataW H) : AV → Prop
  | .c x => LD d x
  | _ => True
theorem pk_open {t : TypeId} {p : PK} (hk : pkL P t p = true) {v : Value} {d : DataW H} {ps : List MemPlace} {base : Nat} (hv : Value.okWide P w .any base t v) (h : DataW.Trod enc P w 0 spare held t v d ps) :
    ∃ y : p.T, PD w (· < w.heap.size) (p.enc y) v ∧ avR (p.enc y) ∧ LDP d (p.enc y) ∧ (Light P t d → (p.enc y).szd) := by
  obtain ⟨fuel, h⟩ := h
  cases p with
  | c k =>
    have one : v.cells.toList = [v] := by
      have hk : ckL P t k = true := hk
      cases k with
      | i => obtain ⟨n, rfl⟩ := okWide_int (ckF_i hk) hv; rfl
      | b =>
        have hk : ckF P t .b = true := hk
        unfold ckF at hk
        simp only at hk
        split at hk
        · rename_i hu
          obtain ⟨n, rfl⟩ := okWide_bool hu hv; rfl
        · cases hk
      | fn => cases hk
      | pm ty => cases hk
      | a k =>
        simp only [ckL] at hk
        split at hk
        · rename_i e hu
          obtain ⟨a, l, c, rfl⟩ := okWide_slice hu hv; rfl
        · cases hk
    obtain ⟨v', y, h1, h2, h3, h4, h5⟩ := leaf_open hk h
    rw [one] at h1
    injection h1 with h1
    subst h1
    exact ⟨y, h2, h3, h4, h5⟩
  | r s =>
    have hor : (skL P t s || arL P t s) = true := hk
    by_cases hk' : skL P t s = true
    case neg =>
      have ha : arL P t s = true := by simpa [hk'] using hor
      obtain ⟨y, h1, h2, h3⟩ := ar_open ha hv h
      exact ⟨y, h1, h2, trivial, fun _ => h3⟩
    have hu : ∃ fs, P.underlying t = some (.struct fs) := by
      unfold skL at hk'
      split at hk'
      · rename_i ts fs _ hu
        exact ⟨fs, hu⟩
      · cases hk'
    obtain ⟨fs, hu⟩ := hu
    obtain ⟨cs, rfl, _⟩ := okWide_struct hu hv
    obtain ⟨y, h1, h2, h3⟩ := sk_open hk' h
    exact ⟨y, ⟨cs, rfl, h1⟩, h2, trivial, h3⟩
  | p s ty => cases hk
  | q s ty => cases hk
theorem light_at {ts : List TypeId} {ds : List (DataW H)} (h : (DataW.weightsEach P ts ds).all (· ≤ reachBytes) = true) {j : Nat} {t : TypeId} {d : DataW H} (ht : ts[j]? = some t) (hd : ds[j]? = some d) : Light P t d := fun q hq => by
  have := List.all_eq_true.1 h q (DataW.weights_mem_each ht hd q hq)
  simpa using this
theorem sized_len {ts : List TypeId} {ds : List (DataW H)} (h : (DataW.weightsEach P ts ds).all (· ≤ reachBytes) = true) {j : Nat} {t e : TypeId} {d : DataW H} (ht : ts[j]? = some t) (hd : ds[j]? = some d) (hu : P.underlying t = some (.slice e)) {k : K} {xs : List k.T}
    (hl : LDP d (.c (.a k xs))) : xs.length * P.bytesOf e ≤ 140737488351232 := by
  rcases hl with ⟨_, rfl⟩ | ⟨l, r, rfl, hlen⟩
  · simp
  · have h1 := sized_slice h ht hd hu
    rw [hlen] at h1
    have : xs.length * P.bytesOf e ≤ (xs.length + r.length) * P.bytesOf e := Nat.mul_le_mul_right _ (by omega)
    exact Nat.le_trans this (Nat.le_trans h1 (by decide))
end
end Go.Eng
