/- The evaluation of one operation is sound: records built and compared. -/
import Derived.Test.YtadblcopmoiaaaaESound2
import Derived.ChangeKeysEq
import Derived.Laws.StructEq
set_option linter.unusedVariables false
set_option linter.unusedSimpArgs false
namespace Go.Eng
open Go Go.RowKit

section
variable {P : Program} {T : Tab} {B : Nat} {w0 w : World} {ρ : Nat → Value} {φ : Nat → Nat → Prop} {U : Nat → Prop} {H : Nat → HB} {n : Nat}

theorem run_places (eq : Bool) : ∀ (fs : List FD) (F : List Field) (w : World), all2 (fdChk P eq) fs F = true →
    (F.mapM fun f => do pure (f.offset, ← sizeOf f.type) : Sem (List (Nat × Nat))).run P w = .ok (fs.map fun fd => (fd.off, fd.size)) w
  | [], [], w, _ => by simp
  | fd :: fs, f :: F, w, h => by
    simp only [all2, Bool.and_eq_true] at h
    have ih := run_places eq fs F w h.2
    have h1 := h.1
    unfold fdChk at h1
    split at h1
    · rename_i i d hi hd
      simp only [Bool.and_eq_true, decide_eq_true_eq] at h1
      obtain ⟨⟨⟨⟨⟨e1, e2⟩, e3⟩, e4⟩, e5⟩, _⟩ := h1
      simp only [List.mapM_cons, Sem.run_bind, run_sizeOf' hi, Result.andThen_ok, Sem.run_pure, ih, List.map_cons, e1, e3]
    · cases h1
  | [], _ :: _, _, h => by simp [all2] at h
  | _ :: _, [], _, h => by simp [all2] at h

theorem foldl_set (off : Nat) : ∀ (xs : List Value) (j : Nat) (cs : Array Value),
    ((xs.zipIdx j).foldl (fun (cs : Array Value) (p : Value × Nat) => cs.setIfInBounds (off + p.2) p.1) cs).size = cs.size ∧
    ∀ i, ((xs.zipIdx j).foldl (fun (cs : Array Value) (p : Value × Nat) => cs.setIfInBounds (off + p.2) p.1) cs)[i]? = if off + j ≤ i ∧ i < off + j + xs.length ∧ i < cs.size then xs[i - (off + j)]? else cs[i]?
  | [], j, cs => by simp; intro i h1 h2; omega
  | x :: xs, j, cs => by
    obtain ⟨h1, h2⟩ := foldl_set off xs (j + 1) (cs.setIfInBounds (off + j) x)
    simp only [List.zipIdx_cons, List.foldl_cons]
    refine ⟨by rw [h1]; simp, fun i => ?_⟩
    rw [h2]
    simp only [Array.size_setIfInBounds, List.length_cons]
    by_cases h : i = off + j
    · subst h
      rw [if_neg (by omega)]
      by_cases hb : off + j < cs.size
      · rw [if_pos (by omega)]
        simp [hb]
      · rw [if_neg (by omega)]
        simp [hb]
    · by_cases h' : off + (j + 1) ≤ i ∧ i < off + (j + 1) + xs.length ∧ i < cs.size
      · rw [if_pos h', if_pos (by omega)]
        have : i - (off + j) = (i - (off + (j + 1))) + 1 := by omega
        rw [this, List.getElem?_cons_succ]
      · rw [if_neg h', if_neg (by omega), Array.getElem?_setIfInBounds_ne (by omega)]

/-- What 'build' makes of the parts. -/
theorem fill_den {e : Env} {fs : List FD} {ev' : Operand → Value} (hev : ∀ x, DenV ρ (ev e x) (ev' x)) (hwf : ∀ x, (ev e x).wf U) : ∀ (ps : List (Nat × Operand)) (l : List SC) (cs : Array Value) (r : List SC), build fs e ps l = some r → DenL ρ l cs → (∀ c ∈ l, c.wf U) →
    ∃ cs', Instr.fill ((fs.map fun fd => (fd.off, fd.size)).toArray[·]?) cs (ps.map fun p => (p.1, ev' p.2)) = some cs' ∧ DenL ρ r cs' ∧ ∀ c ∈ r, c.wf U
  | [], l, cs, r, h, hl, hw => by
    injection h with h
    subst h
    exact ⟨cs, rfl, hl, hw⟩
  | (i, x) :: ps, l, cs, r, h, hl, hw => by
    unfold build at h
    have hx := hev x
    have hxw := hwf x
    split at h
    · rename_i s off m g ty hs hfd
      rw [hs] at hx hxw
      have hx : DenW ρ s (ev' x) := hx
      have hxw : s.wf U := hxw
      split at h
      · rename_i hk
        split at h
        · rename_i hi
          split at h
          · rename_i hlen
            split at h
            · rename_i ho
              rw [len_eq] at hlen hi ho
              have hcell := SW.denL hx hk
              have hsz := hcell.1
              have hplace : (fs.map fun fd => (fd.off, fd.size)).toArray[i]? = some (off, m) := by
                rw [List.getElem?_toArray, List.getElem?_map]
                have : fs[i]? = some ⟨off, m, g, ty⟩ := by rw [← hfd, nth_eq, List.getD_eq_getElem?_getD, List.getElem?_eq_getElem hi]; rfl
                rw [this]; rfl
              have hon : off + s.cells.length ≤ l.length := by omega
              obtain ⟨f1, f2⟩ := foldl_set off (ev' x).cells.toList 0 cs
              have hnew : DenL ρ (splice l off s.cells) ((ev' x).cells.zipIdx.foldl (fun cs (c, j) => cs.setIfInBounds (off + j) c) cs) := by
                have e1 : (ev' x).cells.zipIdx.foldl (fun cs (c, j) => cs.setIfInBounds (off + j) c) cs = (((ev' x).cells.toList.zipIdx 0).foldl (fun (cs : Array Value) (p : Value × Nat) => cs.setIfInBounds (off + p.2) p.1) cs) := by
                  rw [← Array.foldl_toList, Array.toList_zipIdx]
                rw [e1]
                refine ⟨by rw [f1, splice_length hon]; exact hl.1, fun j c hc => ?_⟩
                rw [splice_get hon] at hc
                rw [f2]
                simp only [Array.length_toList, Nat.add_zero]
                have hls := hl.1
                by_cases hb : off ≤ j ∧ j < off + s.cells.length
                · rw [if_pos hb] at hc
                  obtain ⟨u, hu, hdu⟩ := hcell.2 _ c hc
                  rw [if_pos (by omega)]
                  exact ⟨u, by rw [Array.getElem?_toList]; exact hu, hdu⟩
                · rw [if_neg hb] at hc
                  rw [if_neg (by omega)]
                  exact hl.2 j c hc
              have hwn : ∀ c ∈ splice l off s.cells, c.wf U := by
                intro c hc
                rw [splice_eq] at hc
                simp only [List.mem_append] at hc
                rcases hc with hc | hc | hc
                · exact hw c (List.mem_of_mem_take hc)
                · cases s with
                  | c y => simp [SW.cells] at hc; subst hc; exact hxw
                  | g l' => exact hxw c hc
                · exact hw c (List.mem_of_mem_drop hc)
              obtain ⟨cs', h1, h2, h3⟩ := fill_den hev hwf ps _ _ r h hnew hwn
              refine ⟨cs', ?_, h2, h3⟩
              have hne : ¬ ((ev' x).cells.size ≠ m ∨ off + (ev' x).cells.size > cs.size) := by
                have := hl.1
                omega
              have e2 : ((ev' x).cells.size ≠ m || off + (ev' x).cells.size > cs.size) = false := by
                simp
                have := hl.1
                omega
              simp only [List.map_cons, Instr.fill, hplace]
              rw [if_neg (by simpa using (by have := hl.1; omega : (ev' x).cells.size = m → ¬ off + (ev' x).cells.size > cs.size) |> fun h => by have := hl.1; omega)]
              exact h1
            · cases h
          · cases h
        · cases h
      · cases h
    · cases h

theorem fine_build {t m : Nat} {fs : List FD} {z : List SC} {eq : Bool} {e : Env} {ps : Array (Nat × Operand)} {l : List SC} {ev' : Operand → Value} (hT : TabOk P T) (ht : look T t = some (.st m fs z eq)) (hev : ∀ x, DenV ρ (ev e x) (ev' x)) (hwf : ∀ x, (ev e x).wf U)
    (hb : build fs e ps.toList z = some l) (hm : Mem B w0 ρ φ U H w) (dst) (tt) (pos) (af) (gd) :
    Fine B w0 ρ U H ((execOp ev' ⟨dst, .build t ps, tt, pos, af, gd⟩).run P w) (.w (.g l)) [] n n := by
  obtain ⟨i, F, v, hi, hu, hs, hz, hv, hl, hfd, _⟩ := td_st hT ht
  have hzd : DenL ρ z v := ⟨by rw [← Array.length_toList, ← all2_length hv], fun j c hc => by
    obtain ⟨b, hb, hp⟩ := all2_get hv j c hc
    exact ⟨b, by simpa using hb, scz_den hp⟩⟩
  have hzw : ∀ c ∈ z, c.wf U := fun c hc => by
    obtain ⟨j, hj⟩ := List.getElem?_of_mem hc
    obtain ⟨b, hb, hp⟩ := all2_get hv j c hj
    exact scz_wf hp U
  obtain ⟨cs', h1, h2, h3⟩ := fill_den hev hwf ps.toList z v l hb hzd hzw
  refine fine_same hm (u := .agg cs') ?_ ⟨_, rfl, h2⟩ h3
  have hpl : (F.mapM fun f => do pure (f.offset, ← sizeOf f.type) : Sem (Array (Nat × Nat))).run P w = .ok (fs.map fun fd => (fd.off, fd.size)).toArray w := by
    rw [Array.mapM_eq_mapM_toList, Sem.run_map, run_places eq fs F.toList w hfd]
    rfl
  have hlist : (ps.map fun (p : Nat × Operand) => (p.1, ev' p.2)).toList = ps.toList.map fun p => (p.1, ev' p.2) := by simp
  simp only [execOp, Instr.build, Sem.run_bind, run_zero hi hz, Result.andThen_ok, Value.cells, run_underlying hu, hpl]
  simp only [hlist, h1]
  rfl

/-! ### '==' -/
theorem kind_i {m : Int} {d : TypeDesc} (h : kindD (.i m) d = true) : d = .int .i64 := by
  unfold kindD at h
  split at h <;> simp_all
theorem kind_b {m : Bool} {d : TypeDesc} (h : kindD (.l m) d = true) : d = .bool := by
  unfold kindD at h
  split at h <;> simp_all
theorem kind_p {d : TypeDesc} (h : kindD .nlp d = true) : ∃ e, d = .pointer e := by
  unfold kindD at h
  split at h <;> simp_all
theorem eqS_run {t : Nat} {k : Option (K × Nat)} {z a b : SC} {va vb : Value} {r : Bool} (d : Nat) (hT : TabOk P T) (ht : look T t = some (.sc k z)) (h : eqS z a b = some r) (ha : DenC ρ a va) (hb : DenC ρ b vb) :
    (Op.equalIn (d + 1) t va vb).run P w = .ok r w := by
  obtain ⟨i, ty, v, hi, hs, hu, hp, hz, hsz, hk, _⟩ := td_sc hT ht
  unfold eqS at h
  split at h <;> first
    | (cases h; done)
    | skip
  all_goals injection h with h
  all_goals subst h
  all_goals simp only [DenC] at ha hb
  · subst ha; subst hb
    obtain rfl := kind_i hk
    simp [Op.equalIn, run_underlying hu]
    rfl
  · subst ha; subst hb
    obtain rfl := kind_b hk
    simp [Op.equalIn, run_underlying hu]
  · subst ha; subst hb
    obtain rfl := kind_b hk
    simp [Op.equalIn, run_underlying hu]
  · subst ha; subst hb
    obtain rfl := kind_b hk
    simp [Op.equalIn, run_underlying hu]
  · subst ha; subst hb
    obtain rfl := kind_b hk
    simp [Op.equalIn, run_underlying hu]
  · subst ha; subst hb
    obtain ⟨e, rfl⟩ := kind_p hk
    simp [Op.equalIn, run_underlying hu]
  · subst ha
    obtain ⟨g, _, rfl⟩ := hb
    obtain ⟨e, rfl⟩ := kind_p hk
    simp [Op.equalIn, run_underlying hu]
  · subst hb
    obtain ⟨g, _, rfl⟩ := ha
    obtain ⟨e, rfl⟩ := kind_p hk
    simp [Op.equalIn, run_underlying hu]
theorem part_sc {t off : Nat} {d : TypeDesc} {vs : Array Value} {v : Value} (hd : P.underlying t = some d) (hp : plainD d = true) (hv : vs[off]? = some v) : (Go.part t vs off).run P w = .ok v w := by
  simp [Go.part, run_isAgg_sc hd hp, hv]
theorem part_agg {t off m : Nat} {i : TypeInfo} {d : TypeDesc} {vs : Array Value} (hi : P.info? t = some i) (hs : i.size = m) (hd : P.underlying t = some d) (hp : plainD d = false) : (Go.part t vs off).run P w = .ok (.agg (vs.extract off (off + m))) w := by
  have : (isAgg t).run P w = .ok true w := by
    unfold isAgg
    simp only [Sem.run_bind, run_underlying hd, Result.andThen_ok]
    cases d <;> simp_all [plainD]
  simp [Go.part, this, run_sizeOf' hi, hs]
theorem eqF_run {d : Nat} {xs ys : Array Value} {l m : List SC} {cmp : Nat → SW → SW → Option Bool} (hcmp : ∀ t x y r vx vy, cmp t x y = some r → DenW ρ x vx → DenW ρ y vy → (Op.equalIn d t vx vy).run P w = .ok r w)
    (hx : DenL ρ l xs) (hy : DenL ρ m ys) (hlm : l.length = m.length) : ∀ (fs : List FD) (F : List Field) (r : Bool), all2 (fdChk P true) fs F = true → (∀ fd ∈ fs, fd.off + fd.size ≤ l.length) → eqF cmp fs l m = some r → (Op.eqFields d xs ys F).run P w = .ok r w
  | [], [], r, _, _, h => by
    injection h with h
    subst h
    simp [Op.eqFields]
  | ⟨off, s, g, t⟩ :: fs, f :: F, r, hc, hle, h => by
    simp only [all2, Bool.and_eq_true] at hc
    have h1 := hc.1
    unfold fdChk at h1
    split at h1
    · rename_i i td hi hd
      simp only [Bool.and_eq_true, decide_eq_true_eq] at h1
      obtain ⟨⟨⟨⟨⟨e1, e2⟩, e3⟩, e4⟩, e5⟩, e6⟩ := h1
      have e5 := eq_of_beq e5
      have hname : f.name ≠ "_" := by simpa using e6
      have hb := hle ⟨off, s, g, t⟩ (by simp)
      simp only at e1 e2 e3 e4 e5 hb
      unfold eqF at h
      split at h
      · rename_i a b ha hb'
        injection h with h
        subst h
        have ih := eqF_run hcmp hx hy hlm fs F b hc.2 (fun fd hfd => hle fd (by simp [hfd])) hb'
        have hxs := hx.1
        have hys := hy.1
        have key : ∃ vx vy, (Go.part f.type xs f.offset).run P w = .ok vx w ∧ (Go.part f.type ys f.offset).run P w = .ok vy w ∧ (Op.equalIn d f.type vx vy).run P w = .ok a w := by
          rw [e1]
          cases hg : g with
          | true =>
            rw [hg] at ha e5
            have hp : plainD td = false := by simpa using e5
            refine ⟨_, _, part_agg hi e3 hd hp, part_agg hi e3 hd hp, ?_⟩
            rw [e2]
            exact hcmp _ _ _ _ _ _ ha ⟨_, rfl, hx.take_drop hb⟩ ⟨_, rfl, hy.take_drop (by omega)⟩
          | false =>
            rw [hg] at ha e5
            have hp : plainD td = true := by simpa using e5
            have hlt : off < l.length := by omega
            have hlt' : off < m.length := by omega
            obtain ⟨u, hu, hdu⟩ := hx.2 off (nth .u l off) (by rw [nth_eq, List.getD_eq_getElem?_getD, List.getElem?_eq_getElem hlt]; rfl)
            obtain ⟨u', hu', hdu'⟩ := hy.2 off (nth .u m off) (by rw [nth_eq, List.getD_eq_getElem?_getD, List.getElem?_eq_getElem hlt']; rfl)
            refine ⟨_, _, part_sc hd hp hu, part_sc hd hp hu', ?_⟩
            rw [e2]
            exact hcmp _ _ _ _ _ _ ha hdu hdu'
        obtain ⟨vx, vy, k1, k2, k3⟩ := key
        rw [Op.eqFields]
        simp only [if_pos hname, Sem.run_bind, k1, k2, k3, Result.andThen_ok]
        cases a
        · simp
        · simpa using ih
      · cases h
    · cases h1
  | [], _ :: _, _, h, _, _ => by simp [all2] at h
  | _ :: _, [], _, h, _, _ => by simp [all2] at h

theorem fd_bound {eq : Bool} {t m : Nat} {fs : List FD} {z : List SC} (hT : TabOk P T) (ht : look T t = some (.st m fs z eq)) (h : fs.all (fun fd => decide (fd.off + fd.size ≤ m)) = true) : ∀ fd ∈ fs, fd.off + fd.size ≤ m :=
  fun fd hfd => by have := List.all_eq_true.1 h fd hfd; simpa using this
theorem eqT_run (hT : TabOk P T) : ∀ (d : Nat) (t : Nat) (x y : SW) (r : Bool) (vx vy : Value) (e : Nat), eqT T d t x y = some r → DenW ρ x vx → DenW ρ y vy → (Op.equalIn (d + e) t vx vy).run P w = .ok r w
  | 0, t, x, y, r, vx, vy, e, h, _, _ => by simp [eqT] at h
  | d + 1, t, x, y, r, vx, vy, e, h, hx, hy => by
    unfold eqT at h
    split at h
    · rename_i k z a b ht
      rw [show d + 1 + e = (d + e) + 1 by omega]
      exact eqS_run (d + e) hT ht h hx hy
    · rename_i m fs z l l' ht
      split at h
      · rename_i hl
        split at h
        · rename_i hl'
          split at h
          · rename_i hb
            rw [len_eq] at hl hl'
            obtain ⟨xs, rfl, hxs⟩ := hx
            obtain ⟨ys, rfl, hys⟩ := hy
            obtain ⟨i, F, v, hi, hu, hs, hz, hv, hzl, hfd, heq⟩ := td_st hT ht
            obtain ⟨hst, _⟩ := heq rfl
            have hF : P.fieldsOf t = F := by simp [Program.fieldsOf, hu]
            rw [show d + 1 + e = (d + e) + 1 by omega]
            rw [run_equalIn_struct (P := P) w (d + e) t xs ys (by rw [hF]; exact hu) hst, hF]
            exact eqF_run (cmp := eqT T d) (fun t x y r vx vy h hx hy => eqT_run hT d t x y r vx vy e h hx hy) hxs hys (by omega) fs F.toList r hfd (fun fd h => by rw [hl]; exact fd_bound hT ht hb fd h) h
          · cases h
        · cases h
      · cases h
    · cases h
def eqRes (op : BinOp) (r : Bool) : Bool := match op with | .neq => !r | _ => r
theorem ptrEq_eqT {t : Nat} {a b : SW} {r : Bool} (h : ptrEq T t a b = some r) : eqT T 9 t a b = some r := by
  unfold ptrEq at h
  split at h
  · split at h
    · rename_i a b k ht
      unfold eqT
      rw [ht]
      simp only
      split at h <;> first
        | exact h
        | cases h
    · cases h
  · cases h
theorem fine_eq {op : BinOp} {t yt : Nat} {x y : Operand} {a b : SW} {r : Bool} {ev : Operand → Value} (hT : TabOk P T) (h : eqT T 9 t a b = some r) (ho : op = .eql ∨ op = .neq) (hni : ∀ i j, a = .c (.i i) → b = .c (.i j) → False) (hm : Mem B w0 ρ φ U H w)
    (hx : DenW ρ a (ev x)) (hy : DenW ρ b (ev y)) (dst) (tt) (pos) (af) (gd) :
    Fine B w0 ρ U H ((execOp ev ⟨dst, .binOp op t x y yt, tt, pos, af, gd⟩).run P w) (.w (.c (.b (eqRes op r)))) [] n n := by
  have hrun := eqT_run (w := w) hT 9 t a b r _ _ 9991 h hx hy
  refine fine_same hm (u := .bool (eqRes op r)) ?_ rfl (fun _ hx => hx.elim)
  have hkind : (∃ b, ev x = .bool b) ∨ (∃ p, ev x = .pointer p) ∨ (∃ xs ys, ev x = .agg xs ∧ ev y = .agg ys ∧ P.eqGuardType P.depth t = false) := by
    unfold eqT at h
    split at h
    · unfold eqS at h
      split at h <;> simp only [DenW, DenC] at hx hy <;> first
        | (cases h; done)
        | exact (hni _ _ rfl rfl).elim
        | exact .inl ⟨_, hx⟩
        | exact .inr (.inl ⟨_, hx⟩)
        | (obtain ⟨_, _, hx⟩ := hx; exact .inr (.inl ⟨_, hx⟩))
    · rename_i m fs z l l' ht
      obtain ⟨xs, hv, _⟩ := hx
      obtain ⟨ys, hv', _⟩ := hy
      obtain ⟨i, F, v, hi, hu, hs, hz, hv2, hzl, hfd, heq⟩ := td_st hT ht
      exact .inr (.inr ⟨xs, ys, hv, hv', (heq rfl).2⟩)
    · cases h
  have hg : (eqGuard op t x y (ev x) (ev y)).run P w = .ok () w := by
    rcases ho with rfl | rfl <;> rcases hkind with ⟨b, hv⟩ | ⟨b, hv⟩ | ⟨xs, ys, hv, hv', he⟩ <;> first
      | simp [eqGuard, hv, hv', he]
      | simp [eqGuard, hv]
  have hb : (binOp op t (ev x) (ev y)).run P w = .ok (.bool (eqRes op r)) w := by
    have hq : (Op.equal t (ev x) (ev y)).run P w = .ok r w := hrun
    rcases ho with rfl | rfl
    · rcases hkind with ⟨b, hv⟩ | ⟨b, hv⟩ | ⟨b, _, hv, _⟩ <;> rw [hv] at hq ⊢ <;> simp [binOp, hq, eqRes]
    · rcases hkind with ⟨b, hv⟩ | ⟨b, hv⟩ | ⟨b, _, hv, _⟩ <;> rw [hv] at hq ⊢ <;> simp [binOp, hq, eqRes]
  simp only [execOp, Sem.run_bind, hg, hb, Result.andThen_ok]
  rfl
end
end Go.Eng
