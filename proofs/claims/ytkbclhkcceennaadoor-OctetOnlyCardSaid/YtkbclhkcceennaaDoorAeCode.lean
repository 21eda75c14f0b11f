import Derived.Test.YtkbclhkcceennaaDoorAeOpsH
set_option linter.unusedSimpArgs false
set_option linter.unusedVariables false
namespace Go.AE
open Go Go.RowKit

variable {P : Program} {ds : List Deferred} {w0 : KW} {m : Map} {s s' : St} {w : World} {v : Value}

def Glob (m : Map) : Prop := ∀ g, ∃ l, m (2 * g + 1) = some l ∧ l.blk = g ∧ l.sh = 0
theorem Glob.mono {m m' : Map} (h : Glob m) (hm : m.le m') : Glob m' := fun g => let ⟨l, h1, h2⟩ := h g; ⟨l, hm _ _ h1, h2⟩

structure FRel (ds : List Deferred) (w0 : KW) (m : Map) (f : FS) (a : Act) (w : World) : Prop where
  rel : Rel w0 m f.s w
  glob : Glob m
  tmps : ∀ i, VR m (ρof f.t (.tmp i)) (a.tmps.getD i undef)
  size : a.tmps.size = f.nt
  defers : a.defers = ds

theorem undef_VR (m : Map) : VR m undef undef := .tuple _ _ rfl (fun i x x' h => by simp at h)

theorem FRel.eval {f : FS} {a : Act} (h : FRel ds w0 m f a w) (x : Operand) (hx : okConst x = true) : VR m (ρof f.t x) (a.eval x) := by
  cases x with
  | tmp i => exact h.tmps i
  | const v => exact plain_VR m 8 v hx
  | global g =>
    obtain ⟨l, h1, h2, h3⟩ := h.glob g
    have := VR.ptr (m := m) ⟨2 * g + 1, 0, none⟩ l h1 rfl
    rw [h2, h3] at this
    exact this
  | func f => exact .func _ _ _ _ _ rfl rfl (fun i x x' h => by simp at h) (fun i x x' h => by simp at h)

/-- What a call by the evaluator means. -/
def CallOk (P : Program) (cf : CallF) : Prop := ∀ f args s v s', cf f args s = some (v, s') →
  (∃ fn, P.funcs[f]? = some fn ∧ (fn.name == "runtime.NumGoroutine") = false ∧ fn.body.isNone = false) ∧
  ∀ w0 m w (args' : Array Value), Rel w0 m s w → Glob m → VRs m args args'.toList → Calls P f args' w fun e w' => ∃ m' v', e = .returned v' ∧ m.le m' ∧ VR m' v v' ∧ Rel w0 m' s' w'

theorem run_callFunc {f : FuncId} {fn : Func} (hf : P.funcs[f]? = some fn) (hn : (fn.name == "runtime.NumGoroutine") = false) (hb : fn.body.isNone = false) (args : Array Value) : (callFunc f args).run P w = .ok (.enter f args) w := by
  simp only [callFunc, Sem.run_bind]
  have : (program).run P w = .ok P w := rfl
  rw [this]
  simp only [Result.andThen_ok, hf, hn, hb, Bool.false_eq_true, if_false, Sem.run_pure]

theorem evalAny_wp0 {cf : CallF} (hcf : CallOk P cf) {t : PT Value} {a : Act} {o : Oper} (h : evalAny P cf t o s = some (v, s')) (hRel : Rel w0 m s w) (hG : Glob m) (hev : ∀ x ∈ o.op.operands, okConst x = true → VR m (ρof t x) (a.eval x)) {next : Act → World → Prop} {Q : Exit → Act → World → Prop}
    (hn : ∀ m' v' w', m.le m' → VR m' v v' → Rel w0 m' s' w' → next (a.put o.dst v') w') : o.wp P a w next Q := by
  replace h := Option.bind_eq_some_iff.1 h; obtain ⟨_, hok, h⟩ := h
  have hok := ck_some hok
  have hρ : ∀ x ∈ o.op.operands, VR m (ρof t x) (a.eval x) := fun x hx => hev x hx (by
    have := List.all_eq_true.1 hok x (Array.mem_toList_iff.2 hx); exact this)
  split at h
  · rename_i g args hct
    split at h
    · rename_i gid first captured hfn
      -- a call of a function
      have hop : ∃ argTypes, o.op = .call { callee := .value g, args, argTypes } := by
        unfold callTarget at hct
        split at hct
        · rename_i f' args' aty heq
          simp only [Option.some.injEq, Prod.mk.injEq] at hct
          obtain ⟨rfl, rfl⟩ := hct
          exact ⟨_, heq⟩
        · cases hct
      obtain ⟨aty, hop⟩ := hop
      have hg := hρ g (by rw [hop]; simp [Op.operands, Call.operands])
      rw [hfn] at hg
      have hargs : ∀ x ∈ args.toList, VR m (ρof t x) (a.eval x) := fun x hx => hρ x (by rw [hop]; simp [Op.operands, Call.operands]; exact .inr (by simpa using hx))
      cases hge : a.eval g <;> rw [hge] at hg <;> try (cases hg; done)
      rename_i fn' first' captured'
      cases hg with
      | func _ _ _ _ _ hsz1 hsz2 hv1 hv2 =>
        obtain ⟨⟨fn, e1, e2, e3⟩, hc⟩ := hcf _ _ _ _ _ h
        have hrun : (execOp a.eval o).run P w = .ok (.enter gid (first' ++ args.map a.eval ++ captured')) w := by
          simp only [execOp, hop, resolve, hge, Deferred.ofValue, Sem.run_bind, Sem.run_pure, Result.andThen_ok, invoke]
          exact run_callFunc e1 e2 e3 _
        have := hc w0 m w (first' ++ args.map a.eval ++ captured') hRel hG (by
          simp only [Array.toList_append, Array.toList_map]
          exact ((VRs.of_arr hsz1 hv1).append (VRs.map _ hargs)).append (VRs.of_arr hsz2 hv2))
        unfold Oper.wp
        rw [hrun, Oper.upon_enter]
        refine this.mono ?_
        rintro e w' ⟨m', v', rfl, k1, k2, k3⟩
        exact hn m' v' w' k1 k2 k3
    · cases h
  · obtain ⟨m', w', v', nx, h1, h2, h3, h4, h5⟩ := evalOp_sound h hRel hρ
    unfold Oper.wp
    rw [h1]
    rcases h5 with rfl | ⟨rfl, rfl⟩
    · rw [Oper.upon_value]; exact hn m' v' w' h2 h3 h4
    · rw [Oper.upon_skip]; exact hn m' undef w' h2 h3 h4

theorem evalAny_wp {cf : CallF} (hcf : CallOk P cf) {f : FS} {a : Act} {o : Oper} (h : evalAny P cf f.t o f.s = some (v, s')) (hR : FRel ds w0 m f a w) {next : Act → World → Prop} {Q : Exit → Act → World → Prop}
    (hn : ∀ m' v' w', m.le m' → VR m' v v' → Rel w0 m' s' w' → next (a.put o.dst v') w') : o.wp P a w next Q :=
  evalAny_wp0 hcf h hR.rel hR.glob (fun x _ hx => hR.eval x hx) hn

theorem putT_some {f f' : FS} {d : Option Tmp} {v : Value} {s : St} (h : putT f d v s = some f') : f'.s = s ∧ f'.nt = f.nt ∧ (∀ x, d = some x → x < f.nt) ∧ ∀ i, ρof f'.t (.tmp i) = if d = some i then v else ρof f.t (.tmp i) := by
  cases d with
  | none =>
    simp only [putT, Option.some.injEq] at h; subst h
    refine ⟨rfl, rfl, ?_, ?_⟩
    · intro x h; cases h
    · intro i; rw [if_neg (by intro h; cases h)]
  | some d =>
    simp only [putT] at h
    replace h := Option.bind_eq_some_iff.1 h; obtain ⟨_, hlt, h⟩ := h
    simp only [Option.some.injEq] at h; subst h
    refine ⟨rfl, rfl, fun x h => by cases h; exact blt_lt (ck_some hlt), fun i => ?_⟩
    simp only [ρof, PT.get_set]
    by_cases e : i = d
    · subst e; simp
    · rw [if_neg e, if_neg (fun h => e (by cases h; rfl))]

theorem FRel.put {f f' : FS} {a : Act} (hR : FRel ds w0 m f a w) {d : Option Tmp} {v v' : Value} {s' : St} (h : putT f d v s' = some f') {m' : Map} {w' : World} (hm : m.le m') (hv : VR m' v v') (hR' : Rel w0 m' s' w') : FRel ds w0 m' f' (a.put d v') w' := by
  obtain ⟨h1, h2, h3, h4⟩ := putT_some h
  refine ⟨h1 ▸ hR', hR.glob.mono hm, fun i => ?_, ?_, ?_⟩
  · rw [h4]
    cases d with
    | none => simpa [Act.put] using (hR.tmps i).mono hm
    | some d =>
      have hd : d < a.tmps.size := by rw [hR.size]; exact h3 d rfl
      simp only [Act.put]
      by_cases e : d = i
      · subst e
        rw [if_pos rfl]
        simp [Array.getD, hd]; exact hv
      · rw [if_neg (fun h => e (by cases h; rfl))]
        have := (hR.tmps i).mono hm
        simpa [Array.getD_eq_getD_getElem?, Array.getElem?_setIfInBounds_ne e] using this
  · rw [h2, ← hR.size]; cases d <;> simp [Act.put]
  · rw [← hR.defers]; cases d <;> rfl

theorem yielded_eq {f : FS} {a : Act} (hR : FRel ds w0 m f a w) (ops : Array Oper) : yieldedE ops f.t = yielded ops a.tmps := by
  funext j
  unfold yieldedE yielded
  cases ops[j]? with
  | none => rfl
  | some o =>
    simp only [Option.bind_some]
    cases o.dst with
    | none => rfl
    | some d =>
      simp only [Option.bind_some]
      have h := hR.tmps d
      simp only [ρof] at h
      rw [Array.getD_eq_getD_getElem?] at h
      cases hg : f.t.get d with
      | none =>
        rw [hg] at h
        cases ht : a.tmps[d]? with
        | none => rfl
        | some u => rw [ht] at h; simp only [Option.getD_some] at h; cases h; rfl
      | some u =>
        rw [hg] at h
        cases ht : a.tmps[d]? with
        | none => rw [ht] at h; simp only [Option.getD_none] at h; cases h; rfl
        | some u' => rw [ht] at h; simp only [Option.getD_some] at h; cases h <;> rfl

theorem evalOps_sound {cf : CallF} (hcf : CallOk P cf) (ops : Array Oper) {Q : Exit → Act → World → Prop} : ∀ (l : List Oper) (k : Nat) (f f' : FS) (m : Map) (a : Act) (w : World), l = ops.toList.drop k → evalOps P cf ops l f = some f' → FRel ds w0 m f a w →
    (∀ m' a' w', m.le m' → FRel ds w0 m' f' a' w' → Q .normal a' w') → wpOps P ops Q (List.range' k l.length) a w
  | [], k, f, f', m, a, w, hl, h, hR, hQ => by
    simp only [evalOps, Option.some.injEq] at h; subst h
    exact hQ m a w (Map.le_refl m) hR
  | o :: l, k, f, f', m, a, w, hl, h, hR, hQ => by
    have hok : ops[k]? = some o := by
      have : (ops.toList.drop k)[0]? = some o := by rw [← hl]; rfl
      simpa using this
    have hl' : l = ops.toList.drop (k + 1) := by
      have : (ops.toList.drop k).tail = ops.toList.drop (k + 1) := by simp
      rw [← this, ← hl]; rfl
    have hwe : Region.wanted o (yieldedE ops f.t) = Region.wanted o (yielded ops a.tmps) := by rw [yielded_eq hR]
    simp only [List.length_cons, List.range'_succ]
    rw [wpOps_cons]
    unfold wpOp
    simp only [hok]
    simp only [evalOps, hwe] at h
    split at h
    · rename_i hw
      rw [if_pos hw]
      replace h := Option.bind_eq_some_iff.1 h; obtain ⟨p, hp, h⟩ := h
      replace h := Option.bind_eq_some_iff.1 h; obtain ⟨f1, hf1, h⟩ := h
      refine .inl (evalAny_wp (v := p.1) (s' := p.2) hcf hp hR fun m' v' w' h1 h2 h3 => ?_)
      exact evalOps_sound hcf ops l (k + 1) f1 f' m' _ _ hl' h (hR.put hf1 h1 h2 h3) fun m'' a'' w'' k1 k2 => hQ m'' a'' w'' (h1.trans k1) k2
    · rename_i hw
      rw [if_neg (by rw [hw]; simp)]
      replace h := Option.bind_eq_some_iff.1 h; obtain ⟨f1, hf1, h⟩ := h
      exact evalOps_sound hcf ops l (k + 1) f1 f' m _ _ hl' h (hR.put hf1 (Map.le_refl m) (undef_VR m) hR.rel) hQ

/-- What the evaluator of a region that draws its order means. -/
def DrawOk (P : Program) (df : DrawF) : Prop := ∀ ops f f', df ops f = some f' → ∀ ds w0 m a w id (Q : Exit → Act → World → Prop), FRel ds w0 m f a w →
  (∀ m' a' w', m.le m' → FRel ds w0 m' f' a' w' → Q .normal a' w') → (Code.region id ops true).wp P Q a w

def toExit : Ex → Exit
  | .normal => .normal
  | .exit i => .exit i
  | .ret => .ret

theorem evalCode_sound {cf : CallF} {df : DrawF} (hcf : CallOk P cf) (hdf : DrawOk P df) (lf : Nat) : ∀ (c : Code) (Q : Exit → Act → World → Prop) (f f' : FS) (x : Ex) (m : Map) (a : Act) (w : World), evalCode P cf df lf c f = some (x, f') → FRel ds w0 m f a w →
    (∀ m' a' w', m.le m' → FRel ds w0 m' f' a' w' → Q (toExit x) a' w') → c.wp P Q a w := by
  intro c
  induction c with
  | skip =>
    intro Q f f' x m a w h hR hQ
    simp only [evalCode, Option.some.injEq, Prod.mk.injEq] at h
    obtain ⟨rfl, rfl⟩ := h
    exact wp_skip (hQ m a w (Map.le_refl m) hR)
  | region id ops draw =>
    intro Q f f' x m a w h hR hQ
    simp only [evalCode] at h
    cases draw with
    | false =>
      simp only at h
      replace h := Option.bind_eq_some_iff.1 h; obtain ⟨f1, hf1, h⟩ := h
      simp only [Option.some.injEq, Prod.mk.injEq] at h
      obtain ⟨rfl, rfl⟩ := h
      refine wp_region ?_
      have := evalOps_sound (Q := Q) hcf ops ops.toList 0 f f1 m a w rfl hf1 hR hQ
      rwa [← List.range_eq_range', Array.length_toList] at this
    | true =>
      simp only at h
      replace h := Option.bind_eq_some_iff.1 h; obtain ⟨f1, hf1, h⟩ := h
      simp only [Option.some.injEq, Prod.mk.injEq] at h
      obtain ⟨rfl, rfl⟩ := h
      exact hdf ops f f1 hf1 ds w0 m a w id Q hR hQ
  | seq x y ihx ihy =>
    intro Q f f' e m a w h hR hQ
    simp only [evalCode] at h
    replace h := Option.bind_eq_some_iff.1 h; obtain ⟨p, hp, h⟩ := h
    obtain ⟨e1, f1⟩ := p
    refine wp_seq (ihx _ f f1 e1 m a w hp hR fun m1 a1 w1 h1 h2 => ?_)
    cases e1 with
    | normal => exact ihy Q f1 f' e m1 a1 w1 h h2 fun m2 a2 w2 k1 k2 => hQ m2 a2 w2 (h1.trans k1) k2
    | exit i =>
      simp only [Option.some.injEq, Prod.mk.injEq] at h
      obtain ⟨rfl, rfl⟩ := h
      exact hQ m1 a1 w1 h1 h2
    | ret =>
      simp only [Option.some.injEq, Prod.mk.injEq] at h
      obtain ⟨rfl, rfl⟩ := h
      exact hQ m1 a1 w1 h1 h2
  | cond c x y ihx ihy =>
    intro Q f f' e m a w h hR hQ
    simp only [evalCode] at h
    have hb : ∀ b, ρof f.t c = .bool b → a.eval c = .bool b := fun b hb => by
      cases c with
      | tmp i => have := hR.tmps i; rw [hb] at this; show a.tmps.getD i undef = _; generalize a.tmps.getD i undef = u at this; cases this; rfl
      | const v => exact hb
      | global g => simp [ρof] at hb
      | func f => simp [ρof] at hb
    split at h
    · rename_i hc
      exact wp_cond_true (hb _ hc) (ihx Q f f' e m a w h hR hQ)
    · rename_i hc
      exact wp_cond_false (hb _ hc) (ihy Q f f' e m a w h hR hQ)
    · cases h
  | block id c ih =>
    intro Q f f' e m a w h hR hQ
    simp only [evalCode] at h
    replace h := Option.bind_eq_some_iff.1 h; obtain ⟨p, hp, h⟩ := h
    obtain ⟨e1, f1⟩ := p
    refine wp_block (ih _ f f1 e1 m a w hp hR fun m1 a1 w1 h1 h2 => ?_)
    cases e1 with
    | normal =>
      simp only [Option.some.injEq, Prod.mk.injEq] at h
      obtain ⟨rfl, rfl⟩ := h
      exact hQ m1 a1 w1 h1 h2
    | exit i =>
      simp only at h
      by_cases hi : i = id
      · subst hi
        rw [show Nat.beq i i = true from by simp, cond_true] at h
        simp only [Option.some.injEq, Prod.mk.injEq] at h
        obtain ⟨rfl, rfl⟩ := h
        show (if i = i then Q .normal a1 w1 else Q (.exit i) a1 w1)
        rw [if_pos rfl]
        exact hQ m1 a1 w1 h1 h2
      · rw [show Nat.beq i id = false from by rw [Bool.eq_false_iff]; intro hx; exact hi (Nat.eq_of_beq_eq_true hx), cond_false] at h
        simp only [Option.some.injEq, Prod.mk.injEq] at h
        obtain ⟨rfl, rfl⟩ := h
        show (if i = id then Q .normal a1 w1 else Q (.exit i) a1 w1)
        rw [if_neg hi]
        exact hQ m1 a1 w1 h1 h2
    | ret =>
      simp only [Option.some.injEq, Prod.mk.injEq] at h
      obtain ⟨rfl, rfl⟩ := h
      exact hQ m1 a1 w1 h1 h2
  | loop c ih =>
    intro Q f f' e m a w h hR hQ
    simp only [evalCode] at h
    refine wp_loop_rounds lf ?_
    have key : ∀ (n : Nat) (f : FS) (m : Map) (a : Act) (w : World), loopE (evalCode P cf df lf c) n f = some (e, f') → FRel ds w0 m f a w → (∀ m' a' w', m.le m' → FRel ds w0 m' f' a' w' → Q (toExit e) a' w') → Code.rounds P c Q n a w := by
      intro n
      induction n with
      | zero => intro f m a w h; cases h
      | succ n ihn =>
        intro f m a w h hR hQ
        simp only [loopE] at h
        replace h := Option.bind_eq_some_iff.1 h; obtain ⟨p, hp, h⟩ := h
        obtain ⟨e1, f1⟩ := p
        rw [rounds_succ]
        refine ih _ f f1 e1 m a w hp hR fun m1 a1 w1 h1 h2 => ?_
        cases e1 with
        | normal => exact ihn f1 m1 a1 w1 h h2 fun m2 a2 w2 k1 k2 => hQ m2 a2 w2 (h1.trans k1) k2
        | exit i =>
          simp only [Option.some.injEq, Prod.mk.injEq] at h
          obtain ⟨rfl, rfl⟩ := h
          exact hQ m1 a1 w1 h1 h2
        | ret =>
          simp only [Option.some.injEq, Prod.mk.injEq] at h
          obtain ⟨rfl, rfl⟩ := h
          exact hQ m1 a1 w1 h1 h2
    exact key lf f m a w h hR hQ
  | rangeFunc => intro Q f f' e m a w h; simp [evalCode] at h
  | exit id =>
    intro Q f f' e m a w h hR hQ
    simp only [evalCode, Option.some.injEq, Prod.mk.injEq] at h
    obtain ⟨rfl, rfl⟩ := h
    exact wp_exit (hQ m a w (Map.le_refl m) hR)
  | scope => intro Q f f' e m a w h; simp [evalCode] at h
  | label => intro Q f f' e m a w h; simp [evalCode] at h
  | goto => intro Q f f' e m a w h; simp [evalCode] at h
  | ret =>
    intro Q f f' e m a w h hR hQ
    simp only [evalCode, Option.some.injEq, Prod.mk.injEq] at h
    obtain ⟨rfl, rfl⟩ := h
    exact wp_ret (hQ m a w (Map.le_refl m) hR)
  | refuse => intro Q f f' e m a w h; simp [evalCode] at h

theorem resOne_sound {f : FS} {a : Act} (hR : FRel ds w0 m f a w) {r : ResultVar} (h : resOne P f r = some v) :
    ∃ v', (match r with | .tmp t => pure (a.tmps.getD t undef) | .cell i t => (do loadVar t (← asAddr (a.tmps.getD i undef))) : Sem Value).run P w = .ok v' w ∧ VR m v v' := by
  cases r with
  | tmp t =>
    simp only [resOne, Option.some.injEq] at h; subst h
    exact ⟨_, rfl, hR.tmps t⟩
  | cell i t =>
    simp only [resOne] at h
    replace h := Option.bind_eq_some_iff.1 h; obtain ⟨p, hp, h⟩ := h
    simp only [Option.some.injEq] at h; subst h
    have hx := hR.tmps i
    have hp0 := hp
    unfold eLoad at hp
    replace hp := Option.bind_eq_some_iff.1 hp; obtain ⟨ad, had, hp⟩ := hp
    obtain ⟨l, hl, hs, he⟩ := asPtr_VR had hx
    replace hp := Option.bind_eq_some_iff.1 hp; obtain ⟨g, hg, hp⟩ := hp
    simp only [he, asAddr, Sem.run_bind, Sem.run_pure, Result.andThen_ok]
    cases g with
    | false =>
      replace hp := Option.bind_eq_some_iff.1 hp; obtain ⟨u, hu, hp⟩ := hp
      simp only [Option.some.injEq] at hp; subst hp
      obtain ⟨u', k1, k2, k3⟩ := hR.rel.load hl hu
      exact ⟨u', by simp [loadVar, r_isAgg hg, k1], k2⟩
    | true =>
      replace hp := Option.bind_eq_some_iff.1 hp; obtain ⟨n, hn, hp⟩ := hp
      replace hp := Option.bind_eq_some_iff.1 hp; obtain ⟨vs, hvs, hp⟩ := hp
      simp only [Option.some.injEq] at hp; subst hp
      obtain ⟨vs', k1, k2, k3, k4⟩ := hR.rel.run_loads P hl hvs
      exact ⟨_, by simp [loadVar, r_isAgg hg, r_size hn, k4], VR.agg' k1⟩

theorem resList_sound {f : FS} {a : Act} (hR : FRel ds w0 m f a w) : ∀ (rs : List ResultVar) (vs : List Value), resList P f rs = some vs →
    ∃ vs', (rs.mapM fun r => (match r with | .tmp t => pure (a.tmps.getD t undef) | .cell i t => (do loadVar t (← asAddr (a.tmps.getD i undef))) : Sem Value)).run P w = .ok vs' w ∧ VRs m vs vs'
  | [], vs, h => by
    simp only [resList, Option.some.injEq] at h; subst h
    exact ⟨[], rfl, VRs.nil m⟩
  | r :: rs, vs, h => by
    simp only [resList] at h
    replace h := Option.bind_eq_some_iff.1 h; obtain ⟨v, hv, h⟩ := h
    replace h := Option.bind_eq_some_iff.1 h; obtain ⟨us, hus, h⟩ := h
    simp only [Option.some.injEq] at h; subst h
    obtain ⟨v', k1, k2⟩ := resOne_sound hR hv
    obtain ⟨vs', k3, k4⟩ := resList_sound hR rs us hus
    exact ⟨v' :: vs', by rw [List.mapM_cons]; simp only [Sem.run_bind, k1, Result.andThen_ok, k3, Sem.run_pure], VRs.cons k2 k4⟩

theorem resultsE_sound {f : FS} {a : Act} (hR : FRel ds w0 m f a w) {fn : Func} (h : resultsE P fn f = some v) : ∃ v', (results fn a.tmps).run P w = .ok v' w ∧ VR m v v' := by
  replace h := Option.bind_eq_some_iff.1 h; obtain ⟨vs, hvs, h⟩ := h
  obtain ⟨vs', k1, k2⟩ := resList_sound hR _ vs hvs
  have hm : (fn.results.mapM fun r => (match r with | .tmp t => pure (a.tmps.getD t undef) | .cell i t => (do loadVar t (← asAddr (a.tmps.getD i undef))) : Sem Value)).run P w = .ok vs'.toArray w := by
    rw [Array.mapM_eq_mapM_toList, Sem.run_map, k1]
    rfl
  have hres : (results fn a.tmps).run P w = .ok (if h : vs'.toArray.size = 1 then vs'.toArray[0] else .tuple vs'.toArray) w := by
    unfold results
    simp only [Sem.run_bind]
    have : ∀ {x y : Sem (Array Value)}, x = y → y.run P w = .ok vs'.toArray w → x.run P w = .ok vs'.toArray w := fun e h => e ▸ h
    rw [this (by rfl) hm]
    rfl
  rw [hres]
  refine ⟨_, rfl, ?_⟩
  split at h
  · rename_i u
    simp only [Option.some.injEq] at h; subst h
    match vs', k2 with
    | [u'], k2 => exact k2.uncons.1
    | [], k2 => have := k2.1; simp at this
    | _ :: _ :: _, k2 => have := k2.1; simp at this
  · rename_i hne
    simp only [Option.some.injEq] at h; subst h
    have hn : vs'.length ≠ 1 := by
      rw [← k2.1]; intro h1
      match vs, h1 with
      | [u], _ => exact hne u rfl
    rw [dif_neg (by simpa using hn)]
    exact VR.tuple' k2

/-- What stands for a function that is not walked. -/
def ExtOk (P : Program) (X : ExtF) : Prop := ∀ f g, X f = some g → ∀ args s v s', g args s = some (v, s') →
  (∃ fn, P.funcs[f]? = some fn ∧ (fn.name == "runtime.NumGoroutine") = false ∧ fn.body.isNone = false) ∧
  ∀ w0 m w (args' : Array Value), Rel w0 m s w → Glob m → VRs m args args'.toList → Calls P f args' w fun e w' => ∃ m' v', e = .returned v' ∧ m.le m' ∧ VR m' v v' ∧ Rel w0 m' s' w'

theorem args_tmps {args : List Value} {args' : Array Value} (h : VRs m args args'.toList) (n : Nat) (i : Nat) : VR m (ρof (setCells .leaf 0 args) (.tmp i)) ((args' ++ Array.replicate n undef).getD i undef) := by
  have hlen : args.length = args'.size := by simpa using h.1
  simp only [ρof]
  rw [get_setCells, Array.getD_eq_getD_getElem?]
  by_cases hi : i < args.length
  · rw [if_pos ⟨Nat.zero_le _, by omega⟩, Nat.sub_zero, List.getElem?_eq_getElem hi, Array.getElem?_append_left (by omega), Array.getElem?_eq_getElem (by omega)]
    exact h.2 i _ _ (List.getElem?_eq_getElem hi) (by simp)
  · rw [if_neg (by omega), PT.get_leaf, Array.getElem?_append_right (by omega)]
    by_cases h2 : i - args'.size < n
    · simp [Array.getElem?_replicate, h2]; exact undef_VR m
    · simp [Array.getElem?_replicate, h2]; exact undef_VR m

theorem callE_sound {X : ExtF} {dr : CallF → DrawF} (hX : ExtOk P X) (hdr : ∀ cf, CallOk P cf → DrawOk P (dr cf)) (lf : Nat) : ∀ n, CallOk P (callE P X dr lf n) := by
  intro n
  induction n with
  | zero => intro f args s v s' h; cases h
  | succ n ih =>
    intro f args s v s' h
    simp only [callE] at h
    split at h
    · rename_i g hg
      exact hX f g hg args s v s' h
    · replace h := Option.bind_eq_some_iff.1 h; obtain ⟨fn, hfn, h⟩ := h
      replace h := Option.bind_eq_some_iff.1 h; obtain ⟨c, hc, h⟩ := h
      replace h := Option.bind_eq_some_iff.1 h; obtain ⟨_, hck, h⟩ := h
      replace h := Option.bind_eq_some_iff.1 h; obtain ⟨p, hp, h⟩ := h
      obtain ⟨e, f1⟩ := p
      have hck := ck_some hck
      simp only [Bool.and_eq_true, Bool.not_eq_true'] at hck
      have hnt := Nat.le_of_ble_eq_true hck.2
      refine ⟨⟨fn, hfn, hck.1, by rw [hc]; rfl⟩, fun w0 m w args' hR hg hv => ?_⟩
      have hlen : args.length = args'.size := by simpa using hv.1
      refine calls_of_wp hfn hc ?_
      have hF : FRel [] w0 m { t := setCells .leaf 0 args, nt := fn.ntmps, s } { tmps := args' ++ Array.replicate (fn.ntmps - args'.size) undef, defers := [] } w :=
        ⟨hR, hg, args_tmps hv _, by simp; omega, rfl⟩
      refine evalCode_sound ih (hdr _ ih) lf c _ _ f1 e m _ w hp hF fun m' a' w' h1 h2 => ?_
      cases e with
      | exit i => cases h
      | normal =>
        replace h := Option.bind_eq_some_iff.1 h; obtain ⟨u, hu, h⟩ := h
        simp only [Option.some.injEq, Prod.mk.injEq] at h
        obtain ⟨rfl, rfl⟩ := h
        obtain ⟨u', k1, k2⟩ := resultsE_sound h2 hu
        exact ⟨h2.defers, u', k1, m', u', rfl, h1, k2, h2.rel⟩
      | ret =>
        replace h := Option.bind_eq_some_iff.1 h; obtain ⟨u, hu, h⟩ := h
        simp only [Option.some.injEq, Prod.mk.injEq] at h
        obtain ⟨rfl, rfl⟩ := h
        obtain ⟨u', k1, k2⟩ := resultsE_sound h2 hu
        exact ⟨h2.defers, u', k1, m', u', rfl, h1, k2, h2.rel⟩

end Go.AE
