import Derived.Test.YtgopjbnmbaeelaaGreatDoorAePanD
import Derived.Recover
set_option linter.unusedVariables false
set_option linter.unusedSimpArgs false
/-! Functions that may panic: a panic ends the whole evaluation, with a mark. -/
namespace Go.AE.F
open Go Go.AE Go.RowKit
noncomputable section
variable {P : Program}

def PAN (v : Value) : Value := .tuple #[v]
def oneL (l : List Value) : Bool := List.rec (motive := fun _ => Bool) false (fun _ l _ => List.rec (motive := fun _ => Bool) true (fun _ _ _ => false) l) l
def isPan (v : Value) : Bool := Option.rec (motive := fun _ => Bool) false oneL (vTuple v)
theorem isPan_PAN (v : Value) : isPan (PAN v) = true := rfl

/-- Only what comes back. -/
def cfN (cf : CF) : CF := fun f => .mk fun args s K => optK ((cf f).go args s fun v s => some (v, s)) none fun p => Prod.rec (motive := fun _ => A) (fun v s => iteB (isPan v) none (K v s)) p

def isIf (v : Value) : Bool := match v with
  | .iface _ _ => true
  | _ => false
def isPanicOp (o : Op) : Option Operand := match o with
  | .panic x => some x
  | _ => none
def compOpP (P : Program) (cf : CF) (o : Oper) : OpC := Option.rec (motive := fun _ => OpC) (compOp P cf o)
  (fun x => Bool.rec (motive := fun _ => OpC) (.mk fun _ _ _ => none) (.mk fun t s _ => opd x t fun v => iteB (plain 8 v) (iteB (isIf v) (some (PAN v, s)) none) none) (okOp o)) (isPanicOp o.op)
def compOpsP (P : Program) (cf : CF) (nt : Nat) (ops : Array Oper) (l : List Oper) : RC :=
  List.rec (motive := fun _ => RC) (.mk fun t s K => K t s)
    (fun o _ ih => Option.rec (motive := fun _ => RC)
      (.mk fun t s K => (compOpP P cf o).go t s fun v s' => putK o.dst nt v t fun t' => ih.go t' s' K)
      (fun _ => .mk fun t s K => iteB (Region.wanted o (yieldedE ops t)) ((compOpP P cf o).go t s fun v s' => putK o.dst nt v t fun t' => ih.go t' s' K) (putK o.dst nt undef t fun t' => ih.go t' s K)) o.guard) l
def compCodeP (P : Program) (cf : CF) (dk : Array Oper → RC) (lf nt : Nat) : Code → CC
  | .skip => .mk fun t s K => K .normal t s
  | .region _ ops draw => match draw with
    | false => .mk fun t s K => (compOpsP P cf nt ops ops.toList).go t s fun t' s' => K .normal t' s'
    | true => .mk fun t s K => (dk ops).go t s fun t' s' => K .normal t' s'
  | .seq a b => .mk fun t s K => (compCodeP P cf dk lf nt a).go t s fun e t' s' => Ex.rec (motive := fun _ => A) ((compCodeP P cf dk lf nt b).go t' s' K) (fun i => K (.exit i) t' s') (K .ret t' s') e
  | .cond c a b => .mk fun t s K => opd c t fun v => condK v ((compCodeP P cf dk lf nt a).go t s K) ((compCodeP P cf dk lf nt b).go t s K)
  | .block id a => .mk fun t s K => (compCodeP P cf dk lf nt a).go t s fun e t' s' => Ex.rec (motive := fun _ => A) (K .normal t' s') (fun i => iteB (Nat.beq i id) (K .normal t' s') (K (.exit i) t' s')) (K .ret t' s') e
  | .loop a => .mk fun t s K => loopK (compCodeP P cf dk lf nt a) lf t s K
  | .exit i => .mk fun t s K => K (.exit i) t s
  | .ret => .mk fun t s K => K .ret t s
  | _ => .mk fun _ _ _ => none

def lastOf (ops : Array Oper) : Option Oper := (ops[ops.size - 1]?).bind fun o => cond (lastOk ops o) (some o) none
def drawP (P : Program) (cf : CF) (nt : Nat) (ops : Array Oper) : RC := Option.rec (motive := fun _ => RC) (drawK P (cfN cf) nt ops)
  (fun o => .mk fun t s K => (drawK P (cfN cf) nt (dummyL ops o)).go t s fun t' s' => (compOpP P cf o).go t' s' fun v s'' => putK o.dst nt v t' fun t'' => K t'' s'') (lastOf ops)

def fnP (P : Program) (X : ExtF) (lf : Nat) : Nat → CF :=
  Nat.rec (motive := fun _ => CF) (fun _ => .mk fun _ _ _ => none)
    (fun _ cf f => match X f with
      | some g => .mk fun args s K => optK (g args s) none fun p => Prod.rec (motive := fun _ => A) (fun v s => K v s) p
      | none => match P.funcs[f]? with
        | some fn => match fn.body with
          | some c => Bool.rec (motive := fun _ => FC) (.mk fun args s K => iteB (Nat.ble args.length fn.ntmps)
              (setCellsK args .leaf 0 fun t => (compCodeP P cf (drawP P cf fn.ntmps) lf fn.ntmps c).go t s fun e t' s' =>
                Ex.rec (motive := fun _ => A) (resK P fn.results.toList t' s' fun v => K v s') (fun _ => none) (resK P fn.results.toList t' s' fun v => K v s') e) none)
              (.mk fun _ _ _ => none) (fn.name == "runtime.NumGoroutine")
          | none => .mk fun _ _ _ => none
        | none => .mk fun _ _ _ => none)

/-! ### what it means -/
abbrev chainOf (v : Value) : List PanicEntry := [{ v, recovered := false }]

def FEnd (w0 : KW) (m : Map) (K : KS) (ans : Value × St) (e : Ending) (w' : World) : Prop :=
  (∃ m' v v' s', e = .returned v' ∧ m.le m' ∧ VR m' v v' ∧ Rel w0 m' s' w' ∧ K v s' = some ans) ∨
  (∃ m' v s', e = .panicked (chainOf v) ∧ plain 8 v = true ∧ ans = (PAN v, s') ∧ m.le m' ∧ Rel w0 m' s' w')

def FSound (P : Program) (cf : CF) : Prop := ∀ f args s (K : KS) ans, (cf f).go args s K = some ans →
  (∃ fn, P.funcs[f]? = some fn ∧ (fn.name == "runtime.NumGoroutine") = false ∧ fn.body.isNone = false) ∧
  ∀ w0 m w (args' : Array Value), Rel w0 m s w → Glob m → VRs m args args'.toList → Calls P f args' w (FEnd w0 m K ans)

theorem cfN_nat (cf : CF) : Nat' (cfN cf) := by
  intro f args s K
  show optK ((cf f).go args s fun v s => some (v, s)) none _ = thenK (optK ((cf f).go args s fun v s => some (v, s)) none _) K
  rw [optK_eq, optK_eq]
  cases (cf f).go args s fun v s => some (v, s) with
  | none => rfl
  | some p =>
    obtain ⟨v, s'⟩ := p
    simp only [Option.elim, iteB_eq, thenK]
    cases isPan v <;> rfl

theorem cfN_ok {cf : CF} (h : FSound P cf) : CallOk P (cfD (cfN cf)) := by
  intro f args s v s' hc
  have hc' : optK ((cf f).go args s fun v s => some (v, s)) none (fun p => Prod.rec (motive := fun _ => A) (fun v s => iteB (isPan v) none (some (v, s))) p) = some (v, s') := hc
  rw [optK_eq] at hc'
  cases hg : (cf f).go args s fun v s => some (v, s) with
  | none => rw [hg] at hc'; cases hc'
  | some p =>
    obtain ⟨u, s1⟩ := p
    rw [hg] at hc'
    simp only [Option.elim, iteB_eq] at hc'
    split at hc'
    · cases hc'
    · rename_i hp
      simp only [Option.some.injEq, Prod.mk.injEq] at hc'
      obtain ⟨rfl, rfl⟩ := hc'
      obtain ⟨h1, h2⟩ := h f args s _ _ hg
      refine ⟨h1, fun w0 m w args' hR hG hv => (h2 w0 m w args' hR hG hv).mono ?_⟩
      rintro e w' (⟨m', v0, v', s0, rfl, hm, hv', hR', hk⟩ | ⟨m', v0, s0, rfl, _, ha, _⟩)
      · simp only [Option.some.injEq, Prod.mk.injEq] at hk
        obtain ⟨rfl, rfl⟩ := hk
        exact ⟨m', v', rfl, hm, hv', hR'⟩
      · simp only [Prod.mk.injEq] at ha
        obtain ⟨rfl, _⟩ := ha
        exact absurd (isPan_PAN v0) (by simpa using hp)

theorem compOp_call {cf : CF} {dst : Option Tmp} {f : Operand} {args : Array Operand} {argTypes : Array TypeId} {type : TypeId} {pos : String} {after : Array Edge} {guard} (hok : okOp ⟨dst, .call ⟨.value f, args, argTypes⟩, type, pos, after, guard⟩ = true) (t : PT Value) (s : St) (K : KS) :
    (compOp P cf ⟨dst, .call ⟨.value f, args, argTypes⟩, type, pos, after, guard⟩).go t s K = fnK (ρof t f) fun g a b => (cf g).go (a ++ args.toList.map (ρof t) ++ b) s K := by
  unfold compOp
  rw [hok]
  cases f with
  | func g =>
    show (opds args.toList t fun vs => (cf g).go vs s K) = (cf g).go ([] ++ args.toList.map (ρof t) ++ []) s K
    rw [opds_eq, List.nil_append, List.append_nil]
  | tmp i =>
    show (opd (.tmp i) t fun v => fnK v fun g a b => opds args.toList t fun vs => (cf g).go (a ++ vs ++ b) s K) = _
    rw [opd_eq]
    simp only [opds_eq]
  | const v =>
    show (opd (.const v) t fun v => fnK v fun g a b => opds args.toList t fun vs => (cf g).go (a ++ vs ++ b) s K) = _
    rw [opd_eq]
    simp only [opds_eq]
  | global g =>
    show (opd (.global g) t fun v => fnK v fun g a b => opds args.toList t fun vs => (cf g).go (a ++ vs ++ b) s K) = _
    rw [opd_eq]
    simp only [opds_eq]

theorem putK_some {d : Option Tmp} {nt : Nat} {v : Value} {t : PT Value} {s : St} {K : PT Value → A} {ans : Value × St} (h : putK d nt v t K = some ans) : ∃ f', putT ⟨t, nt, s⟩ d v s = some f' ∧ f'.nt = nt ∧ f'.s = s ∧ K f'.t = some ans := by
  rw [putK_eq d nt v t s] at h
  obtain ⟨f', h1, h2⟩ := Option.bind_eq_some_iff.1 h
  obtain ⟨e1, e2, _⟩ := putT_some h1
  exact ⟨f', h1, e2, e1, h2⟩
theorem putK_some' {d : Option Tmp} {nt : Nat} {v : Value} {t : PT Value} (s0 s : St) {K : PT Value → A} {ans : Value × St} (h : putK d nt v t K = some ans) : ∃ f', putT ⟨t, nt, s0⟩ d v s = some f' ∧ f'.nt = nt ∧ f'.s = s ∧ K f'.t = some ans := by
  obtain ⟨f', h1, h2, h3, h4⟩ := putK_some (s := s) h
  refine ⟨f', ?_, h2, h3, h4⟩
  unfold putT at h1 ⊢
  cases d with
  | none => simp only [Option.some.injEq] at h1 ⊢; rw [← h1]
  | some d => exact h1

section
variable {cf : CF} {ds : List Deferred} {w0 : KW}

theorem compOpP_wp (hcf : FSound P cf) {o : Oper} {t : PT Value} {nt : Nat} {s : St} {K : KS} {ans : Value × St} (h : (compOpP P cf o).go t s K = some ans) {m : Map} {a : Act} {w : World} (hR : FRel ds w0 m ⟨t, nt, s⟩ a w)
    {next : Act → World → Prop} {Q : Exit → Act → World → Prop}
    (hn : ∀ m' v v' w' s', m.le m' → VR m' v v' → Rel w0 m' s' w' → K v s' = some ans → next (a.put o.dst v') w')
    (hp : ∀ m' v w' s', m.le m' → plain 8 v = true → Rel w0 m' s' w' → ans = (PAN v, s') → Q (.panic (chainOf v)) a w') : o.wp P a w next Q := by
  cases hpan : isPanicOp o.op with
  | some x =>
    have hop : o.op = .panic x := by
      unfold isPanicOp at hpan
      split at hpan
      · rename_i heq; cases hpan; exact heq
      · cases hpan
    unfold compOpP at h
    rw [hpan] at h
    cases hok : okOp o with
    | false => rw [hok] at h; cases h
    | true =>
      rw [hok] at h
      have h : (opd x t fun v => iteB (plain 8 v) (iteB (isIf v) (some (PAN v, s)) none) none) = some ans := h
      rw [opd_eq, iteB_eq] at h
      split at h
      · rename_i hpl
        rw [iteB_eq] at h
        split at h
        · rename_i hif
          simp only [Option.some.injEq] at h
          have hx := hR.eval x (by
            have := List.all_eq_true.1 hok x (by rw [hop]; simp [Op.operands])
            exact this)
          have he := plain_eq 8 _ _ hpl hx
          unfold Oper.wp
          have hrun : (execOp a.eval o).run P w = ((Instr.panic (ρof t x)).run P w).andThen fun v w => .ok (.value v) w := by
            simp only [execOp, hop, he, Sem.run_bind, Sem.run_pure]
          cases hv : ρof t x with
          | iface ty u =>
            have : (Instr.panic (ρof t x)).run P w = .halt (.panic (ρof t x)) w := by rw [hv]; rfl
            rw [hrun, this]
            show Q (.panic (chainOf (ρof t x))) a w
            exact hp m _ w s (Map.le_refl m) hpl hR.rel h.symm
          | _ => rw [hv] at hif; cases hif
        · cases h
      · cases h
  | none =>
    have hc : (compOpP P cf o).go t s K = (compOp P cf o).go t s K := by
      unfold compOpP; rw [hpan]
    rw [hc] at h
    cases hct : callTarget o.op with
    | some fa =>
      obtain ⟨g, args⟩ := fa
      have hop : ∃ argTypes, o.op = .call ⟨.value g, args, argTypes⟩ := by
        unfold callTarget at hct
        split at hct
        · rename_i f' args' aty heq
          simp only [Option.some.injEq, Prod.mk.injEq] at hct
          obtain ⟨rfl, rfl⟩ := hct
          exact ⟨_, heq⟩
        · cases hct
      obtain ⟨aty, hop⟩ := hop
      obtain ⟨dst, op, type, pos, after, guard⟩ := o
      subst hop
      cases hok : okOp ⟨dst, .call ⟨.value g, args, aty⟩, type, pos, after, guard⟩ with
      | false => unfold compOp at h; rw [hok] at h; cases h
      | true =>
        rw [compOp_call hok] at h
        have hρ : ∀ x, x ∈ (Op.call ⟨.value g, args, aty⟩).operands → VR m (ρof t x) (a.eval x) := fun x hx => hR.eval x (by
          have := List.all_eq_true.1 hok x (Array.mem_toList_iff.2 hx); exact this)
        rcases fnK_cases (ρof t g) (fun g a b => (cf g).go (a ++ args.toList.map (ρof t) ++ b) s K) with ⟨gid, first, captured, hfn, h2⟩ | ⟨_, h2⟩
        · rw [h2] at h
          have hg := hρ g (by simp [Op.operands, Call.operands])
          rw [hfn] at hg
          have hargs : ∀ x ∈ args.toList, VR m (ρof t x) (a.eval x) := fun x hx => hρ x (by simp [Op.operands, Call.operands]; exact .inr (by simpa using hx))
          cases hge : a.eval g <;> rw [hge] at hg <;> try (cases hg; done)
          rename_i fn' first' captured'
          cases hg with
          | func _ _ _ _ _ hsz1 hsz2 hv1 hv2 =>
            obtain ⟨⟨fn, e1, e2, e3⟩, hcl⟩ := hcf _ _ _ _ _ h
            have hrun : (execOp a.eval ⟨dst, .call ⟨.value g, args, aty⟩, type, pos, after, guard⟩).run P w = .ok (.enter gid (first' ++ args.map a.eval ++ captured')) w := by
              simp only [execOp, resolve, hge, Deferred.ofValue, Sem.run_bind, Sem.run_pure, Result.andThen_ok, invoke]
              exact run_callFunc e1 e2 e3 _
            have := hcl w0 m w (first' ++ args.map a.eval ++ captured') hR.rel hR.glob (by
              simp only [Array.toList_append, Array.toList_map]
              exact ((VRs.of_arr hsz1 hv1).append (VRs.map _ hargs)).append (VRs.of_arr hsz2 hv2))
            unfold Oper.wp
            rw [hrun, Oper.upon_enter]
            refine this.mono ?_
            rintro e w' (⟨m', v, v', s', rfl, k1, k2, k3, k4⟩ | ⟨m', v, s', rfl, k1, k2, k3, k4⟩)
            · exact hn m' v v' w' s' k1 k2 k3 k4
            · exact hp m' v w' s' k3 k1 k4 k2
        · rw [h2] at h; cases h
    | none =>
      rw [compOp_eq' o (fun hne => absurd hct hne)] at h
      obtain ⟨p, hp1, hp2⟩ := Option.bind_eq_some_iff.1 h
      have he : evalAny P (cfD cf) t o s = evalAny P (fun _ _ _ => none) t o s := by
        unfold evalAny; rw [hct]
      rw [he] at hp1
      exact evalAny_wp (cf := fun _ _ _ => none) (fun f args s v s' h => by cases h) (f := ⟨t, nt, s⟩) hp1 hR fun m' v' w' h1 h2 h3 => hn m' _ v' w' _ h1 h2 h3 hp2

theorem FRel.act {f : FS} {m : Map} {a : Act} {w : World} (h : FRel ds w0 m f a w) : a.defers = ds := h.defers

theorem compOpsP_wp (hcf : FSound P cf) (ops : Array Oper) {Q : Exit → Act → World → Prop} {ans : Value × St} {nt : Nat} (m0 : Map) (Kp : PT Value → Prop) (hK : ∀ o ∈ ops.toList, ∀ t v s0 s f', Kp t → putT ⟨t, nt, s0⟩ o.dst v s = some f' → Kp f'.t)
    (hp : ∀ m' v a' w' s' t', m0.le m' → plain 8 v = true → Kp t' → FRel ds w0 m' ⟨t', nt, s'⟩ a' w' → ans = (PAN v, s') → Q (.panic (chainOf v)) a' w') :
    ∀ (l : List Oper) (k : Nat) (t : PT Value) (s : St) (K : PT Value → St → A) (m : Map) (a : Act) (w : World), l = ops.toList.drop k → (compOpsP P cf nt ops l).go t s K = some ans → m0.le m → Kp t → FRel ds w0 m ⟨t, nt, s⟩ a w →
    (∀ m' t' s' a' w', m.le m' → Kp t' → FRel ds w0 m' ⟨t', nt, s'⟩ a' w' → K t' s' = some ans → Q .normal a' w') → wpOps P ops Q (List.range' k l.length) a w
  | [], k, t, s, K, m, a, w, hl, h, hm0, hKt, hR, hQ => hQ m t s a w (Map.le_refl m) hKt hR h
  | o :: l, k, t, s, K, m, a, w, hl, h, hm0, hKt, hR, hQ => by
    have hmem : o ∈ ops.toList := List.mem_of_mem_drop (i := k) (hl ▸ List.mem_cons_self)
    have hok : ops[k]? = some o := by
      have : (ops.toList.drop k)[0]? = some o := by rw [← hl]; rfl
      simpa using this
    have hl' : l = ops.toList.drop (k + 1) := by
      have : (ops.toList.drop k).tail = ops.toList.drop (k + 1) := by simp
      rw [← this, ← hl]; rfl
    have hwe : Region.wanted o (yieldedE ops t) = Region.wanted o (yielded ops a.tmps) := by rw [yielded_eq (f := ⟨t, nt, s⟩) hR]
    simp only [List.length_cons, List.range'_succ]
    rw [wpOps_cons]
    unfold wpOp
    simp only [hok]
    have run : ((compOpP P cf o).go t s fun v s' => putK o.dst nt v t fun t' => (compOpsP P cf nt ops l).go t' s' K) = some ans → Region.wanted o (yielded ops a.tmps) = true →
        (if Region.wanted o (yielded ops a.tmps) = true then o.wp P a w (wpOps P ops Q (List.range' (k + 1) l.length)) Q ∨ o.asks P a w ∧ LetsOut Q else wpOps P ops Q (List.range' (k + 1) l.length) (a.put o.dst undef) w) := by
      intro h hw
      rw [if_pos hw]
      refine .inl (compOpP_wp hcf h hR (fun m' v v' w' s' k1 k2 k3 k4 => ?_) (fun m' v w' s' k1 k2 k3 k4 => hp m' v a w' s' t (hm0.trans k1) k2 hKt ⟨k3, hR.glob.mono k1, fun i => (hR.tmps i).mono k1, hR.size, hR.defers⟩ k4))
      obtain ⟨f1, e1, e2, e3, e4⟩ := putK_some' s s' k4
      obtain ⟨t1, nt1, s1⟩ := f1
      simp only at e2 e3 e4
      subst e2; subst e3
      exact compOpsP_wp hcf ops m0 Kp hK hp l (k + 1) t1 s1 K m' _ _ hl' e4 (hm0.trans k1) (hK o hmem _ _ _ _ _ hKt e1) (hR.put e1 k1 k2 k3) fun m'' t'' s'' a'' w'' q1 q0 q2 q3 => hQ m'' t'' s'' a'' w'' (k1.trans q1) q0 q2 q3
    have skip : (putK o.dst nt undef t fun t' => (compOpsP P cf nt ops l).go t' s K) = some ans → Region.wanted o (yielded ops a.tmps) = false →
        (if Region.wanted o (yielded ops a.tmps) = true then o.wp P a w (wpOps P ops Q (List.range' (k + 1) l.length)) Q ∨ o.asks P a w ∧ LetsOut Q else wpOps P ops Q (List.range' (k + 1) l.length) (a.put o.dst undef) w) := by
      intro h hw
      rw [if_neg (by rw [hw]; simp)]
      obtain ⟨f1, e1, e2, e3, e4⟩ := putK_some' s s h
      obtain ⟨t1, nt1, s1⟩ := f1
      simp only at e2 e3 e4
      subst e2; subst e3
      exact compOpsP_wp hcf ops m0 Kp hK hp l (k + 1) t1 s1 K m _ _ hl' e4 hm0 (hK o hmem _ _ _ _ _ hKt e1) (hR.put e1 (Map.le_refl m) (undef_VR m) hR.rel) hQ
    obtain ⟨dst, op, type, pos, after, guard⟩ := o
    cases guard with
    | none => exact run h (by rw [← hwe]; unfold Region.wanted; simp)
    | some g =>
      have h : iteB (Region.wanted ⟨dst, op, type, pos, after, some g⟩ (yieldedE ops t)) _ _ = some ans := h
      rw [iteB_eq] at h
      split at h
      · rename_i hw; exact run h (hwe ▸ hw)
      · rename_i hw; exact skip h (by rw [← hwe]; simpa using hw)

theorem Ex_rec (e : Ex) (x : A) (y : Nat → A) (z : A) : Ex.rec (motive := fun _ => A) x y z e = match e with | .normal => x | .exit i => y i | .ret => z := by cases e <;> rfl

/-- What a region that draws must do. -/
def DkP (P : Program) (ds : List Deferred) (w0 : KW) (nt : Nat) (dk : Array Oper → RC) (ans : Value × St) (m0 : Map) : Prop := ∀ (ops : Array Oper) (id : Nat) (Q : Exit → Act → World → Prop),
  (∀ m' v a' w' s', m0.le m' → plain 8 v = true → Rel w0 m' s' w' → a'.defers = ds → ans = (PAN v, s') → Q (.panic (chainOf v)) a' w') → ∀ (t : PT Value) (s : St) (K : PT Value → St → A) (m : Map) (a : Act) (w : World),
  (dk ops).go t s K = some ans → m0.le m → FRel ds w0 m ⟨t, nt, s⟩ a w → (∀ m' t' s' a' w', m.le m' → FRel ds w0 m' ⟨t', nt, s'⟩ a' w' → K t' s' = some ans → Q .normal a' w') → (Code.region id ops true).wp P Q a w

theorem drawP_ok (hcf : FSound P cf) (hm : P.follows .mixedOrders = true) (nt : Nat) (ans : Value × St) (m0 : Map) : DkP P ds w0 nt (drawP P cf nt) ans m0 := by
  intro ops id Q hp t s K m a w h hm0 hR hQ
  have hnat := cfN_nat cf
  have hok := cfN_ok hcf
  cases hl : lastOf ops with
  | none =>
    unfold drawP at h
    rw [hl] at h
    have h : (drawK P (cfN cf) nt ops).go t s K = some ans := h
    rw [drawK_ok hnat nt] at h
    obtain ⟨f', h1, h2⟩ := Option.bind_eq_some_iff.1 h
    have e := drawE_nt (P := P) _ _ _ _ h1
    obtain ⟨t', nt', s'⟩ := f'
    simp only at e; subst e
    exact drawE_ok hm _ hok ops _ _ h1 ds w0 m a w id Q hR fun m' a' w' q1 q2 => hQ m' t' s' a' w' q1 q2 h2
  | some o =>
    have hl2 := hl
    unfold lastOf at hl2
    obtain ⟨o', ho', hlk⟩ := Option.bind_eq_some_iff.1 hl2
    cases hk : lastOk ops o' with
    | false => rw [hk] at hlk; cases hlk
    | true =>
      rw [hk] at hlk
      simp only [cond_true, Option.some.injEq] at hlk
      subst hlk
      unfold drawP at h
      rw [hl] at h
      have h : (drawK P (cfN cf) nt (dummyL ops o')).go t s (fun t' s' => (compOpP P cf o').go t' s' fun v s'' => putK o'.dst nt v t' fun t'' => K t'' s'') = some ans := h
      rw [drawK_ok hnat nt] at h
      obtain ⟨f', h1, h2⟩ := Option.bind_eq_some_iff.1 h
      have e := drawE_nt (P := P) _ _ _ _ h1
      obtain ⟨t', nt', s'⟩ := f'
      simp only at e; subst e
      refine drawL_wp hok hm ho' hk h1 hR fun m' a' w' q1 q2 => ?_
      refine compOpP_wp hcf h2 q2 (fun m'' v v' w'' s'' k1 k2 k3 k4 => ?_) (fun m'' v w'' s'' k1 k2 k3 k4 => hp m'' v a' w'' s'' ((hm0.trans q1).trans k1) k2 k3 q2.defers k4)
      obtain ⟨f1, e1, e2, e3, e4⟩ := putK_some' s' s'' k4
      obtain ⟨t1, nt1, s1⟩ := f1
      simp only at e2 e3 e4
      subst e2; subst e3
      exact hQ m'' t1 s1 _ w'' (q1.trans k1) (q2.put e1 k1 k2 k3) e4

theorem compCodeP_wp (hcf : FSound P cf) {dk : Array Oper → RC} (lf nt : Nat) {ans : Value × St} (m0 : Map) (hdk : DkP P ds w0 nt dk ans m0) :
    ∀ (c : Code) (Q : Exit → Act → World → Prop), (∀ m' v a' w' s', m0.le m' → plain 8 v = true → Rel w0 m' s' w' → a'.defers = ds → ans = (PAN v, s') → Q (.panic (chainOf v)) a' w') →
    ∀ (t : PT Value) (s : St) (K : Ex → PT Value → St → A) (m : Map) (a : Act) (w : World), (compCodeP P cf dk lf nt c).go t s K = some ans → m0.le m → FRel ds w0 m ⟨t, nt, s⟩ a w →
    (∀ x m' t' s' a' w', m.le m' → FRel ds w0 m' ⟨t', nt, s'⟩ a' w' → K x t' s' = some ans → Q (toExit x) a' w') → c.wp P Q a w := by
  intro c
  induction c with
  | skip =>
    intro Q hp t s K m a w h hm0 hR hQ
    exact wp_skip (hQ .normal m t s a w (Map.le_refl m) hR h)
  | region id ops draw =>
    intro Q hp t s K m a w h hm0 hR hQ
    cases draw with
    | false =>
      have h : (compOpsP P cf nt ops ops.toList).go t s (fun t' s' => K .normal t' s') = some ans := h
      refine wp_region ?_
      have := compOpsP_wp (Q := Q) hcf ops m0 (fun _ => True) (fun _ _ _ _ _ _ _ _ _ => trivial) (fun m' v a' w' s' t' k1 k2 _ k3 k4 => hp m' v a' w' s' k1 k2 k3.rel k3.defers k4) ops.toList 0 t s _ m a w rfl h hm0 trivial hR fun m' t' s' a' w' q1 _ q2 q3 => hQ .normal m' t' s' a' w' q1 q2 q3
      rwa [← List.range_eq_range', Array.length_toList] at this
    | true =>
      have h : (dk ops).go t s (fun t' s' => K .normal t' s') = some ans := h
      exact hdk ops id Q hp t s _ m a w h hm0 hR fun m' t' s' a' w' q1 q2 q3 => hQ .normal m' t' s' a' w' q1 q2 q3
  | seq x y ihx ihy =>
    intro Q hp t s K m a w h hm0 hR hQ
    have h : (compCodeP P cf dk lf nt x).go t s (fun e t' s' => Ex.rec (motive := fun _ => A) ((compCodeP P cf dk lf nt y).go t' s' K) (fun i => K (.exit i) t' s') (K .ret t' s') e) = some ans := h
    refine wp_seq (ihx (Exit.then (y.wp P Q) Q) (fun m' v a' w' s' => hp m' v a' w' s') t s _ m a w h hm0 hR fun e m1 t1 s1 a1 w1 h1 h2 h3 => ?_)
    rw [Ex_rec] at h3
    cases e with
    | normal => exact ihy Q hp t1 s1 K m1 a1 w1 h3 (hm0.trans h1) h2 fun x m2 t2 s2 a2 w2 k1 k2 k3 => hQ x m2 t2 s2 a2 w2 (h1.trans k1) k2 k3
    | exit i => exact hQ (.exit i) m1 t1 s1 a1 w1 h1 h2 h3
    | ret => exact hQ .ret m1 t1 s1 a1 w1 h1 h2 h3
  | cond c x y ihx ihy =>
    intro Q hp t s K m a w h hm0 hR hQ
    have h : (opd c t fun v => condK v ((compCodeP P cf dk lf nt x).go t s K) ((compCodeP P cf dk lf nt y).go t s K)) = some ans := h
    rw [opd_eq] at h
    have hb : ∀ b, ρof t c = .bool b → a.eval c = .bool b := fun b hb => by
      cases c with
      | tmp i => have := hR.tmps i; simp only at this; rw [hb] at this; show a.tmps.getD i undef = _; generalize a.tmps.getD i undef = u at this; cases this; rfl
      | const v => exact hb
      | global g => simp [ρof] at hb
      | func f => simp [ρof] at hb
    cases hc : ρof t c with
    | bool b =>
      rw [hc] at h
      cases b with
      | true => exact wp_cond_true (hb _ hc) (ihx Q hp t s K m a w h hm0 hR hQ)
      | false => exact wp_cond_false (hb _ hc) (ihy Q hp t s K m a w h hm0 hR hQ)
    | _ => rw [hc] at h; cases h
  | block id c ih =>
    intro Q hp t s K m a w h hm0 hR hQ
    have h : (compCodeP P cf dk lf nt c).go t s (fun e t' s' => Ex.rec (motive := fun _ => A) (K .normal t' s') (fun i => iteB (Nat.beq i id) (K .normal t' s') (K (.exit i) t' s')) (K .ret t' s') e) = some ans := h
    refine wp_block (ih (Exit.inBlock id Q) (fun m' v a' w' s' => hp m' v a' w' s') t s _ m a w h hm0 hR fun e m1 t1 s1 a1 w1 h1 h2 h3 => ?_)
    rw [Ex_rec] at h3
    cases e with
    | normal => exact hQ .normal m1 t1 s1 a1 w1 h1 h2 h3
    | exit i =>
      simp only [iteB_eq] at h3
      show (if i = id then Q .normal a1 w1 else Q (.exit i) a1 w1)
      by_cases hi : i = id
      · subst hi
        rw [if_pos rfl]
        rw [if_pos (by simp)] at h3
        exact hQ .normal m1 t1 s1 a1 w1 h1 h2 h3
      · rw [if_neg hi]
        rw [if_neg (by simpa using hi)] at h3
        exact hQ (.exit i) m1 t1 s1 a1 w1 h1 h2 h3
    | ret => exact hQ .ret m1 t1 s1 a1 w1 h1 h2 h3
  | loop c ih =>
    intro Q hp t s K m a w h hm0 hR hQ
    have h : loopK (compCodeP P cf dk lf nt c) lf t s K = some ans := h
    refine wp_loop_rounds lf ?_
    have key : ∀ (n : Nat) (t : PT Value) (s : St) (m : Map) (a : Act) (w : World), loopK (compCodeP P cf dk lf nt c) n t s K = some ans → m0.le m → FRel ds w0 m ⟨t, nt, s⟩ a w → (∀ x m' t' s' a' w', m.le m' → FRel ds w0 m' ⟨t', nt, s'⟩ a' w' → K x t' s' = some ans → Q (toExit x) a' w') → Code.rounds P c Q n a w := by
      intro n
      induction n with
      | zero => intro t s m a w h; cases h
      | succ n ihn =>
        intro t s m a w h hm0 hR hQ
        have h : (compCodeP P cf dk lf nt c).go t s (fun e t' s' => Ex.rec (motive := fun _ => A) (loopK (compCodeP P cf dk lf nt c) n t' s' K) (fun i => K (.exit i) t' s') (K .ret t' s') e) = some ans := h
        rw [rounds_succ]
        refine ih (Exit.then (Code.rounds P c Q n) Q) (fun m' v a' w' s' => hp m' v a' w' s') t s _ m a w h hm0 hR fun e m1 t1 s1 a1 w1 h1 h2 h3 => ?_
        rw [Ex_rec] at h3
        cases e with
        | normal => exact ihn t1 s1 m1 a1 w1 h3 (hm0.trans h1) h2 fun x m2 t2 s2 a2 w2 k1 k2 k3 => hQ x m2 t2 s2 a2 w2 (h1.trans k1) k2 k3
        | exit i => exact hQ (.exit i) m1 t1 s1 a1 w1 h1 h2 h3
        | ret => exact hQ .ret m1 t1 s1 a1 w1 h1 h2 h3
    exact key lf t s m a w h hm0 hR hQ
  | rangeFunc => intro Q hp t s K m a w h; cases h
  | exit id =>
    intro Q hp t s K m a w h hm0 hR hQ
    exact wp_exit (hQ (.exit id) m t s a w (Map.le_refl m) hR h)
  | scope => intro Q hp t s K m a w h; cases h
  | label => intro Q hp t s K m a w h; cases h
  | goto => intro Q hp t s K m a w h; cases h
  | ret =>
    intro Q hp t s K m a w h hm0 hR hQ
    exact wp_ret (hQ .ret m t s a w (Map.le_refl m) hR h)
  | refuse => intro Q hp t s K m a w h; cases h
end

theorem fnP_sound {X : ExtF} (hX : ExtOk P X) (hm : P.follows .mixedOrders = true) (lf : Nat) : ∀ n, FSound P (fnP P X lf n) := by
  intro n
  induction n with
  | zero => intro f args s K ans h; cases h
  | succ n ih =>
    intro f args s K ans h
    have h : (match X f with
        | some g => FC.mk fun args s K => optK (g args s) none fun p => Prod.rec (motive := fun _ => A) (fun v s => K v s) p
        | none => match P.funcs[f]? with
          | some fn => match fn.body with
            | some c => Bool.rec (motive := fun _ => FC) (.mk fun args s K => iteB (Nat.ble args.length fn.ntmps)
                (setCellsK args .leaf 0 fun t => (compCodeP P (fnP P X lf n) (drawP P (fnP P X lf n) fn.ntmps) lf fn.ntmps c).go t s fun e t' s' =>
                  Ex.rec (motive := fun _ => A) (resK P fn.results.toList t' s' fun v => K v s') (fun _ => none) (resK P fn.results.toList t' s' fun v => K v s') e) none)
                (.mk fun _ _ _ => none) (fn.name == "runtime.NumGoroutine")
            | none => .mk fun _ _ _ => none
          | none => .mk fun _ _ _ => none).go args s K = some ans := h
    cases hXf : X f with
    | some g =>
      rw [hXf] at h
      have h : optK (g args s) none _ = some ans := h
      rw [optK_eq] at h
      cases hg : g args s with
      | none => rw [hg] at h; cases h
      | some p =>
        obtain ⟨v, s'⟩ := p
        rw [hg] at h
        obtain ⟨h1, h2⟩ := hX f g hXf args s v s' hg
        refine ⟨h1, fun w0 m w args' hR hG hv => (h2 w0 m w args' hR hG hv).mono ?_⟩
        rintro e w' ⟨m', v', rfl, k1, k2, k3⟩
        exact .inl ⟨m', v, v', s', rfl, k1, k2, k3, h⟩
    | none =>
      rw [hXf] at h
      simp only at h
      cases hfn : P.funcs[f]? with
      | none => rw [hfn] at h; cases h
      | some fn =>
        rw [hfn] at h
        simp only at h
        cases hb : fn.body with
        | none => rw [hb] at h; cases h
        | some c =>
          rw [hb] at h
          simp only at h
          cases hname : (fn.name == "runtime.NumGoroutine") with
          | true => rw [hname] at h; cases h
          | false =>
            rw [hname] at h
            have h : iteB (Nat.ble args.length fn.ntmps) (setCellsK args .leaf 0 fun t => (compCodeP P (fnP P X lf n) (drawP P (fnP P X lf n) fn.ntmps) lf fn.ntmps c).go t s fun e t' s' =>
                  Ex.rec (motive := fun _ => A) (resK P fn.results.toList t' s' fun v => K v s') (fun _ => none) (resK P fn.results.toList t' s' fun v => K v s') e) none = some ans := h
            rw [iteB_eq] at h
            split at h
            · rename_i hle
              have hnt := Nat.le_of_ble_eq_true hle
              rw [setCellsK_eq] at h
              refine ⟨⟨fn, rfl, hname, by rw [hb]; rfl⟩, fun w0 m w args' hR hG hv => ?_⟩
              have hlen : args.length = args'.size := by simpa using hv.1
              refine calls_of_wp hfn hb ?_
              have hF : FRel [] w0 m { t := setCells .leaf 0 args, nt := fn.ntmps, s } { tmps := args' ++ Array.replicate (fn.ntmps - args'.size) undef, defers := [] } w :=
                ⟨hR, hG, args_tmps hv _, by simp; omega, rfl⟩
              refine compCodeP_wp ih lf fn.ntmps m (drawP_ok ih hm fn.ntmps ans m) c _ (fun m' v a' w' s' k1 k2 k3 k4 k5 => ?_) _ _ _ m _ w h (Map.le_refl m) hF fun x m' t' s' a' w' k1 k2 k3 => ?_
              · exact ⟨k4, .inr ⟨m', v, s', rfl, k2, k5, k1, k3⟩⟩
              · rw [Ex_rec] at k3
                have fin : resK P fn.results.toList t' s' (fun v => K v s') = some ans → a'.defers = [] ∧ ∃ v, (results fn a'.tmps).run P w' = .ok v w' ∧ FEnd w0 m K ans (.returned v) w' := by
                  intro hr
                  rw [resK_eq fn t' fn.ntmps s'] at hr
                  cases hu : resultsE P fn ⟨t', fn.ntmps, s'⟩ with
                  | none => rw [hu] at hr; cases hr
                  | some u =>
                    rw [hu] at hr
                    obtain ⟨u', q1, q2⟩ := resultsE_sound k2 hu
                    exact ⟨k2.defers, u', q1, .inl ⟨m', u, u', s', rfl, k1, q2, k2.rel, hr⟩⟩
                cases x with
                | exit i => cases k3
                | normal => exact fin k3
                | ret => exact fin k3
            · cases h
end
end Go.AE.F
