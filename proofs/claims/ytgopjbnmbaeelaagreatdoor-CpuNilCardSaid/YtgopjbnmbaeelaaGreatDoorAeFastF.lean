import Derived.Test.YtgopjbnmbaeelaaGreatDoorAeFastE
set_option linter.unusedVariables false
set_option linter.unusedSimpArgs false
namespace Go.AE.F
open Go Go.AE
variable {P : Program}

/-- Closures of functions that do not look at what comes behind them. -/
def Nat' (cf : CF) : Prop := ∀ f args s (K : KS), (cf f).go args s K = thenK (cfD cf f args s) K

theorem fnK_cases (v : Value) (K : FuncId → List Value → List Value → A) : (∃ g a b, v = .func (.func g) a b ∧ fnK v K = K g a.toList b.toList) ∨ ((∀ g a b, v ≠ .func (.func g) a b) ∧ fnK v K = none) := by
  cases v with
  | func g a b => cases g with
    | func g => exact Or.inl ⟨g, a, b, rfl, rfl⟩
    | _ => exact Or.inr ⟨fun g a b h => (by cases h), rfl⟩
  | _ => exact Or.inr ⟨fun g a b h => (by cases h), rfl⟩

theorem compOp0_eq' {cf : CF} {o : Oper} (hn : callTarget o.op ≠ none → Nat' cf) (hok : okOp o = true) (t : PT Value) (s : St) (K : KS) : (compOp0 P cf o).go t s K = thenK (evalAny P (cfD cf) t o s) K := by
  have hgen := genK_eq (P := P) cf o t s K
  obtain ⟨dst, op, type, pos, after, guard⟩ := o
  cases op with
  | move x => rw [evalAny_op hok rfl]; show (opd x t fun v => K v s) = _; rw [opd_eq]; rfl
  | assign x => rw [evalAny_op hok rfl]; show (opd x t fun v => K v s) = _; rw [opd_eq]; rfl
  | pick c a b =>
    rw [evalAny_op hok rfl]
    show (opd c t fun v => condK v (opd a t fun v => K v s) (opd b t fun v => K v s)) = thenK (match ρof t c with | .bool true => some (ρof t a, s) | .bool false => some (ρof t b, s) | _ => none) K
    rw [opd_eq, opd_eq, opd_eq]
    cases ρof t c with
    | bool q => cases q <;> rfl
    | _ => rfl
  | load ty a => rw [evalAny_op hok rfl]; show (opd a t fun v => loadK P ty v s K) = _; rw [opd_eq, loadK_eq]; rfl
  | store ty a x => rw [evalAny_op hok rfl]; show (opd a t fun v => opd x t fun w => storeK P ty v w s K) = _; rw [opd_eq, opd_eq, storeK_eq]; rfl
  | alloc elem =>
    rw [evalAny_op hok rfl]
    show optK (uniT P elem) (optK (zeroT P elem) none _) _ = thenK (eAlloc P elem s) K
    rw [optK_eq]; unfold eAlloc
    cases uniT P elem with
    | none =>
      show optK (zeroT P elem) none _ = _
      rw [optK_eq]
      cases zeroT P elem with
      | none => rfl
      | some z => exact newRowK_eq s elem _ K
    | some n =>
      simp only [Option.elim]
      rw [allocK_eq]; rfl
  | box elem x =>
    rw [evalAny_op hok rfl]
    show (opd x t fun v => cellsOfK v fun vs => newRowK s elem vs K) = _
    rw [opd_eq, cellsOfK_eq, newRowK_eq]; rfl
  | fieldAddr ty x f => rw [evalAny_op hok rfl]; show (opd x t fun v => fieldAddrK P ty v f s K) = _; rw [opd_eq, fieldAddrK_eq]; rfl
  | indexAddr ty x ix => rw [evalAny_op hok rfl]; show (opd x t fun v => opd ix t fun i => indexAddrK P ty v i s K) = _; rw [opd_eq, opd_eq, indexAddrK_eq]; rfl
  | nilCheck x => rw [evalAny_op hok rfl]; show (opd x t fun v => nilK v s K) = _; rw [opd_eq, nilK_eq]; rfl
  | field ty x f => rw [evalAny_op hok rfl]; show (opd x t fun v => fieldK P ty v f s K) = _; rw [opd_eq, fieldK_eq]; rfl
  | extract x ix => rw [evalAny_op hok rfl]; show (opd x t fun v => extractK v ix s K) = _; rw [opd_eq, extractK_eq]; rfl
  | binOp op ty x y yt =>
    show (opd x t fun v => opd y t fun w => binK op v w (fun r => K r s) (genK P cf _ t s K)) = _
    rw [opd_eq, opd_eq, hgen]
    refine alt_then (binK_alt (P := P) op ty _ _ _ _) fun v ⟨j, k, a, b, hx, hy, hv⟩ => ?_
    rw [evalAny_op hok rfl]
    exact evalOp_binInt rfl s hx hy hv
  | convert src dst x =>
    show (opd x t fun v => convK P src dst v (fun r => K r s) (genK P cf _ t s K)) = _
    rw [opd_eq, hgen]
    refine alt_then (convK_alt (P := P) src dst _ _ _) fun v ⟨j, k, n, hx, hk, hv⟩ => ?_
    rw [evalAny_op hok rfl, hv]
    exact convInt rfl hx s hk
  | unOp op ty x =>
    show (opd x t fun v => notK op v (fun r => K r s) (genK P cf _ t s K)) = _
    rw [opd_eq, hgen]
    refine alt_then (notK_alt op _ _ _) fun v ⟨ho, b, hx, hv⟩ => ?_
    subst ho
    rw [evalAny_op hok rfl, hv]
    exact notInt' rfl hx s
  | call c =>
    obtain ⟨callee, args, argTypes⟩ := c
    cases callee with
    | value f =>
      have hE : ∀ g a b, ρof t f = .func (.func g) a b → evalAny P (cfD cf) t ⟨dst, .call ⟨.value f, args, argTypes⟩, type, pos, after, guard⟩ s = cfD cf g (a.toList ++ args.toList.map (ρof t) ++ b.toList) s := by
        intro g a b h
        unfold evalAny ck
        rw [hok]
        simp only [callTarget, cond_true, Option.bind, h]
      have hD : (compOp0 P cf ⟨dst, .call ⟨.value f, args, argTypes⟩, type, pos, after, guard⟩).go t s K = fnK (ρof t f) fun g a b => (cf g).go (a ++ args.toList.map (ρof t) ++ b) s K := by
        cases f with
        | func g =>
          show (opds args.toList t fun vs => (cf g).go vs s K) = (cf g).go ([] ++ args.toList.map (ρof t) ++ []) s K
          rw [opds_eq, List.nil_append, List.append_nil]
        | tmp i =>
          show (opd (.tmp i) t fun v => fnK v fun g a b => opds args.toList t fun vs => (cf g).go (a ++ vs ++ b) s K) = _
          rw [opd_eq]
          simp only [opds_eq]
        | const v =>
          show (opd (.const v) t fun v => fnK v fun g a b => opds args.toList t fun vs => (cf g).go (a ++ vs ++ b) s K) = _
          rw [opd_eq]
          simp only [opds_eq]
        | global g =>
          show (opd (.global g) t fun v => fnK v fun g a b => opds args.toList t fun vs => (cf g).go (a ++ vs ++ b) s K) = _
          rw [opd_eq]
          simp only [opds_eq]
      rw [hD]
      rcases fnK_cases (ρof t f) (fun g a b => (cf g).go (a ++ args.toList.map (ρof t) ++ b) s K) with ⟨g, a, b, h, h2⟩ | ⟨h, h2⟩
      · rw [h2, hE g a b h]
        exact hn (by simp [callTarget]) g _ s K
      · rw [h2]
        unfold evalAny ck
        rw [hok]
        simp only [callTarget, cond_true, Option.bind]
    | builtin bi =>
      cases bi with
      | len =>
        show (match argTypes.toList, args.toList with
          | [ty], [x] => OpC.mk fun t s K => opd x t fun v => lenK P ty v (fun r => K r s) (genK P cf _ t s K)
          | _, _ => OpC.mk fun t s K => genK P cf _ t s K).go t s K = _
        split
        · rename_i ty x h1 h2
          show (opd x t fun v => lenK P ty v (fun r => K r s) (genK P cf _ t s K)) = _
          rw [opd_eq, hgen]
          refine alt_then (lenK_alt (P := P) ty _ _ _) fun v hv => ?_
          rw [evalAny_op hok rfl]
          unfold evalOp
          simp only [h1, h2]
          exact hv s
        · exact hgen
      | _ => exact hgen
    | _ => exact hgen
  | _ => exact hgen

theorem compOp_eq' {cf : CF} (o : Oper) (hn : callTarget o.op ≠ none → Nat' cf) (t : PT Value) (s : St) (K : KS) : (compOp P cf o).go t s K = thenK (evalAny P (cfD cf) t o s) K := by
  cases h : okOp o with
  | true =>
    unfold compOp
    rw [h]
    exact compOp0_eq' hn h t s K
  | false =>
    unfold compOp evalAny ck
    rw [h]; rfl

theorem compOp_eq {cf : CF} (hn : Nat' cf) (o : Oper) (t : PT Value) (s : St) (K : KS) : (compOp P cf o).go t s K = thenK (evalAny P (cfD cf) t o s) K := compOp_eq' o (fun _ => hn) t s K

theorem compOps_eq {cf : CF} (hn : Nat' cf) (nt : Nat) (ops : Array Oper) : ∀ (l : List Oper) (t : PT Value) (s : St) (K : PT Value → St → A),
    (compOps P cf nt ops l).go t s K = (evalOps P (cfD cf) ops l ⟨t, nt, s⟩).bind fun f => K f.t f.s
  | [], t, s, K => rfl
  | o :: l, t, s, K => by
    have step : ∀ (t' : PT Value), (Region.wanted o (yieldedE ops t) = true) → ((compOp P cf o).go t s fun v s' => putK o.dst nt v t fun t' => (compOps P cf nt ops l).go t' s' K) = (evalOps P (cfD cf) ops (o :: l) ⟨t, nt, s⟩).bind fun f => K f.t f.s := by
      intro _ hw
      rw [compOp_eq hn]
      simp only [evalOps, hw, thenK]
      cases evalAny P (cfD cf) t o s with
      | none => rfl
      | some p =>
        simp only [Option.bind]
        rw [putK_eq o.dst nt p.1 t p.2]
        unfold putT
        cases o.dst with
        | none => exact compOps_eq hn nt ops l _ _ _
        | some d =>
          simp only [ck]
          cases Nat.blt d nt with
          | false => rfl
          | true => exact compOps_eq hn nt ops l _ _ _
    obtain ⟨dst, op, type, pos, after, guard⟩ := o
    cases guard with
    | none =>
      refine step t ?_
      unfold Region.wanted
      simp
    | some g =>
      show iteB (Region.wanted ⟨dst, op, type, pos, after, some g⟩ (yieldedE ops t)) _ _ = _
      rw [iteB_eq]
      split
      · rename_i hw; exact step t hw
      · rename_i hw
        have hw : Region.wanted ⟨dst, op, type, pos, after, some g⟩ (yieldedE ops t) = false := by simpa using hw
        simp only [evalOps, hw]
        rw [putK_eq dst nt undef t s]
        unfold putT
        cases dst with
        | none => exact compOps_eq hn nt ops l _ _ _
        | some d =>
          simp only [ck]
          cases Nat.blt d nt with
          | false => rfl
          | true => exact compOps_eq hn nt ops l _ _ _
end Go.AE.F
