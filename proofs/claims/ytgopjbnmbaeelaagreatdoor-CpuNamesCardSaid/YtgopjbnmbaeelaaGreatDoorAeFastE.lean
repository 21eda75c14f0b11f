import Derived.Test.YtgopjbnmbaeelaaGreatDoorAeFastD
set_option linter.unusedVariables false
set_option linter.unusedSimpArgs false
namespace Go.AE.F
open Go Go.AE
variable {P : Program}

theorem genK_eq (cf : CF) (o : Oper) (t : PT Value) (s : St) (K : KS) : genK P cf o t s K = thenK (evalAny P (cfD cf) t o s) K := by
  unfold genK
  rw [optK_eq]
  cases evalAny P (cfD cf) t o s with
  | none => rfl
  | some p => rfl
theorem evalAny_op {cf : CallF} {t : PT Value} {o : Oper} {s : St} (h : okOp o = true) (hc : callTarget o.op = none) : evalAny P cf t o s = evalOp P (ρof t) o s := by
  unfold evalAny ck
  rw [h, hc]; rfl

/-- From the fast one's two ways to the slow one. -/
theorem alt_then {ok : Value → Prop} {K : KS} {s : St} {r : Option (Value × St)} {x : A} (h : Alt ok (fun v => K v s) (thenK r K) x) (hh : ∀ v, ok v → r = some (v, s)) : x = thenK r K := by
  rcases h with h | ⟨v, h1, h2⟩
  · exact h
  · rw [hh v h1, h2]; rfl

theorem convInt {ρ : Operand → Value} {src dst : TypeId} {x : Operand} {o : Oper} (ho : o.op = .convert src dst x) {j k : IntKind} {n : Int} (hx : ρ x = .int j n) (s : St) (hk : intT2 P src dst = some k) :
    evalOp P ρ o s = some (.int k (k.wrap n), s) := by
  unfold intT2 intT at hk
  cases h1 : P.underlying src with
  | none => rw [h1] at hk; cases hk
  | some a =>
    cases h2 : P.underlying dst with
    | none => rw [h1, h2] at hk; cases hk
    | some b =>
      rw [h1, h2] at hk
      cases b <;> simp only [Option.bind] at hk <;> first | (cases hk; done) | skip
      cases hk
      have hc : pureEval P (Go.convert src dst (.int j n)) = some (.int k (k.wrap n)) := by
        unfold Go.convert
        rw [pureEval_bind (P := P) _ _ a (by show pureEval P (Go.underlying src) = _; simp [Go.underlying, Go.program, pureEval, Bind.bind, Sem.bind, h1]; rfl)]
        rw [pureEval_bind (P := P) _ _ (.int k) (by show pureEval P (Go.underlying dst) = _; simp [Go.underlying, Go.program, pureEval, Bind.bind, Sem.bind, h2]; rfl)]
        rfl
      unfold evalOp
      rw [ho]
      simp only [hx]
      refine evalPure_of (fun z hz => ?_) rfl ?_
      · rw [ho] at hz
        simp only [Op.operands, List.mem_cons, List.not_mem_nil, or_false] at hz
        rw [hz, hx]; rfl
      · unfold execOp
        rw [ho]
        simp only [hx]
        rw [pureEval_bind (P := P) _ _ _ hc]
        rfl
theorem convK_alt (src dst : TypeId) (x : Value) (K : KV) (D : A) :
    Alt (fun v => ∃ j k, ∃ n : Int, x = .int j n ∧ intT2 P src dst = some k ∧ v = .int k (k.wrap n)) K D (convK P src dst x K D) := by
  unfold convK
  rcases intK_alt (x := x) (K := fun _ n => optK (intT2 P src dst) D fun k => wrapK k n K D) (D := D) with h | ⟨j, n, rfl, h⟩
  · rw [h]; exact .d
  rw [h, optK_eq]
  cases hk : intT2 P src dst with
  | none => exact .d
  | some k => exact (wrapK_alt k n K D).mono fun v hv => ⟨_, _, _, rfl, rfl, hv⟩
theorem notInt' {ρ : Operand → Value} {ty : TypeId} {x : Operand} {o : Oper} (ho : o.op = .unOp .not ty x) {b : Bool} (hx : ρ x = .bool b) (s : St) : evalOp P ρ o s = some (.bool (!b), s) := by
  unfold evalOp
  rw [ho]
  simp only []
  refine evalPure_of (fun z hz => ?_) rfl ?_
  · rw [ho] at hz
    simp only [Op.operands, List.mem_cons, List.not_mem_nil, or_false] at hz
    rw [hz, hx]; rfl
  · unfold execOp
    rw [ho]
    simp only [hx]
    rfl
theorem notK_alt (op : UnOp) (x : Value) (K : KV) (D : A) : Alt (fun v => op = .not ∧ ∃ b, x = .bool b ∧ v = .bool (!b)) K D (notK op x K D) := by
  unfold notK
  cases op with
  | not =>
    cases x with
    | bool b => cases b <;> exact Or.inr ⟨_, ⟨rfl, _, rfl, rfl⟩, rfl⟩
    | _ => exact .d
  | _ => exact .d
theorem lenK_alt (ty : TypeId) (x : Value) (K : KV) (D : A) : Alt (fun v => ∀ s, eLen P ty x s = some (v, s)) K D (lenK P ty x K D) := by
  unfold lenK
  cases x with
  | slice a n c =>
    show Alt _ K D (iteB (isSliceT P ty) (K (.int .i64 (.ofNat n))) D)
    rw [iteB_eq]
    split
    · rename_i h
      refine Or.inr ⟨_, fun s => ?_, rfl⟩
      unfold isSliceT at h
      split at h
      · rename_i e hu
        unfold eLen
        rw [hu]; rfl
      · cases h
    · exact .d
  | _ => exact .d
theorem nilK_eq (x : Value) (s : St) (K : KS) : nilK x s K = thenK (eNil x s) K := by
  have h : ∀ x, (optK (eNil x s) none fun p => Prod.rec (motive := fun _ => A) (fun v s => K v s) p) = thenK (eNil x s) K := by
    intro x
    rw [optK_eq]
    cases eNil x s <;> rfl
  have h2 : ∀ x, vPtr x = none → nilK x s K = thenK (eNil x s) K := fun x hx => by unfold nilK; rw [hx]; exact h x
  cases x with
  | pointer a => cases a with
    | none => rfl
    | some a => rfl
  | _ => exact h2 _ rfl
theorem fnK_eq (v : Value) (K : FuncId → List Value → List Value → A) : fnK v K = match v with
  | .func (.func g) a b => K g a.toList b.toList
  | _ => none := rfl
end Go.AE.F
