import Derived.Test.YtkbclhkcceennaaDoorAeFastC
set_option linter.unusedVariables false
set_option linter.unusedSimpArgs false
namespace Go.AE.F
open Go Go.AE
variable {P : Program}

theorem pureEval_bind {α β : Type} (f : α → Sem β) : ∀ (s : Sem α) (a : α), pureEval P s = some a → pureEval P (s >>= f) = pureEval P (f a)
  | .pure b, a, h => by cases h; rfl
  | .program k, a, h => by
    show pureEval P ((k P).bind f) = _
    exact pureEval_bind f (k P) a h
  | .mark m k, a, h => by
    show pureEval P (k.bind f) = _
    exact pureEval_bind f k a h
  | .load .., _, h | .store .., _, h | .new .., _, h | .shape .., _, h | .freeze .., _, h | .frozen .., _, h | .getObj .., _, h | .setObj .., _, h | .choose .., _, h | .sys .., _, h | .halt .., _, h => by cases h

def intOrBool (v : Value) : Prop := (∃ k n, v = .int k n) ∨ ∃ b, v = .bool b
theorem intOrBool.plain {v : Value} (h : intOrBool v) : AE.plain 8 v = true := by
  rcases h with ⟨k, n, rfl⟩ | ⟨b, rfl⟩ <;> rfl

theorem wrapK_io (k : IntKind) (r : Nat) (K : KV) (D : A) : Alt (fun v => v = .int k (k.wrap r)) K D (wrapK k r K D) := wrapK_alt k r K D

theorem evalPure_of {ρ : Operand → Value} {o : Oper} {v : Value} {s : St} (hp : ∀ x ∈ o.op.operands.toList, AE.plain 8 (ρ x) = true) (hv : AE.plain 8 v = true)
    (h : pureEval P (execOp ρ o) = some (.value v)) : ePure P ρ o s = some (v, s) := by
  unfold ePure
  rw [List.all_eq_true.mpr hp, h]
  simp [ck, hv]

theorem eEqNil_int (t : TypeId) (k : IntKind) (a : Int) (y : Value) : eEqNil P t (.int k a) y = none := by
  unfold eEqNil
  cases P.underlying t with
  | none => rfl
  | some d => cases d <;> rfl

theorem binOp_io {op : BinOp} {t : TypeId} {j k : IntKind} {a b : Int} {v : Value} (h : pureEval P (Go.binOp op t (.int j a) (.int k b)) = some v) : AE.plain 8 v = true := by
  cases op <;> simp only [Go.binOp, Op.shift, Op.intArith, Op.intDiv, Op.intBits, Op.intCmp] at h
  all_goals (repeat' split at h)
  all_goals first
    | (cases h; rfl)
    | (exfalso; revert h; simp only [runtimePanic, stuck, unsupported]; intro h; cases h)
    | skip

theorem eqGuard_int (op : BinOp) (t : TypeId) (x y : Operand) (j k : IntKind) (a b : Int) : pureEval P (eqGuard op t x y (.int j a) (.int k b)) = some () := by
  cases op <;> rfl

theorem evalOp_binInt {ρ : Operand → Value} {op : BinOp} {t yt : TypeId} {x y : Operand} {o : Oper} (ho : o.op = .binOp op t x y yt) {j k : IntKind} {a b : Int} {v : Value} (s : St)
    (hx : ρ x = .int j a) (hy : ρ y = .int k b) (h : pureEval P (Go.binOp op t (.int j a) (.int k b)) = some v) : evalOp P ρ o s = some (v, s) := by
  have hpure : ePure P ρ o s = some (v, s) := by
    refine evalPure_of (fun z hz => ?_) (binOp_io h) ?_
    · rw [ho] at hz
      simp only [Op.operands, List.mem_cons, List.not_mem_nil, or_false] at hz
      rcases hz with rfl | rfl
      · rw [hx]; rfl
      · rw [hy]; rfl
    · unfold execOp
      rw [ho]
      simp only [hx, hy]
      rw [pureEval_bind (P := P) _ _ v (by rw [pureEval_bind (P := P) _ _ () (eqGuard_int ..)]; exact h)]
      rfl
  unfold evalOp
  rw [ho]
  cases op <;> simp only [hx, eEqNil_int, Option.bind, AE.orElse] <;> exact hpure

theorem sameKind_eq {j k : IntKind} (h : sameKind j k = true) : j = k := by
  cases j <;> cases k <;> first | rfl | (exact absurd h (by decide))

theorem intK_alt {x : Value} {K : IntKind → Nat → A} {D : A} : intK x K D = D ∨ ∃ (k : IntKind) (n : Nat), x = .int k n ∧ intK x K D = K k n := by
  cases x with
  | int k n => cases n with
    | ofNat n => exact Or.inr ⟨k, n, rfl, rfl⟩
    | negSucc n => exact Or.inl rfl
  | _ => exact Or.inl rfl

theorem binK_alt (op : BinOp) (t : TypeId) (x y : Value) (K : KV) (D : A) :
    Alt (fun v => ∃ j k, ∃ a b : Int, x = .int j a ∧ y = .int k b ∧ pureEval P (Go.binOp op t (.int j a) (.int k b)) = some v) K D (binK op x y K D) := by
  unfold binK
  rcases intK_alt (x := x) (K := fun j a => intK y (fun k b => iteB (isShift op) (fshift op j a b K D) (iteB (sameKind j k) (fbin op j a b K D) D)) D) (D := D) with h | ⟨j, a, rfl, h⟩
  · rw [h]; exact .d
  rw [h]
  rcases intK_alt (x := y) (K := fun k b => iteB (isShift op) (fshift op j a b K D) (iteB (sameKind j k) (fbin op j a b K D) D)) (D := D) with h | ⟨k, b, rfl, h⟩
  · rw [h]; exact .d
  rw [h]
  simp only [iteB_eq]
  split
  · exact (fshift_alt (P := P) op t j k a b K D).mono fun v hv => ⟨_, _, _, _, rfl, rfl, hv⟩
  · split
    · rename_i h'
      obtain rfl := sameKind_eq h'
      exact (fbin_alt (P := P) op t j a b K D).mono fun v hv => ⟨_, _, _, _, rfl, rfl, hv⟩
    · exact .d
end Go.AE.F
