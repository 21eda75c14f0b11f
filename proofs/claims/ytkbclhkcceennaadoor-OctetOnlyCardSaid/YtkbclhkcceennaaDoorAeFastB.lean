import Derived.Test.YtkbclhkcceennaaDoorAeFastA
set_option linter.unusedVariables false
set_option linter.unusedSimpArgs false
namespace Go.AE.F
open Go Go.AE
variable {P : Program}

/-- What a continuation makes of a result. -/
abbrev thenK (r : Option (Value × St)) (K : KS) : A := r.bind fun p => K p.1 p.2

theorem loadK_eq (ty : TypeId) (x : Value) (s : St) (K : KS) : loadK P ty x s K = thenK (eLoad P ty x s) K := by
  unfold loadK eLoad
  rw [ptrK_eq]
  cases asPtr x with
  | none => rfl
  | some a =>
    simp only [Option.elim, optK_eq]
    cases isAggT P ty with
    | none => rfl
    | some g =>
      obtain ⟨bl, off, sp⟩ := a
      cases g with
      | false =>
        show blkK s bl _ = _
        rw [blkK_eq]
        simp only [Option.elim, Option.bind, St.load]
        cases s.h.get bl with
        | none => rfl
        | some b => simp only [cellK_eq]; cases b.cell off <;> rfl
      | true =>
        simp only [Option.elim, Option.bind, St.loads]
        cases sizeT P ty with
        | none => rfl
        | some n =>
          show blkK s bl _ = _
          rw [blkK_eq]
          cases s.h.get bl with
          | none => rfl
          | some b => simp only [cellsK_eq, Option.elim]; cases b.cells off n <;> rfl
theorem storeK_eq (ty : TypeId) (x v : Value) (s : St) (K : KS) : storeK P ty x v s K = thenK (eStore P ty x v s) K := by
  unfold storeK eStore thenK
  rw [ptrK_eq]
  cases asPtr x with
  | none => rfl
  | some a =>
    simp only [Option.elim, optK_eq, Option.bind]
    cases sizeT P ty with
    | none => rfl
    | some n =>
      simp only [cellsOfK_eq, ck]
      cases Nat.beq v.cells.toList.length n with
      | false => rfl
      | true =>
        simp only [iteB_true, storesK_eq, cond_true]
        cases s.stores a v.cells.toList <;> rfl
theorem fieldAddrK_eq (ty : TypeId) (x : Value) (f : Nat) (s : St) (K : KS) : fieldAddrK P ty x f s K = thenK (eFieldAddr P ty x f s) K := by
  unfold fieldAddrK eFieldAddr thenK fieldOf
  rw [optK_eq]
  cases P.underlying ty with
  | none => rfl
  | some d =>
    simp only [Option.bind]
    cases structF d with
    | none => rfl
    | some fs =>
      simp only []
      cases fs[f]? with
      | none => rfl
      | some fl =>
        simp only [Option.elim]
        rw [ptrK_eq]
        cases asPtr x with
        | none => rfl
        | some a =>
          simp only [Option.elim, optK_eq]
          cases sizeT P fl.type with
          | none => rfl
          | some sz =>
            cases sz with
            | zero => rfl
            | succ n =>
              show addK a fl.offset _ = _
              rw [addK_eq]; rfl
theorem indexAddrK_eq (ty : TypeId) (x ix : Value) (s : St) (K : KS) : indexAddrK P ty x ix s K = thenK (eIndexAddr P ty x ix s) K := by
  unfold indexAddrK eIndexAddr thenK seqT
  rw [idxK_eq]
  cases asIdx ix with
  | none => rfl
  | some i =>
    simp only [Option.elim, optK_eq, Option.bind]
    cases P.underlying ty with
    | none => rfl
    | some d =>
      cases d with
      | array len e =>
        simp only []
        cases x with
        | pointer a =>
          cases a with
          | none => cases sizeT P e <;> rfl
          | some a =>
            simp only []
            cases sizeT P e with
            | none => rfl
            | some sz =>
              show iteB (Nat.blt i len) (addK a (i * sz) _) none = _
              rw [addK_eq]; unfold ck
              cases Nat.blt i len <;> rfl
        | _ => cases sizeT P e <;> rfl
      | slice e =>
        simp only []
        cases x with
        | slice a n c =>
          cases a with
          | none => cases sizeT P e <;> rfl
          | some a =>
            simp only []
            cases sizeT P e with
            | none => rfl
            | some sz =>
              show iteB (Nat.blt i n) (addK a (i * sz) _) none = _
              rw [addK_eq]; unfold ck
              cases Nat.blt i n <;> rfl
        | _ => cases sizeT P e <;> rfl
      | _ => cases x <;> rfl
theorem dropL_eq : ∀ (l : List Value) (n : Nat), dropL l n = l.drop n
  | [], n => by simp [dropL]
  | x :: l, 0 => rfl
  | x :: l, n + 1 => by
    show dropL l n = _
    rw [dropL_eq l n]; rfl
theorem takeK_eq : ∀ (l : List Value) (n : Nat) (K : List Value → A), takeK l n K = K (l.take n)
  | [], n, K => by simp [takeK]
  | x :: l, 0, K => rfl
  | x :: l, n + 1, K => by
    show (takeK l n fun r => K (x :: r)) = _
    rw [takeK_eq l n]; rfl
theorem partK_eq (t : TypeId) (cs : Array Value) (off : Nat) (K : KV) : partK P t cs.toList off K = (ePart P t cs off).elim none K := by
  unfold partK ePart
  rw [optK_eq]
  cases isAggT P t with
  | none => rfl
  | some g =>
    cases g with
    | false =>
      show nthK cs.toList off none K = _
      rw [nthK_eq]; simp [Option.bind]
    | true =>
      show optK (sizeT P t) none _ = _
      rw [optK_eq]
      simp only [Option.bind]
      cases sizeT P t with
      | none => rfl
      | some n =>
        simp only [Option.elim]
        rw [takeK_eq, dropL_eq]
        congr 2
        apply Array.toList_inj.mp
        simp [Array.toList_extract, List.extract_eq_take_drop]
theorem fieldK_eq (ty : TypeId) (x : Value) (f : Nat) (s : St) (K : KS) : fieldK P ty x f s K = thenK (eField P ty x f s) K := by
  unfold fieldK eField thenK fieldOf
  rw [optK_eq]
  cases P.underlying ty with
  | none => rfl
  | some d =>
    simp only [Option.bind]
    cases structF d with
    | none => rfl
    | some fs =>
      simp only []
      cases fs[f]? with
      | none => rfl
      | some fl =>
        cases x with
        | agg cs =>
          show partK P fl.type cs.toList fl.offset _ = _
          rw [partK_eq]
          simp only []
          cases ePart P fl.type cs fl.offset <;> rfl
        | _ => rfl
theorem extractK_eq (x : Value) (ix : Nat) (s : St) (K : KS) : extractK x ix s K = thenK (eExtract x ix s) K := by
  unfold extractK eExtract thenK
  cases x with
  | tuple vs =>
    show nthK vs.toList ix none _ = _
    rw [nthK_eq]
    simp only [Array.getElem?_toList]
    cases vs[ix]? <;> rfl
  | _ => rfl
end Go.AE.F
