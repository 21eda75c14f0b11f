import Derived.Test.YtgopjbnmbaeelaaGreatDoorAeFDrawB
set_option linter.unusedVariables false
set_option linter.unusedSimpArgs false
namespace Go.AE.F
open Go Go.AE
variable {P : Program}

theorem okAt_eq {cf : CF} (hn : Nat' cf) (s : St) (ops : Array Oper) {rs : List Rec} (h : Num rs) (r : Rec) (j : Nat) :
    okAt P cf s ops (Lof rs) (Mof rs) (rdOf r) j = (Nat.beq j r.j || !mayAt ops rs r.i j ||
    (match evalAny P (cfD cf) r.t r.o { h := view s ops rs (anc ops r.i) j, hm := (heapAt s rs j).2, nx := s.nx + s.st * r.i, st := s.st * (ops.size + 1) } with
     | some p => veq 8 p.1 r.v && Nat.beq p.2.nx (s.nx + s.st * r.i)
     | none => false)) := by
  have hv : (viewM s (putNow ops (anc ops r.i) ((Lof rs).take j)) (Mof rs) (atL s (Lof rs) j).1 fun h' => (compOp P cf r.o).go r.t ⟨h', (atL s (Lof rs) j).2, s.nx + s.st * r.i, s.st * (ops.size + 1)⟩ fun v s' =>
      iteB (andB (veq 8 v r.v) (Nat.beq s'.nx (s.nx + s.st * r.i))) (some (v, s')) none).isSome =
    (match evalAny P (cfD cf) r.t r.o { h := view s ops rs (anc ops r.i) j, hm := (heapAt s rs j).2, nx := s.nx + s.st * r.i, st := s.st * (ops.size + 1) } with
     | some p => veq 8 p.1 r.v && Nat.beq p.2.nx (s.nx + s.st * r.i)
     | none => false) := by
    rw [viewAt_eq s ops _ h j, compOp_eq hn, ← heapAt_eq s h]
    simp only [thenK]
    cases evalAny P (cfD cf) r.t r.o ⟨view s ops rs (anc ops r.i) j, (heapAt s rs j).2, s.nx + s.st * r.i, s.st * (ops.size + 1)⟩ with
    | none => rfl
    | some p =>
      simp only [Option.bind, andB_eq]
      cases veq 8 p.1 r.v && Nat.beq p.2.nx (s.nx + s.st * r.i) <;> rfl
  rw [← hv]
  show Bool.rec (motive := fun _ => Bool) (Bool.rec (motive := fun _ => Bool) true _ (mayL ops r.i j (Lof rs) 0)) true (Nat.beq j r.j) = _
  rw [may_eq ops h]
  cases Nat.beq j r.j <;> cases mayL ops r.i j (Lof rs) 0 <;> rfl
theorem rdOk_eq {cf : CF} (hn : Nat' cf) (s : St) (ops : Array Oper) {rs : List Rec} (h : Num rs) (J : Nat) : rdOkK P cf s ops (Lof rs) (Mof rs) (Rof rs) J = rdOk P (cfD cf) s ops rs J := by
  have gen : ∀ (l : List Rec), (Rof l).all (fun r => allTo (okAt P cf s ops (Lof rs) (Mof rs) r) J) = l.all fun r => !(r.w && r.rd && !r.ld) || (List.range (J + 1)).all fun j => Nat.beq j r.j || !mayAt ops rs r.i j ||
    (match evalAny P (cfD cf) r.t r.o { h := view s ops rs (anc ops r.i) j, hm := (heapAt s rs j).2, nx := s.nx + s.st * r.i, st := s.st * (ops.size + 1) } with
     | some p => veq 8 p.1 r.v && Nat.beq p.2.nx (s.nx + s.st * r.i)
     | none => false) := by
    intro l
    induction l with
    | nil => rfl
    | cons r l ih =>
      rw [List.all_cons, ← ih]
      cases hc : (r.w && r.rd && !r.ld) with
      | false =>
        have e : Rof (r :: l) = Rof l := by simp only [Rof, List.filterMap_cons, hc]; rfl
        rw [e]; simp
      | true =>
        have e : Rof (r :: l) = rdOf r :: Rof l := by simp only [Rof, List.filterMap_cons, hc]; rfl
        rw [e, List.all_cons, allTo_eq]
        simp only [Bool.not_true, Bool.false_or]
        congr 1
        congr 1
        funext j
        exact okAt_eq hn s ops h r j
  unfold rdOkK rdOk
  rw [allB_eq, gen]
  rfl
theorem mkOk_eq (s : St) (ops : Array Oper) {rs : List Rec} (h : Num rs) (J : Nat) : mkOkK s ops (Lof rs) (Mof rs) J = mkOk s ops rs J := by
  have gen : ∀ (l : List Rec), (Mof l).all (fun m : Nat × Blk => allTo (fun j => Bool.rec (motive := fun _ => Bool) ((atL s (Lof rs) j).1.get (2 * (s.nx + s.st * m.1))).isNone true (anyL (fun c => anc ops c m.1) ((Lof rs).take j))) J) =
      l.all fun r => !r.b.isSome || (List.range (J + 1)).all fun j => insd ops rs j r.i || ((heapAt s rs j).1.get (2 * (s.nx + s.st * r.i))).isNone := by
    intro l
    induction l with
    | nil => rfl
    | cons r l ih =>
      rw [List.all_cons, ← ih]
      cases hc : r.b with
      | none =>
        have e : Mof (r :: l) = Mof l := by simp [Mof, List.filterMap_cons, hc]
        rw [e]; simp
      | some b =>
        have e : Mof (r :: l) = (r.i, b) :: Mof l := by simp [Mof, List.filterMap_cons, hc]
        rw [e, List.all_cons, allTo_eq]
        simp only [Option.isSome_some, Bool.not_true, Bool.false_or]
        congr 1
        congr 1
        funext j
        rw [insd_eq ops h, heapAt_eq s h]
        cases anyL (fun c => anc ops c r.i) ((Lof rs).take j) <;> rfl
  unfold mkOkK mkOk
  rw [allB_eq, gen]
end Go.AE.F
