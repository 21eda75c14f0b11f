import Derived.Test.YtgopjbnmbaeelaaGreatDoorAeFDrawD
set_option linter.unusedVariables false
set_option linter.unusedSimpArgs false
namespace Go.AE.F
open Go Go.AE
variable {P : Program}

/-- What the slow one does with one operation. -/
def slowStep (P : Program) (cf : CF) (nt : Nat) (s : St) (ops : Array Oper) (rs : List Rec) (i : Nat) (o : Oper) (t : PT Value) (K : PT Value → Dy → A) : A :=
  (recOf P (cfD cf) s ops rs i o t).bind fun r => (putT ⟨t, nt, s⟩ o.dst r.v s).bind fun f' => K f'.t (dyOf s (rs ++ [r]))

theorem recOf_j {cf : CallF} {s : St} {ops : Array Oper} {rs : List Rec} {i : Nat} {o : Oper} {t : PT Value} {r : Rec} (h : recOf P cf s ops rs i o t = some r) : r.j = nLoud rs := by
  unfold recOf at h
  split at h
  · cases h; rfl
  · split at h
    · cases h1 : evalAny P cf t o { h := view s ops rs (anc ops i) (nLoud rs), hm := (heapAt s rs (nLoud rs)).2, nx := s.nx + s.st * i, st := s.st * (ops.size + 1) } with
      | none => simp only [h1] at h; cases h
      | some p =>
        simp only [h1, Option.bind] at h
        split at h
        · cases h
        · cases h; rfl
    · cases h1 : evalAny P cf t o { h := view s ops rs (anc ops i) (nLoud rs), hm := (heapAt s rs (nLoud rs)).2, nx := s.nx + s.st * i, st := s.st * (ops.size + 1) } with
      | none => simp only [h1] at h; cases h
      | some p =>
        simp only [h1, Option.bind] at h
        split at h
        · cases h
        · cases h; rfl
    · cases h1 : evalAny P cf t o { h := .leaf, hm := .leaf, nx := s.nx + s.st * i, st := s.st * (ops.size + 1) } with
      | none => simp only [h1] at h; cases h
      | some p =>
        simp only [h1, Option.bind] at h
        split at h
        · cases h
        · cases h; rfl

theorem body_eq {cf : CF} (hn : Nat' cf) (nt : Nat) (s : St) (ops : Array Oper) {rs : List Rec} (h : Num rs) (i : Nat) (o : Oper) (t : PT Value) (K : PT Value → Dy → A) (hw : Region.wanted o (yieldedE ops t) = true) :
    (bodyD P cf nt ops o i).go s t (dyOf s rs) K = slowStep P cf nt s ops rs i o t K := by
  unfold slowStep recOf bodyD
  rw [hw]
  cases hL : isLoud P o.op with
  | true =>
    show viewM s (putNow ops (anc ops i) (Lof rs)) (Mof rs) (heapAt s rs (nLoud rs)).1 _ = _
    rw [viewNow_eq s ops _ h]
    simp only [natK_eq, compOp_eq hn, thenK]
    cases h1 : evalAny P (cfD cf) t o ⟨view s ops rs (anc ops i) (nLoud rs), (heapAt s rs (nLoud rs)).2, s.nx + s.st * i, s.st * (ops.size + 1)⟩ with
    | none => rfl
    | some p =>
      obtain ⟨v, ⟨h2, hm2, nx2, st2⟩⟩ := p
      simp only [Option.bind, ck]
      cases hb1 : Nat.beq st2 (s.st * (ops.size + 1)) with
      | false => rfl
      | true =>
        cases hb2 : Nat.ble (s.nx + s.st * i) nx2 with
        | false => rfl
        | true =>
          cases hb3 : Nat.beq (Nat.mod (nx2 - (s.nx + s.st * i)) (s.st * (ops.size + 1))) 0 with
          | false => rfl
          | true =>
            simp only [iteB_true, Bool.and_self, cond_true]
            rw [putK_eq o.dst nt v t s]
            simp only [Option.bind, natK_eq]
            rw [dyOf_loud s h (r := ⟨o, i, true, true, isReader P o.op, nLoud rs, v, t, none, nx2, h2, hm2⟩) rfl rfl rfl rfl]
  | false =>
    cases hR : isReader P o.op with
    | true =>
      show viewM s (putNow ops (anc ops i) (Lof rs)) (Mof rs) (heapAt s rs (nLoud rs)).1 _ = _
      rw [viewNow_eq s ops _ h]
      simp only [natK_eq, compOp_eq hn, thenK]
      cases h1 : evalAny P (cfD cf) t o ⟨view s ops rs (anc ops i) (nLoud rs), (heapAt s rs (nLoud rs)).2, s.nx + s.st * i, s.st * (ops.size + 1)⟩ with
      | none => rfl
      | some p =>
        obtain ⟨v, ⟨h2, hm2, nx2, st2⟩⟩ := p
        simp only [Option.bind, ck]
        cases hb1 : Nat.beq nx2 (s.nx + s.st * i) with
        | false => rfl
        | true =>
          simp only [iteB_true, cond_true]
          rw [putK_eq o.dst nt v t s]
          simp only [Option.bind, natK_eq]
          rw [dyOf_quiet s h (r := ⟨o, i, true, false, true, nLoud rs, v, t, none, s.nx + s.st * i, .leaf, .leaf⟩) rfl rfl]
          simp only [Mof_snoc, Rof_snoc]
          simp [rdOf]
    | false =>
      show (pureD P cf nt ops o i).go s t ⟨Lof rs, Mof rs, Rof rs, maxE s rs, (heapAt s rs (nLoud rs)).1, (heapAt s rs (nLoud rs)).2, nLoud rs⟩ K = _
      simp only [pureD, DC.go, natK_eq, compOp_eq hn, thenK]
      cases h1 : evalAny P (cfD cf) t o ⟨.leaf, .leaf, s.nx + s.st * i, s.st * (ops.size + 1)⟩ with
      | none => rfl
      | some p =>
        obtain ⟨v, ⟨h2, hm2, nx2, st2⟩⟩ := p
        simp only [Option.bind, ck]
        cases hb1 : Nat.beq st2 (s.st * (ops.size + 1)) with
        | false => rfl
        | true =>
          cases hb2 : Nat.ble (s.nx + s.st * i) nx2 with
          | false => rfl
          | true =>
            cases hb3 : Nat.beq (Nat.mod (nx2 - (s.nx + s.st * i)) (s.st * (ops.size + 1))) 0 with
            | false => rfl
            | true =>
              simp only [iteB_true, Bool.and_self, cond_true]
              rw [putK_eq o.dst nt v t s]
              simp only [Option.bind, natK_eq, getG_eq]
              rw [dyOf_quiet s h (r := ⟨o, i, true, false, false, nLoud rs, v, t, h2.get (2 * (s.nx + s.st * i)), nx2, .leaf, .leaf⟩) rfl rfl]
              simp only [Mof_snoc, Rof_snoc]
              cases h2.get (2 * (s.nx + s.st * i)) <;> simp

theorem skip_eq {cf : CF} (nt : Nat) (s : St) (ops : Array Oper) {rs : List Rec} (h : Num rs) (i : Nat) (o : Oper) (t : PT Value) (K : PT Value → Dy → A) (hw : Region.wanted o (yieldedE ops t) = false) :
    (skipD nt o i).go s t (dyOf s rs) K = slowStep P cf nt s ops rs i o t K := by
  unfold slowStep recOf
  rw [hw]
  show (putK o.dst nt undef t fun t' => natK (Nat.max (maxE s rs) (s.nx + s.st * i)) fun e' => K t' ⟨Lof rs, Mof rs, Rof rs, e', (heapAt s rs (nLoud rs)).1, (heapAt s rs (nLoud rs)).2, nLoud rs⟩) = _
  rw [putK_eq o.dst nt undef t s]
  simp only [Option.bind, natK_eq]
  have hlw : Rec.lw ⟨o, i, false, isLoud P o.op, isReader P o.op, nLoud rs, undef, t, none, s.nx + s.st * i, .leaf, .leaf⟩ = false := by simp [Rec.lw]
  rw [dyOf_quiet s h (r := ⟨o, i, false, isLoud P o.op, isReader P o.op, nLoud rs, undef, t, none, s.nx + s.st * i, .leaf, .leaf⟩) rfl hlw]
  simp only [Mof_snoc, Rof_snoc]
  simp

theorem step_eq {cf : CF} (hn : Nat' cf) (nt : Nat) (s : St) (ops : Array Oper) {rs : List Rec} (h : Num rs) (i : Nat) (o : Oper) (t : PT Value) (K : PT Value → Dy → A) :
    (opD P cf nt ops o i).go s t (dyOf s rs) K = slowStep P cf nt s ops rs i o t K := by
  have hb := body_eq (P := P) hn nt s ops h i o t K
  have hs := skip_eq (P := P) (cf := cf) nt s ops h i o t K
  obtain ⟨dst, op, type, pos, after, guard⟩ := o
  cases guard with
  | none => exact hb (by unfold Region.wanted; simp)
  | some g =>
    show iteB (Region.wanted ⟨dst, op, type, pos, after, some g⟩ (yieldedE ops t)) _ _ = _
    rw [iteB_eq]
    split
    · rename_i hw; exact hb hw
    · rename_i hw; exact hs (by simpa using hw)

theorem opsD_eq {cf : CF} (hn : Nat' cf) (nt : Nat) (s : St) (ops : Array Oper) : ∀ (l : List Oper) (rs : List Rec) (t : PT Value) (K : PT Value → Dy → A), Num rs →
    (opsD P cf nt ops l rs.length).go s t (dyOf s rs) K = (recsOf P (cfD cf) s ops l rs ⟨t, nt, s⟩).bind fun p => K p.2.t (dyOf s p.1)
  | [], rs, t, K, h => rfl
  | o :: l, rs, t, K, h => by
    show ((opD P cf nt ops o rs.length).go s t (dyOf s rs) fun t' d' => (opsD P cf nt ops l (rs.length + 1)).go s t' d' K) = _
    rw [step_eq hn nt s ops h]
    unfold slowStep recsOf
    cases h1 : recOf P (cfD cf) s ops rs rs.length o t with
    | none => rfl
    | some r =>
      simp only [Option.bind]
      have ih := fun t' => opsD_eq hn nt s ops l (rs ++ [r]) t' K (Num_snoc h (recOf_j h1))
      simp only [List.length_append, List.length_cons, List.length_nil, Nat.zero_add] at ih
      unfold putT
      cases o.dst with
      | none => exact ih t
      | some d =>
        simp only [ck]
        cases Nat.blt d nt with
        | false => rfl
        | true => exact ih _

theorem recsOf_inv {cf : CallF} {s : St} {ops : Array Oper} : ∀ (l : List Oper) (rs : List Rec) (f : FS) (p : List Rec × FS), Num rs → recsOf P cf s ops l rs f = some p → Num p.1 ∧ p.2.nt = f.nt
  | [], rs, f, p, hN, h => by cases h; exact ⟨hN, rfl⟩
  | o :: l, rs, f, p, hN, h => by
    unfold recsOf at h
    cases h1 : recOf P cf s ops rs rs.length o f.t with
    | none => rw [h1] at h; cases h
    | some r =>
      rw [h1] at h
      simp only [Option.bind] at h
      cases h2 : putT f o.dst r.v f.s with
      | none => rw [h2] at h; cases h
      | some g =>
        rw [h2] at h
        obtain ⟨h3, h4⟩ := recsOf_inv l _ g p (Num_snoc hN (recOf_j h1)) h
        exact ⟨h3, by rw [h4, putT_nt h2]⟩

/-- THE LEAN ONE IS THE SLOW ONE. -/
theorem drawK_ok {cf : CF} (hn : Nat' cf) (nt : Nat) : DkOk nt (drawK P cf nt) (drawE P (cfD cf)) := by
  intro ops t s K
  unfold drawK drawE ck
  cases hd : dOk P ops with
  | false => rfl
  | true =>
    have hN : Num [] := fun k r hk => by simp at hk
    have hdy : (St.rec (motive := fun _ => Dy) (fun h hm nx _ => ⟨[], [], [], nx, h, hm, 0⟩) s : Dy) = dyOf s [] := by cases s; rfl
    show ((opsD P cf nt ops ops.toList 0).go s t (St.rec (motive := fun _ => Dy) (fun h hm nx _ => ⟨[], [], [], nx, h, hm, 0⟩) s : Dy) _) = _
    rw [hdy]
    have := opsD_eq (P := P) hn nt s ops ops.toList [] t (fun t' d =>
      Dy.rec (motive := fun _ => A) (fun L M R e h hm j => iteB (rdOkK P cf s ops L M R j) (iteB (mkOkK s ops L M j) (viewM s (putNow ops (fun _ => true) L) M h fun h' => K t' ⟨h', hm, e, s.st⟩) none) none) d) hN
    refine this.trans ?_
    simp only [cond_true, Option.bind]
    cases h1 : recsOf P (cfD cf) s ops ops.toList [] ⟨t, nt, s⟩ with
    | none => rfl
    | some p =>
      obtain ⟨rs, f⟩ := p
      obtain ⟨hN', hnt⟩ := recsOf_inv _ _ _ _ hN h1
      simp only
      show iteB (rdOkK P cf s ops (Lof rs) (Mof rs) (Rof rs) (nLoud rs)) (iteB (mkOkK s ops (Lof rs) (Mof rs) (nLoud rs)) (viewM s (putNow ops (fun _ => true) (Lof rs)) (Mof rs) (heapAt s rs (nLoud rs)).1 fun h' => K f.t ⟨h', (heapAt s rs (nLoud rs)).2, maxE s rs, s.st⟩) none) none = _
      rw [rdOk_eq hn s ops hN', mkOk_eq s ops hN', viewNow_eq s ops _ hN']
      cases rdOk P (cfD cf) s ops rs (nLoud rs) with
      | false => rfl
      | true =>
        cases mkOk s ops rs (nLoud rs) with
        | false => rfl
        | true => rfl
end Go.AE.F
