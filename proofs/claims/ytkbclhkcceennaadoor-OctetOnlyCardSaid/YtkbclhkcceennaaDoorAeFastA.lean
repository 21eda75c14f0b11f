import Derived.Test.YtkbclhkcceennaaDoorAeFast
import Derived.Test.YtkbclhkcceennaaDoorAeCode
set_option linter.unusedVariables false
set_option linter.unusedSimpArgs false
namespace Go.AE.F
open Go Go.AE

theorem iteB_eq (b : Bool) (x y : A) : iteB b x y = if b then x else y := by cases b <;> rfl
@[simp] theorem iteB_true (x y : A) : iteB true x y = x := rfl
@[simp] theorem iteB_false (x y : A) : iteB false x y = y := rfl
theorem optK_eq {α : Type} (o : Option α) (D : A) (K : α → A) : optK o D K = o.elim D K := by cases o <;> rfl
theorem natK_eq (n : Nat) (K : Nat → A) : natK n K = K n := by cases n <;> rfl

theorem key_odd {m : Nat} (h : m % 2 = 0) : Nat.beq (m + 1) 0 = false ∧ Nat.beq (Nat.mod (m + 1) 2) 1 = true ∧ Nat.div (m + 1) 2 = Nat.div m 2 := by
  have e1 : (m + 1) % 2 = 1 := by omega
  have e2 : (m + 1) / 2 = m / 2 := by omega
  refine ⟨rfl, ?_, e2⟩
  show Nat.beq ((m + 1) % 2) 1 = true
  rw [e1]; rfl
theorem key_even {m : Nat} (h : ¬ m % 2 = 0) : Nat.beq (m + 1) 0 = false ∧ Nat.beq (Nat.mod (m + 1) 2) 1 = false ∧ Nat.pred (Nat.div (m + 1) 2) = Nat.div m 2 := by
  have e1 : (m + 1) % 2 = 0 := by omega
  have e2 : (m + 1) / 2 - 1 = m / 2 := by omega
  refine ⟨rfl, ?_, e2⟩
  show Nat.beq ((m + 1) % 2) 1 = false
  rw [e1]; rfl
theorem beq_mod (m : Nat) : Nat.beq (Nat.mod m 2) 0 = decide (m % 2 = 0) := by
  have : Nat.beq (m % 2) 0 = decide (m % 2 = 0) := by
    rcases Nat.mod_two_eq_zero_or_one m with h | h <;> rw [h] <;> rfl
  exact this

theorem getG_eq {α : Type} : ∀ (t : PT α) (n : Nat) (D : A) (K : α → A), getG t n D K = (t.get n).elim D K
  | .leaf, n, D, K => by cases n <;> rfl
  | .node l v r, 0, D, K => by
    show Option.rec (motive := fun _ => A) D K v = _
    cases v <;> rfl
  | .node l v r, m + 1, D, K => by
    show Bool.rec (motive := fun _ => A) (getG r (Nat.div m 2) D K) (getG l (Nat.div m 2) D K) (Nat.beq (Nat.mod m 2) 0) = _
    rw [beq_mod]
    by_cases h : m % 2 = 0
    · obtain ⟨h1, h2, h3⟩ := key_odd h
      simp only [h, decide_true, PT.get, h1, h2, h3, cond_true, cond_false]
      exact getG_eq l _ D K
    · obtain ⟨h1, h2, h3⟩ := key_even h
      simp only [h, decide_false, PT.get, h1, h2, h3, cond_true, cond_false]
      exact getG_eq r _ D K

theorem pathK_eq {α : Type} (v : Option α) : ∀ (f n : Nat) (K : PT α → A), n < f → pathK v f n K = K (PT.setF f .leaf n v)
  | 0, n, K, h => absurd h (Nat.not_lt_zero _)
  | f + 1, 0, K, h => rfl
  | f + 1, m + 1, K, h => by
    show Bool.rec (motive := fun _ => A) (pathK v f (Nat.div m 2) fun r => K (.node .leaf none r)) (pathK v f (Nat.div m 2) fun l => K (.node l none .leaf)) (Nat.beq (Nat.mod m 2) 0) = _
    have hd : Nat.div m 2 < f := by
      have : m / 2 ≤ m := Nat.div_le_self m 2
      show m / 2 < f
      omega
    rw [beq_mod]
    by_cases h' : m % 2 = 0
    · obtain ⟨h1, h2, h3⟩ := key_odd h'
      simp only [h', decide_true, PT.setF, h1, h2, h3, cond_true, cond_false]
      exact pathK_eq v f _ _ hd
    · obtain ⟨h1, h2, h3⟩ := key_even h'
      simp only [h', decide_false, PT.setF, h1, h2, h3, cond_true, cond_false]
      exact pathK_eq v f _ _ hd

/-- The fuel does not matter. -/
theorem setF_fuel {α : Type} (v : Option α) : ∀ (f g : Nat) (t : PT α) (n : Nat), n < f → n < g → PT.setF f t n v = PT.setF g t n v
  | 0, _, _, n, h, _ => absurd h (Nat.not_lt_zero _)
  | _ + 1, 0, _, n, _, h => absurd h (Nat.not_lt_zero _)
  | f + 1, g + 1, t, 0, _, _ => by cases t <;> rfl
  | f + 1, g + 1, t, m + 1, hf, hg => by
    have hd : m / 2 ≤ m := Nat.div_le_self m 2
    have hf' : Nat.div m 2 < f := by show m / 2 < f; omega
    have hg' : Nat.div m 2 < g := by show m / 2 < g; omega
    by_cases h' : m % 2 = 0
    · obtain ⟨h1, h2, h3⟩ := key_odd h'
      cases t <;> simp only [PT.setF, h1, h2, h3, cond_true, cond_false, setF_fuel v f g _ _ hf' hg']
    · obtain ⟨h1, h2, h3⟩ := key_even h'
      cases t <;> simp only [PT.setF, h1, h2, h3, cond_true, cond_false, setF_fuel v f g _ _ hf' hg']

theorem setK_eq {α : Type} (v : Option α) : ∀ (t : PT α) (n : Nat) (K : PT α → A), setK v t n K = K (t.set n v)
  | .leaf, n, K => pathK_eq v (n + 1) n K (Nat.lt_succ_self n)
  | .node l x r, 0, K => rfl
  | .node l x r, m + 1, K => by
    show Bool.rec (motive := fun _ => A) (setK v r (Nat.div m 2) fun r' => K (.node l x r')) (setK v l (Nat.div m 2) fun l' => K (.node l' x r)) (Nat.beq (Nat.mod m 2) 0) = _
    have hd : m / 2 ≤ m := Nat.div_le_self m 2
    have hf : Nat.div m 2 < m + 1 := by show m / 2 < m + 1; omega
    rw [beq_mod]
    by_cases h' : m % 2 = 0
    · obtain ⟨h1, h2, h3⟩ := key_odd h'
      simp only [h', decide_true, PT.set, PT.setF, h1, h2, h3, cond_true, cond_false]
      rw [setK_eq v l]
      rw [PT.set, setF_fuel v (Nat.div m 2 + 1) (m + 1) l _ (Nat.lt_succ_self _) hf]
    · obtain ⟨h1, h2, h3⟩ := key_even h'
      simp only [h', decide_false, PT.set, PT.setF, h1, h2, h3, cond_true, cond_false]
      rw [setK_eq v r]
      rw [PT.set, setF_fuel v (Nat.div m 2 + 1) (m + 1) r _ (Nat.lt_succ_self _) hf]

theorem getC_eq {α : Type} (D : A) (K : α → A) : ∀ (f n : Nat) (t : PT α), n < f → (getC f n).run D K t = (t.get n).elim D K
  | 0, n, t, h => absurd h (Nat.not_lt_zero _)
  | f + 1, 0, t, h => by
    cases t with
    | leaf => rfl
    | node l v r => cases v <;> rfl
  | f + 1, m + 1, t, h => by
    have hd : Nat.div m 2 < f := by
      have : m / 2 ≤ m := Nat.div_le_self m 2
      show m / 2 < f
      omega
    show (Bool.rec (motive := fun _ => GT α) ⟨fun D K t => PT.rec (motive := fun _ => A) D (fun _ _ r _ _ => (getC f (Nat.div m 2)).run D K r) t⟩
        ⟨fun D K t => PT.rec (motive := fun _ => A) D (fun l _ _ _ _ => (getC f (Nat.div m 2)).run D K l) t⟩ (Nat.beq (Nat.mod m 2) 0) : GT α).run D K t = _
    rw [beq_mod]
    by_cases h' : m % 2 = 0
    · obtain ⟨h1, h2, h3⟩ := key_odd h'
      cases t with
      | leaf => simp only [h', decide_true, PT.get]; rfl
      | node l v r =>
        simp only [h', decide_true, PT.get, h1, h2, h3, cond_true, cond_false]
        exact getC_eq D K f _ l hd
    · obtain ⟨h1, h2, h3⟩ := key_even h'
      cases t with
      | leaf => simp only [h', decide_false, PT.get]; rfl
      | node l v r =>
        simp only [h', decide_false, PT.get, h1, h2, h3, cond_true, cond_false]
        exact getC_eq D K f _ r hd
theorem setC_eq {α : Type} (v : Option α) : ∀ (f n : Nat) (t : PT α) (K : PT α → A), n < f → (setC f n).run v t K = K (PT.setF f t n v)
  | 0, n, t, K, h => absurd h (Nat.not_lt_zero _)
  | f + 1, 0, t, K, h => by cases t <;> rfl
  | f + 1, m + 1, t, K, h => by
    have hd : Nat.div m 2 < f := by
      have : m / 2 ≤ m := Nat.div_le_self m 2
      show m / 2 < f
      omega
    show (Bool.rec (motive := fun _ => ST α)
        ⟨fun v t K => PT.rec (motive := fun _ => A) ((setC f (Nat.div m 2)).run v .leaf fun r => K (.node .leaf none r)) (fun l x r _ _ => (setC f (Nat.div m 2)).run v r fun r' => K (.node l x r')) t⟩
        ⟨fun v t K => PT.rec (motive := fun _ => A) ((setC f (Nat.div m 2)).run v .leaf fun l => K (.node l none .leaf)) (fun l x r _ _ => (setC f (Nat.div m 2)).run v l fun l' => K (.node l' x r)) t⟩ (Nat.beq (Nat.mod m 2) 0) : ST α).run v t K = _
    rw [beq_mod]
    by_cases h' : m % 2 = 0
    · obtain ⟨h1, h2, h3⟩ := key_odd h'
      cases t with
      | leaf =>
        simp only [h', decide_true, PT.setF, h1, h2, h3, cond_true, cond_false]
        exact setC_eq v f _ .leaf _ hd
      | node l x r =>
        simp only [h', decide_true, PT.setF, h1, h2, h3, cond_true, cond_false]
        exact setC_eq v f _ l _ hd
    · obtain ⟨h1, h2, h3⟩ := key_even h'
      cases t with
      | leaf =>
        simp only [h', decide_false, PT.setF, h1, h2, h3, cond_true, cond_false]
        exact setC_eq v f _ .leaf _ hd
      | node l x r =>
        simp only [h', decide_false, PT.setF, h1, h2, h3, cond_true, cond_false]
        exact setC_eq v f _ r _ hd
theorem getPo_eq {α : Type} (t : PT α) (n : Nat) (D : A) (K : α → A) : getP n D K t = (t.get n).elim D K := getC_eq D K (n + 1) n t (Nat.lt_succ_self n)
theorem setPo_eq {α : Type} (v : Option α) (t : PT α) (n : Nat) (K : PT α → A) : setP v n t K = K (t.set n v) := setC_eq v (n + 1) n t K (Nat.lt_succ_self n)

theorem opd_eq (o : Operand) (t : PT Value) (K : KV) : opd o t K = K (ρof t o) := by
  cases o with
  | tmp i =>
    show getP i (K undef) K t = _
    rw [getPo_eq]
    cases h : t.get i <;> simp [ρof, h]
  | _ => rfl
theorem opds_eq (t : PT Value) : ∀ (l : List Operand) (K : List Value → A), opds l t K = K (l.map (ρof t))
  | [], K => rfl
  | o :: l, K => by
    show (opd o t fun v => opds l t fun vs => K (v :: vs)) = _
    rw [opd_eq, opds_eq t l]; rfl
theorem putK_eq (d : Option Tmp) (nt : Nat) (v : Value) (t : PT Value) (s : St) (K : PT Value → A) : putK d nt v t K = (putT ⟨t, nt, s⟩ d v s).bind fun f => K f.t := by
  cases d with
  | none => rfl
  | some d =>
    cases h : Nat.blt d nt with
    | false => simp [putK, putC, putT, ck, h]
    | true => simp [putK, putC, putT, ck, h, setPo_eq]

theorem nthK_eq {α : Type} : ∀ (l : List α) (n : Nat) (D : A) (K : α → A), nthK l n D K = (l[n]?).elim D K
  | [], n, D, K => by simp [nthK]
  | x :: l, 0, D, K => rfl
  | x :: l, n + 1, D, K => by
    show nthK l n D K = _
    rw [nthK_eq l n]; simp
theorem cellK_eq (b : Blk) (i : Nat) (K : KV) : cellK b i K = (b.cell i).elim none K := by
  obtain ⟨n, z, t, e, ex, es, st, ro⟩ := b
  show iteB (Nat.blt i n) (getG t i (nthK z (Nat.mod i z.length) none K) K) none = _
  unfold Blk.cell
  cases Nat.blt i n with
  | false => rfl
  | true =>
    simp only [iteB_true, getG_eq, nthK_eq]
    cases t.get i <;> rfl
theorem cellsK_eq (b : Blk) : ∀ (n i : Nat) (K : List Value → A), cellsK b n i K = (b.cells i n).elim none K
  | 0, i, K => rfl
  | n + 1, i, K => by
    show (cellK b i fun v => cellsK b n (i + 1) fun vs => K (v :: vs)) = _
    rw [cellK_eq]
    simp only [Blk.cells, cellsK_eq b n]
    cases b.cell i with
    | none => rfl
    | some v => simp only [Option.elim, Option.bind]; cases b.cells (i + 1) n <;> rfl
theorem setCellsK_eq : ∀ (vs : List Value) (t : PT Value) (i : Nat) (K : PT Value → A), setCellsK vs t i K = K (setCells t i vs)
  | [], t, i, K => rfl
  | v :: vs, t, i, K => by
    show (setK (some v) t i fun t' => setCellsK vs t' (i + 1) K) = _
    rw [setK_eq, setCellsK_eq vs]; rfl
theorem allOne_eq : ∀ (vs : List Value), allOne vs = vs.all oneCell
  | [] => rfl
  | v :: vs => by
    show Bool.rec (motive := fun _ => Bool) false (allOne vs) (oneCell v) = _
    rw [List.all_cons, allOne_eq vs]
    cases oneCell v <;> rfl

theorem ptrK_eq (v : Value) (K : Addr → A) : ptrK v K = (asPtr v).elim none K := by
  cases v with
  | pointer a => cases a <;> rfl
  | _ => rfl
theorem idxK_eq (v : Value) (K : Nat → A) : idxK v K = (asIdx v).elim none K := by
  cases v with
  | int k n => cases n <;> rfl
  | _ => rfl
theorem cellsOfK_eq (v : Value) (K : List Value → A) : cellsOfK v K = K v.cells.toList := by
  unfold cellsOfK Value.cells; cases v <;> rfl
theorem addK_eq (a : Addr) (n : Nat) (K : Addr → A) : addK a n K = K (a.add n) := by
  cases n with
  | zero => rfl
  | succ m =>
    obtain ⟨b, o, x⟩ := a
    show (natK (o + (m + 1)) fun o => K ⟨b, o, none⟩) = _
    rw [natK_eq]; rfl
theorem storesK_eq (s : St) (a : Addr) (vs : List Value) (K : St → A) : storesK s a vs K = (s.stores a vs).elim none K := by
  obtain ⟨h, hm, nx, st⟩ := s
  obtain ⟨bl, off, x⟩ := a
  show getG h bl none _ = _
  rw [getG_eq]
  unfold St.stores
  cases hb : h.get bl with
  | none => rfl
  | some b =>
    obtain ⟨n, z, t, e, ex, es, sr, ro⟩ := b
    simp only [Option.elim, Option.bind]
    cases ro with
    | true => rfl
    | false =>
      show iteB (Nat.ble (off + vs.length) n) (iteB (allOne vs) _ none) none = _
      rw [allOne_eq]
      simp only [Bool.not_false, Bool.true_and, ck]
      cases Nat.ble (off + vs.length) n with
      | false => rfl
      | true =>
        cases vs.all oneCell with
        | false => rfl
        | true => simp only [iteB_true, setCellsK_eq, setK_eq]; rfl
theorem allocK_eq (s : St) (b : Blk) (K : Nat → St → A) : allocK s b K = (s.alloc b).elim none fun p => K p.1 p.2 := by
  obtain ⟨h, hm, nx, st⟩ := s
  show (natK (2 * nx) fun id => natK (nx + st) fun nx' => setK (some b) h id fun h' => K id ⟨h', hm, nx', st⟩) = _
  rw [natK_eq, natK_eq, setK_eq]; rfl
theorem newRowK_eq (s : St) (elem : TypeId) (vs : List Value) (K : KS) : newRowK s elem vs K = (eNewRow s elem vs).bind fun p => K p.1 p.2 := by
  unfold newRowK eNewRow ck
  rw [allOne_eq]
  cases vs.all oneCell with
  | false => rfl
  | true => simp only [iteB_true, setCellsK_eq, natK_eq, allocK_eq]; rfl
theorem blkK_eq (s : St) (id : Nat) (K : Blk → A) : blkK s id K = (s.h.get id).elim none K := by
  obtain ⟨h, hm, nx, st⟩ := s
  exact getG_eq h id none K
end Go.AE.F
