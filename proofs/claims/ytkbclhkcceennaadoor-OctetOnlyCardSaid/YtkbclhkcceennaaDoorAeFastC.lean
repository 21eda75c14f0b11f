import Derived.Test.YtkbclhkcceennaaDoorAeFastB
set_option linter.unusedVariables false
set_option linter.unusedSimpArgs false
namespace Go.AE.F
open Go Go.AE
variable {P : Program}

/-- 'x' is either the fallback or what 'K' makes of a value that 'ok' holds of. -/
def Alt (ok : Value → Prop) (K : KV) (D x : A) : Prop := x = D ∨ ∃ v, ok v ∧ x = K v

theorem wrap_small {k : IntKind} {r : Nat} (h : r < lim k) : k.wrap (r : Int) = r := by
  unfold IntKind.wrap
  cases k <;> simp only [lim, IntKind.bits, IntKind.signed] at h ⊢ <;> simp only [Int.reducePow, Nat.reduceSub, Bool.true_and, Bool.false_and, Bool.false_eq_true, if_false, reduceIte]
  all_goals first
    | omega
    | (split <;> first | (rename_i h1; have := of_decide_eq_true h1; omega) | omega)
theorem wrap_mod {k : IntKind} {r : Nat} (h : sgn k = false) : k.wrap (r : Int) = ((r % lim k : Nat) : Int) := by
  unfold IntKind.wrap
  cases k <;> first | (exact absurd h (by decide)) | skip
  all_goals simp only [lim, IntKind.bits, IntKind.signed] <;> simp only [Int.reducePow, Nat.reduceSub, Bool.true_and, Bool.false_and, decide_eq_true_eq, Bool.false_eq_true, if_false, reduceIte] <;> omega

theorem wrapK_alt (k : IntKind) (r : Nat) (K : KV) (D : A) : Alt (fun v => v = .int k (k.wrap r)) K D (wrapK k r K D) := by
  unfold wrapK
  simp only [natK_eq, iteB_eq]
  by_cases h : Nat.blt r (lim k) = true
  · rw [if_pos h]
    refine Or.inr ⟨_, ?_, rfl⟩
    have h' : r < lim k := by simpa [Nat.blt_eq] using h
    rw [wrap_small h']; rfl
  · rw [if_neg h]
    by_cases h2 : sgn k = true
    · rw [if_pos h2]; exact Or.inl rfl
    · rw [if_neg h2]
      refine Or.inr ⟨_, ?_, rfl⟩
      rw [wrap_mod (by simpa using h2)]; rfl
theorem boolK_alt (b : Bool) (K : KV) (D : A) : Alt (fun v => v = .bool b) K D (boolK b K) := by
  cases b <;> exact Or.inr ⟨_, rfl, rfl⟩
theorem Alt.mono {ok ok' : Value → Prop} {K : KV} {D x : A} (h : Alt ok K D x) (hh : ∀ v, ok v → ok' v) : Alt ok' K D x := by
  rcases h with h | ⟨v, h1, h2⟩
  · exact Or.inl h
  · exact Or.inr ⟨v, hh v h1, h2⟩
theorem Alt.d {ok : Value → Prop} {K : KV} {D : A} : Alt ok K D D := Or.inl rfl

def modelSays (P : Program) (op : BinOp) (t : TypeId) (x y v : Value) : Prop := pureEval P (Go.binOp op t x y) = some v

theorem lim_le (k : IntKind) : lim k ≤ 2 ^ k.bits := by cases k <;> decide
theorem ofInt_toNat {k : IntKind} {a : Nat} (h : a < lim k) : (BitVec.ofInt k.bits (a : Int)).toNat = a := by
  rw [BitVec.ofInt_natCast, BitVec.toNat_ofNat]
  exact Nat.mod_eq_of_lt (Nat.lt_of_lt_of_le h (lim_le k))
theorem lim_pow (k : IntKind) : ∃ n, lim k = 2 ^ n := by
  cases k
  · exact ⟨7, rfl⟩
  · exact ⟨15, rfl⟩
  · exact ⟨31, rfl⟩
  · exact ⟨63, rfl⟩
  · exact ⟨8, rfl⟩
  · exact ⟨16, rfl⟩
  · exact ⟨32, rfl⟩
  · exact ⟨64, rfl⟩

theorem fbin_alt (op : BinOp) (t : TypeId) (k : IntKind) (a b : Nat) (K : KV) (D : A) : Alt (modelSays P op t (.int k a) (.int k b)) K D (fbin op k a b K D) := by
  cases op <;> simp only [fbin, fbinC]
  case add => exact (wrapK_alt k _ K D).mono fun v h => by subst h; simp [modelSays, Go.binOp, Op.intArith, pureEval]; rfl
  case sub =>
    rw [iteB_eq]; split
    · rename_i h
      refine (wrapK_alt k _ K D).mono fun v h' => ?_
      subst h'
      have : ((Nat.sub a b : Nat) : Int) = (a : Int) - b := by
        have := Nat.le_of_ble_eq_true h
        show ((a - b : Nat) : Int) = _
        omega
      rw [this]
      simp [modelSays, Go.binOp, Op.intArith, pureEval]; rfl
    · exact .d
  case mul =>
    refine (wrapK_alt k _ K D).mono fun v h => ?_
    subst h
    have : ((Nat.mul a b : Nat) : Int) = (a : Int) * b := Int.natCast_mul a b
    rw [this]
    simp [modelSays, Go.binOp, Op.intArith, pureEval]; rfl
  case quo =>
    cases b with
    | zero => exact .d
    | succ b =>
      refine (wrapK_alt k _ K D).mono fun v h => ?_
      subst h
      have h0 : ¬ ((b + 1 : Nat) : Int) = 0 := by omega
      have : ((Nat.div a (b + 1) : Nat) : Int) = (a : Int).tdiv ((b + 1 : Nat) : Int) := rfl
      rw [this]
      simp only [modelSays, Go.binOp, Op.intDiv, if_neg h0, ne_eq, not_true, if_false]
      rfl
  case rem =>
    cases b with
    | zero => exact .d
    | succ b =>
      refine Or.inr ⟨_, ?_, natK_eq _ _⟩
      have h0 : ¬ ((b + 1 : Nat) : Int) = 0 := by omega
      simp only [modelSays, Go.binOp, Op.intDiv, if_neg h0, ne_eq, not_true, if_false]
      rfl
  case and =>
    unfold inK; simp only [iteB_eq, natK_eq]
    split
    · split
      · rename_i ha hb
        have ha : a < lim k := by simpa [Nat.blt_eq] using ha
        have hb : b < lim k := by simpa [Nat.blt_eq] using hb
        refine Or.inr ⟨_, ?_, rfl⟩
        have e : (BitVec.ofInt k.bits (a : Int) &&& BitVec.ofInt k.bits (b : Int)).toNat = Nat.land a b := by
          rw [BitVec.toNat_and, ofInt_toNat ha, ofInt_toNat hb]; rfl
        have hl : Nat.land a b < lim k := Nat.lt_of_le_of_lt Nat.and_le_left ha
        simp only [modelSays, Go.binOp, Op.intBits, ne_eq, not_true, if_false, e, wrap_small hl]
        rfl
      · exact .d
    · exact .d
  case or =>
    unfold inK; simp only [iteB_eq, natK_eq]
    split
    · split
      · rename_i ha hb
        have ha : a < lim k := by simpa [Nat.blt_eq] using ha
        have hb : b < lim k := by simpa [Nat.blt_eq] using hb
        refine Or.inr ⟨_, ?_, rfl⟩
        have e : (BitVec.ofInt k.bits (a : Int) ||| BitVec.ofInt k.bits (b : Int)).toNat = Nat.lor a b := by
          rw [BitVec.toNat_or, ofInt_toNat ha, ofInt_toNat hb]; rfl
        have hl : Nat.lor a b < lim k := by
          obtain ⟨n, hn⟩ := lim_pow k
          rw [hn] at ha hb ⊢; exact Nat.or_lt_two_pow ha hb
        simp only [modelSays, Go.binOp, Op.intBits, ne_eq, not_true, if_false, e, wrap_small hl]
        rfl
      · exact .d
    · exact .d
  case xor =>
    unfold inK; simp only [iteB_eq, natK_eq]
    split
    · split
      · rename_i ha hb
        have ha : a < lim k := by simpa [Nat.blt_eq] using ha
        have hb : b < lim k := by simpa [Nat.blt_eq] using hb
        refine Or.inr ⟨_, ?_, rfl⟩
        have e : (BitVec.ofInt k.bits (a : Int) ^^^ BitVec.ofInt k.bits (b : Int)).toNat = Nat.xor a b := by
          rw [BitVec.toNat_xor, ofInt_toNat ha, ofInt_toNat hb]; rfl
        have hl : Nat.xor a b < lim k := by
          obtain ⟨n, hn⟩ := lim_pow k
          rw [hn] at ha hb ⊢; exact Nat.xor_lt_two_pow ha hb
        simp only [modelSays, Go.binOp, Op.intBits, ne_eq, not_true, if_false, e, wrap_small hl]
        rfl
      · exact .d
    · exact .d
  case andNot => exact .d
  case shl => exact .d
  case shr => exact .d
  all_goals
    refine (boolK_alt _ K D).mono fun v h => ?_
    subst h
    simp only [modelSays, Go.binOp, Op.intCmp, ne_eq, not_true, if_false]
    show some (Value.bool _) = some (Value.bool _)
    congr 2
  case eql => exact Bool.eq_iff_iff.mpr (by simp [Nat.beq_eq, Int.natCast_inj])
  case neq =>
    cases h : Nat.beq a b with
    | true => simp [Nat.eq_of_beq_eq_true h]
    | false => simp [Nat.ne_of_beq_eq_false h, Int.natCast_inj]
  case lss => exact Bool.eq_iff_iff.mpr (by simp [Nat.blt_eq])
  case leq => exact Bool.eq_iff_iff.mpr (by simp [Nat.ble_eq])
  case gtr => exact Bool.eq_iff_iff.mpr (by simp [Nat.blt_eq])
  case geq => exact Bool.eq_iff_iff.mpr (by simp [Nat.ble_eq])

theorem fshift_alt (op : BinOp) (t : TypeId) (k j : IntKind) (a b : Nat) (K : KV) (D : A) : Alt (modelSays P op t (.int k a) (.int j b)) K D (fshift op k a b K D) := by
  unfold fshift fshiftC
  have hb0 : ¬ ((b : Int) < 0) := by omega
  split
  · simp only [iteB_eq]
    split
    · split
      · rename_i h1 h
        have hb : b ≤ k.bits := Nat.le_of_ble_eq_true h
        refine (wrapK_alt k _ K D).mono fun v h => ?_
        subst h
        have e : ((Nat.mul a (Nat.pow 2 b) : Nat) : Int) = (a : Int) * 2 ^ b := by
          show ((a * 2 ^ b : Nat) : Int) = _
          rw [Int.natCast_mul, Int.natCast_pow]; rfl
        simp only [modelSays, Go.binOp, Op.shift, if_neg hb0, e, Int.toNat_natCast, Nat.min_eq_left hb]
        rfl
      · exact .d
    · exact .d
  · simp only [iteB_eq, natK_eq]
    split
    · rename_i h
      have hb : b ≤ k.bits := Nat.le_of_ble_eq_true h
      refine Or.inr ⟨_, ?_, rfl⟩
      have e : (a : Int).fdiv (2 ^ b) = ((Nat.div a (Nat.pow 2 b) : Nat) : Int) := by
        have : ((2 : Int) ^ b) = ((2 ^ b : Nat) : Int) := by rw [Int.natCast_pow]; rfl
        rw [this, Int.fdiv_eq_ediv_of_nonneg _ (Int.natCast_nonneg _)]; rfl
      simp only [modelSays, Go.binOp, Op.shift, if_neg hb0, Int.toNat_natCast, Nat.min_eq_left hb, e]
      rfl
    · exact .d
  · exact .d

end Go.AE.F
