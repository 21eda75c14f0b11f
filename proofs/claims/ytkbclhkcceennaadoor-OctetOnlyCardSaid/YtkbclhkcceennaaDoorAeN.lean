import Derived.Test.YtkbclhkcceennaaDoorAeB
set_option linter.unusedVariables false
set_option linter.unusedSimpArgs false
/-! Numbers. -/
namespace Go.AE
open Go Go.RowKit
variable {P : Program}

theorem evBin_int (ρ : Operand → Value) (o : Oper) (op : BinOp) (t : TypeId) (j k : IntKind) (a b : Int) (s : St) : evBin P ρ o op t (.int j a) (.int k b) s = (binI op j k a b).bind fun v => some (v, s) := of_eq_true (eq_self _)
theorem evUn_not (ρ : Operand → Value) (o : Oper) (b : Bool) (s : St) : evUn P ρ o .not (.bool b) s = some (.bool (!b), s) := of_eq_true (eq_self _)
theorem evConv_int {src dst : TypeId} {d : TypeDesc} {k : IntKind} (hs : P.underlying src = some d) (hd : P.underlying dst = some (.int k)) (ρ : Operand → Value) (o : Oper) (j : IntKind) (n : Int) (s : St) :
    evConv P ρ o src dst (.int j n) s = some (.int k (k.wrap n), s) := by
  unfold evConv; simp only [hs, hd, Option.bind_some]
theorem evUn_neg (ρ : Operand → Value) (o : Oper) (k : IntKind) (n : Int) (s : St) : evUn P ρ o .neg (.int k n) s = some (.int k (k.wrap (0 - n)), s) := of_eq_true (eq_self _)
theorem evUn_xor (ρ : Operand → Value) (o : Oper) (k : IntKind) (n : Int) (s : St) : evUn P ρ o .xor (.int k n) s = some (.int k (notI k n), s) := of_eq_true (eq_self _)
theorem bind_wrap (v : Value) (s : St) : ((some v).bind fun v => some (v, s)) = some (v, s) := rfl

theorem wrap_u8 {n : Nat} (h : n < 256) : IntKind.u8.wrap (n : Int) = n := by
  unfold IntKind.wrap; simp [IntKind.bits, IntKind.signed]; omega
theorem wrap_u16 {n : Nat} (h : n < 65536) : IntKind.u16.wrap (n : Int) = n := by
  unfold IntKind.wrap; simp [IntKind.bits, IntKind.signed]; omega
theorem wrap_u64 {n : Nat} (h : n < 18446744073709551616) : IntKind.u64.wrap (n : Int) = n := by
  unfold IntKind.wrap; simp [IntKind.bits, IntKind.signed]; omega
theorem wrap_u8m (n : Nat) : IntKind.u8.wrap (n : Int) = ((n % 256 : Nat) : Int) := by
  unfold IntKind.wrap; simp [IntKind.bits, IntKind.signed]
theorem wrap_u16m (n : Nat) : IntKind.u16.wrap (n : Int) = ((n % 65536 : Nat) : Int) := by
  unfold IntKind.wrap; simp [IntKind.bits, IntKind.signed]
theorem wrap_u64m (n : Nat) : IntKind.u64.wrap (n : Int) = ((n % 18446744073709551616 : Nat) : Int) := by
  unfold IntKind.wrap; simp [IntKind.bits, IntKind.signed]
theorem wrap_i64 {n : Int} (h1 : -9223372036854775808 ≤ n) (h2 : n ≤ 9223372036854775807) : IntKind.i64.wrap n = n := by
  unfold IntKind.wrap; simp [IntKind.bits, IntKind.signed]; omega

/-- Shifts of numbers that are not below zero. -/
theorem shr_nat (j k : IntKind) (x n : Nat) (h : n ≤ j.bits) : binI .shr j k (x : Int) (n : Int) = some (.int j ((x / 2 ^ n : Nat) : Int)) := by
  unfold binI
  rw [decide_eq_false (by omega)]
  simp only [cond_false, Int.toNat_natCast, Nat.min_eq_left h]
  congr 2
  rw [Int.fdiv_eq_ediv_of_nonneg _ (by exact Int.le_of_lt (Int.pow_pos (by decide)))]
  simp
theorem shl_u64 (k : IntKind) (x n : Nat) (h : n ≤ 64) : binI .shl .u64 k (x : Int) (n : Int) = some (.int .u64 ((x * 2 ^ n % 18446744073709551616 : Nat) : Int)) := by
  unfold binI
  rw [decide_eq_false (by omega)]
  simp only [cond_false, Int.toNat_natCast, Nat.min_eq_left (show n ≤ IntKind.u64.bits from h)]
  congr 2
theorem shl_u16 (k : IntKind) (x n : Nat) (h : n ≤ 16) : binI .shl .u16 k (x : Int) (n : Int) = some (.int .u16 ((x * 2 ^ n % 65536 : Nat) : Int)) := by
  unfold binI
  rw [decide_eq_false (by omega)]
  simp only [cond_false, Int.toNat_natCast, Nat.min_eq_left (show n ≤ IntKind.u16.bits from h)]
  congr 2
theorem ofInt_nat (b : Nat) (x : Nat) : (BitVec.ofInt b (x : Int)).toNat = x % 2 ^ b := by
  simp [BitVec.toNat_ofInt]
theorem xor_u16 (x y : Nat) (hx : x < 65536) (hy : y < 65536) : binI .xor .u16 .u16 (x : Int) (y : Int) = some (.int .u16 ((x ^^^ y : Nat) : Int)) := by
  show some (Value.int .u16 (IntKind.u16.wrap (((BitVec.ofInt 16 (x : Int)) ^^^ (BitVec.ofInt 16 (y : Int))).toNat : Int))) = _
  rw [BitVec.toNat_xor, ofInt_nat, ofInt_nat, Nat.mod_eq_of_lt (by simpa using hx), Nat.mod_eq_of_lt (by simpa using hy), wrap_u16 (by have := Nat.xor_lt_two_pow (n := 16) (by simpa using hx) (by simpa using hy); simpa using this)]
theorem xor_u8 (x y : Nat) (hx : x < 256) (hy : y < 256) : binI .xor .u8 .u8 (x : Int) (y : Int) = some (.int .u8 ((x ^^^ y : Nat) : Int)) := by
  show some (Value.int .u8 (IntKind.u8.wrap (((BitVec.ofInt 8 (x : Int)) ^^^ (BitVec.ofInt 8 (y : Int))).toNat : Int))) = _
  rw [BitVec.toNat_xor, ofInt_nat, ofInt_nat, Nat.mod_eq_of_lt (by simpa using hx), Nat.mod_eq_of_lt (by simpa using hy), wrap_u8 (by have := Nat.xor_lt_two_pow (n := 8) (by simpa using hx) (by simpa using hy); simpa using this)]
theorem or_u64 (x y : Nat) (hx : x < 18446744073709551616) (hy : y < 18446744073709551616) : binI .or .u64 .u64 (x : Int) (y : Int) = some (.int .u64 ((x ||| y : Nat) : Int)) := by
  show some (Value.int .u64 (IntKind.u64.wrap (((BitVec.ofInt 64 (x : Int)) ||| (BitVec.ofInt 64 (y : Int))).toNat : Int))) = _
  rw [BitVec.toNat_or, ofInt_nat, ofInt_nat, Nat.mod_eq_of_lt (by simpa using hx), Nat.mod_eq_of_lt (by simpa using hy), wrap_u64 (by have := Nat.or_lt_two_pow (n := 64) (by simpa using hx) (by simpa using hy); simpa using this)]
theorem and_u64 (x y : Nat) (hx : x < 18446744073709551616) (hy : y < 18446744073709551616) : binI .and .u64 .u64 (x : Int) (y : Int) = some (.int .u64 ((x &&& y : Nat) : Int)) := by
  show some (Value.int .u64 (IntKind.u64.wrap (((BitVec.ofInt 64 (x : Int)) &&& (BitVec.ofInt 64 (y : Int))).toNat : Int))) = _
  rw [BitVec.toNat_and, ofInt_nat, ofInt_nat, Nat.mod_eq_of_lt (by simpa using hx), Nat.mod_eq_of_lt (by simpa using hy), wrap_u64 (by have := Nat.and_lt_two_pow (n := 64) x (y := y) (by simpa using hy); simpa using this)]
theorem binI_add (k : IntKind) (a b : Int) : binI .add k k a b = some (.int k (k.wrap (a + b))) := by simp [binI]
theorem binI_sub (k : IntKind) (a b : Int) : binI .sub k k a b = some (.int k (k.wrap (a - b))) := by simp [binI]
theorem binI_mul (k : IntKind) (a b : Int) : binI .mul k k a b = some (.int k (k.wrap (a * b))) := by simp [binI]
theorem binI_rem (k : IntKind) (a b : Int) (h : b ≠ 0) : binI .rem k k a b = some (.int k (a.tmod b)) := by simp [binI, h]
theorem binI_quo (k : IntKind) (a b : Int) (h : b ≠ 0) : binI .quo k k a b = some (.int k (k.wrap (a.tdiv b))) := by simp [binI, h]
theorem binI_eql (k : IntKind) (a b : Int) : binI .eql k k a b = some (.bool (decide (a = b))) := by
  simp only [binI, decide_true, cond_true]; congr 2
theorem binI_neq (k : IntKind) (a b : Int) : binI .neq k k a b = some (.bool (decide (a ≠ b))) := by
  simp only [binI, decide_true, cond_true]; congr 2
  by_cases h : a = b <;> simp [h]
theorem binI_lss (k : IntKind) (a b : Int) : binI .lss k k a b = some (.bool (decide (a < b))) := by simp [binI]
theorem binI_leq (k : IntKind) (a b : Int) : binI .leq k k a b = some (.bool (decide (a ≤ b))) := by simp [binI]
theorem binI_gtr (k : IntKind) (a b : Int) : binI .gtr k k a b = some (.bool (decide (a > b))) := by simp [binI]
theorem binI_geq (k : IntKind) (a b : Int) : binI .geq k k a b = some (.bool (decide (a ≥ b))) := by simp [binI]

theorem seqQ_normal (K : PT Value → St → Prop) (Q : Ex → PT Value → St → Prop) (t : PT Value) (s : St) : seqQ K Q .normal t s = K t s := of_eq_true (eq_self _)
theorem seqQ_exit (K : PT Value → St → Prop) (Q : Ex → PT Value → St → Prop) (i : Nat) (t : PT Value) (s : St) : seqQ K Q (.exit i) t s = Q (.exit i) t s := of_eq_true (eq_self _)
theorem seqQ_ret (K : PT Value → St → Prop) (Q : Ex → PT Value → St → Prop) (t : PT Value) (s : St) : seqQ K Q .ret t s = Q .ret t s := of_eq_true (eq_self _)
theorem blockQ_normal (id : Nat) (Q : Ex → PT Value → St → Prop) (t : PT Value) (s : St) : blockQ id Q .normal t s = Q .normal t s := of_eq_true (eq_self _)
theorem blockQ_exit (id i : Nat) (Q : Ex → PT Value → St → Prop) (t : PT Value) (s : St) : blockQ id Q (.exit i) t s = if i = id then Q .normal t s else Q (.exit i) t s := of_eq_true (eq_self _)
theorem blockQ_ret (id : Nat) (Q : Ex → PT Value → St → Prop) (t : PT Value) (s : St) : blockQ id Q .ret t s = Q .ret t s := of_eq_true (eq_self _)
theorem retQ_ret (rs : List ResultVar) (Post : Value → St → Prop) (t : PT Value) (s : St) : retQ P rs Post .ret t s = resV P rs t s fun v => Post v s := of_eq_true (eq_self _)
theorem retQ_normal (rs : List ResultVar) (Post : Value → St → Prop) (t : PT Value) (s : St) : retQ P rs Post .normal t s = resV P rs t s fun v => Post v s := of_eq_true (eq_self _)
def slotV (t : PT Value) (i : Nat) : Value := match t.get i with | some v => v | none => undef
theorem ρof_tmp (t : PT Value) (i : Nat) : ρof t (.tmp i) = slotV t i := of_eq_true (eq_self _)
theorem ρof_const (t : PT Value) (v : Value) : ρof t (.const v) = v := of_eq_true (eq_self _)
theorem ρof_global (t : PT Value) (g : Nat) : ρof t (.global g) = .pointer (some ⟨2 * g + 1, 0, none⟩) := of_eq_true (eq_self _)
theorem ρof_func (t : PT Value) (f : Nat) : ρof t (.func f) = .func (.func f) #[] #[] := of_eq_true (eq_self _)
theorem slotV_set (t : PT Value) (k : Nat) (v : Value) (j : Nat) : slotV (t.set k (some v)) j = if j = k then v else slotV t j := by
  unfold slotV; rw [PT.get_set]; by_cases h : j = k <;> simp [h]
theorem resV_tmp (i : Nat) (t : PT Value) (s : St) (K : Value → Prop) : resV P [.tmp i] t s K = K (slotV t i) := of_eq_true (eq_self _)
theorem resV_tmp2 (i j : Nat) (t : PT Value) (s : St) (K : Value → Prop) : resV P [.tmp i, .tmp j] t s K = K (.tuple #[slotV t i, slotV t j]) := of_eq_true (eq_self _)
theorem u8_of {x : Nat} (h : x < 256) : Value.int .u8 (x : Int) = u8v (UInt8.ofNat x) := by
  unfold u8v
  rw [show (UInt8.ofNat x).toNat = x from by simp; omega]
theorem u8_ofm (x : Nat) : Value.int .u8 ((x % 256 : Nat) : Int) = u8v (UInt8.ofNat (x % 256)) := u8_of (Nat.mod_lt _ (by decide))
theorem notI_u64 (n : Nat) (h : n < 18446744073709551616) : notI .u64 (n : Int) = ((18446744073709551615 - n : Nat) : Int) := by
  show IntKind.u64.wrap ((BitVec.ofInt 64 (18446744073709551615 : Int) ^^^ BitVec.ofInt 64 (n : Int)).toNat : Int) = _
  have h1 : BitVec.ofInt 64 (18446744073709551615 : Int) = BitVec.allOnes 64 := by decide
  rw [h1, BitVec.allOnes_xor, BitVec.toNat_not, ofInt_nat, Nat.mod_eq_of_lt (by simpa using h)]
  rw [wrap_u64 (by omega)]
theorem wrap_u64_neg {n : Int} (h1 : -18446744073709551616 ≤ n) (h2 : n < 0) : IntKind.u64.wrap n = n + 18446744073709551616 := by
  unfold IntKind.wrap; simp [IntKind.bits, IntKind.signed]; omega
theorem asIdx_nat (k : IntKind) (n : Nat) : asIdx (.int k (n : Int)) = some n := rfl
theorem idx_slice {t e : TypeId} (ht : P.underlying t = some (.slice e)) (he : sizeT P e = some 1) {i n c : Nat} (h : i < n) (a : Addr) (k : IntKind) (s : St) : eIndexAddr P t (.slice (some a) n c) (.int k (i : Int)) s = some (.pointer (some (a.add i)), s) := by
  unfold eIndexAddr
  rw [asIdx_nat, ht]
  simp only [Option.bind_some, he]
  rw [show Nat.blt i n = true from by simpa [Nat.blt_eq] using h]
  simp [ck]
theorem idx_arr {t e : TypeId} {n : Nat} (ht : P.underlying t = some (.array n e)) (he : sizeT P e = some 1) {i : Nat} (h : i < n) (a : Addr) (k : IntKind) (s : St) : eIndexAddr P t (.pointer (some a)) (.int k (i : Int)) s = some (.pointer (some (a.add i)), s) := by
  unfold eIndexAddr
  rw [asIdx_nat, ht]
  simp only [Option.bind_some, he]
  rw [show Nat.blt i n = true from by simpa [Nat.blt_eq] using h]
  simp [ck]
theorem load_one {t : TypeId} (ht : isAggT P t = some false) {s : St} {a : Addr} {v : Value} (h : s.load a = some v) : eLoad P t (.pointer (some a)) s = some (v, s) := by
  unfold eLoad asPtr
  simp only [Option.bind_some, ht, h]

/-- A slice of slices of bytes reads so. -/
def RowsB (s : St) (v : Value) (ls : List (List UInt8)) : Prop := ∃ a c vs, v = .slice (some a) ls.length c ∧ a.spot = none ∧ s.loads a ls.length = some vs ∧ ∀ (i : Nat) l, ls[i]? = some l → ∃ u, vs[i]? = some u ∧ Bytes s u l
theorem RowsB.at {s : St} {a : Addr} {n c : Nat} {ls : List (List UInt8)} (h : RowsB s (.slice (some a) n c) ls) {i : Nat} {l : List UInt8} (hi : ls[i]? = some l) : ∃ u, s.load (a.add i) = some u ∧ Bytes s u l := by
  obtain ⟨a', c', vs, hv, h2, h3, h4⟩ := h
  simp only [Value.slice.injEq, Option.some.injEq] at hv
  obtain ⟨rfl, rfl, rfl⟩ := hv
  obtain ⟨u, hu, hb⟩ := h4 i l hi
  exact ⟨u, loads_load h3 hu h2, hb⟩
theorem Bytes.at {s : St} {a : Addr} {n c : Nat} {l : List UInt8} (h : Bytes s (.slice (some a) n c) l) {i : Nat} {x : UInt8} (hi : l[i]? = some x) : s.load (a.add i) = some (u8v x) := by
  rcases h with ⟨h, _⟩ | ⟨a', c', hv, h2, h3, h4⟩
  · cases h
  · simp only [Value.slice.injEq, Option.some.injEq] at hv
    obtain ⟨rfl, rfl, rfl⟩ := hv
    exact loads_load h4 (by rw [List.getElem?_map, hi]; rfl) h2
theorem len_slice {ty e : TypeId} (hT : P.underlying ty = some (.slice e)) (a : Option Addr) (n c : Nat) (s : St) : eLen P ty (.slice a n c) s = some (.int .i64 (n : Int), s) := by
  unfold eLen
  rw [hT]; rfl
theorem Bytes.len {s : St} {b : Option Addr} {n c : Nat} {l : List UInt8} (h : Bytes s (.slice b n c) l) : n = l.length := by
  rcases h with ⟨h, rfl⟩ | ⟨a', c', hv, _⟩
  · simp only [Value.slice.injEq] at h; exact h.2.1
  · simp only [Value.slice.injEq] at hv; exact hv.2.1

/-! One operation at a time: what comes after stays closed until its turn. -/
def wpK (P : Program) (ops : Array Oper) (Q : PT Value → St → Prop) (l : List Oper) (t : PT Value) (d : Option Tmp) (v : Value) (s : St) : Prop := wpL P ops Q l (setD t d v) s
theorem wpK_eq (ops : Array Oper) (Q : PT Value → St → Prop) (l : List Oper) (t : PT Value) (d : Option Tmp) (v : Value) (s : St) : wpK P ops Q l t d v s = wpL P ops Q l (setD t d v) s := of_eq_true (eq_self _)
theorem wpL_nil (ops : Array Oper) (Q : PT Value → St → Prop) (t : PT Value) (s : St) : wpL P ops Q [] t s = Q t s := of_eq_true (eq_self _)
/-- One operation that is wanted. -/
def wpOp (P : Program) (ops : Array Oper) (Q : PT Value → St → Prop) (o : Oper) (l : List Oper) (t : PT Value) (s : St) : Prop := match callTarget o.op with
  | some fa => fnP' (ρof t fa.1) fun f a b => CallT P f (a ++ fa.2.toList.map (ρof t) ++ b) s (wpK P ops Q l t o.dst)
  | none => bindP (ev P (ρof t) o s) (wpK P ops Q l t o.dst)
theorem wpL_go {o : Oper} (hg : o.guard = none) (ops : Array Oper) (Q : PT Value → St → Prop) (l : List Oper) (t : PT Value) (s : St) : wpL P ops Q (o :: l) t s = wpOp P ops Q o l t s := by
  rw [wpL]
  simp only [Region.wanted, hg]
  rfl
/-- What a slice expression does. -/
def eSliceV (P : Program) (a : TypeId) (x : Value) (lo hi mx : Option Value) (s : St) : Option (Value × St) := match x with
  | .pointer _ => eSliceArr P a x lo hi mx s
  | _ => eSlice P a x lo hi mx s
theorem wpOp_move (P : Program) (ops : Array Oper) (Q : PT Value → St → Prop) (l : List Oper) (t : PT Value) (s : St) (d : Option Tmp) (ty : TypeId) (pos : String) (af : Array Edge) (g : Option (Nat × Bool)) (x : Operand) : wpOp P ops Q ⟨d, .move x, ty, pos, af, g⟩ l t s = wpL P ops Q l (setD t d (ρof t x)) s := of_eq_true (eq_self _)
theorem wpOp_assign (P : Program) (ops : Array Oper) (Q : PT Value → St → Prop) (l : List Oper) (t : PT Value) (s : St) (d : Option Tmp) (ty : TypeId) (pos : String) (af : Array Edge) (g : Option (Nat × Bool)) (x : Operand) : wpOp P ops Q ⟨d, .assign x, ty, pos, af, g⟩ l t s = wpL P ops Q l (setD t d (ρof t x)) s := of_eq_true (eq_self _)
theorem wpOp_pick (P : Program) (ops : Array Oper) (Q : PT Value → St → Prop) (l : List Oper) (t : PT Value) (s : St) (d : Option Tmp) (ty : TypeId) (pos : String) (af : Array Edge) (g : Option (Nat × Bool)) (c a b : Operand) : wpOp P ops Q ⟨d, .pick c a b, ty, pos, af, g⟩ l t s = bindP (pickV (ρof t c) (ρof t a) (ρof t b) s) (wpK P ops Q l t d) := of_eq_true (eq_self _)
theorem wpOp_alloc (P : Program) (ops : Array Oper) (Q : PT Value → St → Prop) (l : List Oper) (t : PT Value) (s : St) (d : Option Tmp) (ty : TypeId) (pos : String) (af : Array Edge) (g : Option (Nat × Bool)) (e : TypeId) : wpOp P ops Q ⟨d, .alloc e, ty, pos, af, g⟩ l t s = bindP (eAlloc P e s) (wpK P ops Q l t d) := of_eq_true (eq_self _)
theorem wpOp_box (P : Program) (ops : Array Oper) (Q : PT Value → St → Prop) (l : List Oper) (t : PT Value) (s : St) (d : Option Tmp) (ty : TypeId) (pos : String) (af : Array Edge) (g : Option (Nat × Bool)) (e : TypeId) (x : Operand) : wpOp P ops Q ⟨d, .box e x, ty, pos, af, g⟩ l t s = bindP (eBox e (ρof t x) s) (wpK P ops Q l t d) := of_eq_true (eq_self _)
theorem wpOp_load (P : Program) (ops : Array Oper) (Q : PT Value → St → Prop) (l : List Oper) (t : PT Value) (s : St) (d : Option Tmp) (ty : TypeId) (pos : String) (af : Array Edge) (g : Option (Nat × Bool)) (e : TypeId) (x : Operand) : wpOp P ops Q ⟨d, .load e x, ty, pos, af, g⟩ l t s = bindP (eLoad P e (ρof t x) s) (wpK P ops Q l t d) := of_eq_true (eq_self _)
theorem wpOp_store (P : Program) (ops : Array Oper) (Q : PT Value → St → Prop) (l : List Oper) (t : PT Value) (s : St) (d : Option Tmp) (ty : TypeId) (pos : String) (af : Array Edge) (g : Option (Nat × Bool)) (e : TypeId) (a x : Operand) : wpOp P ops Q ⟨d, .store e a x, ty, pos, af, g⟩ l t s = bindP (eStore P e (ρof t a) (ρof t x) s) (wpK P ops Q l t d) := of_eq_true (eq_self _)
theorem wpOp_nil (P : Program) (ops : Array Oper) (Q : PT Value → St → Prop) (l : List Oper) (t : PT Value) (s : St) (d : Option Tmp) (ty : TypeId) (pos : String) (af : Array Edge) (g : Option (Nat × Bool)) (x : Operand) : wpOp P ops Q ⟨d, .nilCheck x, ty, pos, af, g⟩ l t s = bindP (eNil (ρof t x) s) (wpK P ops Q l t d) := of_eq_true (eq_self _)
theorem wpOp_faddr (P : Program) (ops : Array Oper) (Q : PT Value → St → Prop) (l : List Oper) (t : PT Value) (s : St) (d : Option Tmp) (ty : TypeId) (pos : String) (af : Array Edge) (g : Option (Nat × Bool)) (e : TypeId) (x : Operand) (f : Nat) : wpOp P ops Q ⟨d, .fieldAddr e x f, ty, pos, af, g⟩ l t s = bindP (eFieldAddr P e (ρof t x) f s) (wpK P ops Q l t d) := of_eq_true (eq_self _)
theorem wpOp_iaddr (P : Program) (ops : Array Oper) (Q : PT Value → St → Prop) (l : List Oper) (t : PT Value) (s : St) (d : Option Tmp) (ty : TypeId) (pos : String) (af : Array Edge) (g : Option (Nat × Bool)) (e : TypeId) (x i : Operand) : wpOp P ops Q ⟨d, .indexAddr e x i, ty, pos, af, g⟩ l t s = bindP (eIndexAddr P e (ρof t x) (ρof t i) s) (wpK P ops Q l t d) := of_eq_true (eq_self _)
theorem wpOp_field (P : Program) (ops : Array Oper) (Q : PT Value → St → Prop) (l : List Oper) (t : PT Value) (s : St) (d : Option Tmp) (ty : TypeId) (pos : String) (af : Array Edge) (g : Option (Nat × Bool)) (e : TypeId) (x : Operand) (f : Nat) : wpOp P ops Q ⟨d, .field e x f, ty, pos, af, g⟩ l t s = bindP (eField P e (ρof t x) f s) (wpK P ops Q l t d) := of_eq_true (eq_self _)
theorem wpOp_index (P : Program) (ops : Array Oper) (Q : PT Value → St → Prop) (l : List Oper) (t : PT Value) (s : St) (d : Option Tmp) (ty : TypeId) (pos : String) (af : Array Edge) (g : Option (Nat × Bool)) (e : TypeId) (x i : Operand) : wpOp P ops Q ⟨d, .index e x i, ty, pos, af, g⟩ l t s = bindP (eIndex P e (ρof t x) (ρof t i) s) (wpK P ops Q l t d) := of_eq_true (eq_self _)
theorem wpOp_extract (P : Program) (ops : Array Oper) (Q : PT Value → St → Prop) (l : List Oper) (t : PT Value) (s : St) (d : Option Tmp) (ty : TypeId) (pos : String) (af : Array Edge) (g : Option (Nat × Bool)) (x : Operand) (i : Nat) : wpOp P ops Q ⟨d, .extract x i, ty, pos, af, g⟩ l t s = bindP (eExtract (ρof t x) i s) (wpK P ops Q l t d) := of_eq_true (eq_self _)
theorem wpOp_build (P : Program) (ops : Array Oper) (Q : PT Value → St → Prop) (l : List Oper) (t : PT Value) (s : St) (d : Option Tmp) (ty : TypeId) (pos : String) (af : Array Edge) (g : Option (Nat × Bool)) (e : TypeId) (p : Array (Nat × Operand)) : wpOp P ops Q ⟨d, .build e p, ty, pos, af, g⟩ l t s = bindP (eBuild P e (p.toList.map fun p => (p.1, ρof t p.2)) s) (wpK P ops Q l t d) := of_eq_true (eq_self _)
theorem wpOp_bslice (P : Program) (ops : Array Oper) (Q : PT Value → St → Prop) (l : List Oper) (t : PT Value) (s : St) (d : Option Tmp) (ty : TypeId) (pos : String) (af : Array Edge) (g : Option (Nat × Bool)) (e : TypeId) (n : Nat) (p : Array (Nat × Operand)) : wpOp P ops Q ⟨d, .buildSlice e n p, ty, pos, af, g⟩ l t s = bindP (eBuildSlice P e n (p.toList.map fun p => (p.1, ρof t p.2)) s) (wpK P ops Q l t d) := of_eq_true (eq_self _)
theorem wpOp_mslice (P : Program) (ops : Array Oper) (Q : PT Value → St → Prop) (l : List Oper) (t : PT Value) (s : St) (d : Option Tmp) (ty : TypeId) (pos : String) (af : Array Edge) (g : Option (Nat × Bool)) (e : TypeId) (x y : Operand) : wpOp P ops Q ⟨d, .makeSlice e x y, ty, pos, af, g⟩ l t s = bindP (eMakeSlice P e (ρof t x) (ρof t y) s) (wpK P ops Q l t d) := of_eq_true (eq_self _)
theorem wpOp_bin (P : Program) (ops : Array Oper) (Q : PT Value → St → Prop) (l : List Oper) (t : PT Value) (s : St) (d : Option Tmp) (ty : TypeId) (pos : String) (af : Array Edge) (g : Option (Nat × Bool)) (op : BinOp) (xt yt : TypeId) (x y : Operand) : wpOp P ops Q ⟨d, .binOp op xt x y yt, ty, pos, af, g⟩ l t s = bindP (evBin P (ρof t) ⟨d, .binOp op xt x y yt, ty, pos, af, g⟩ op xt (ρof t x) (ρof t y) s) (wpK P ops Q l t d) := of_eq_true (eq_self _)
theorem wpOp_un (P : Program) (ops : Array Oper) (Q : PT Value → St → Prop) (l : List Oper) (t : PT Value) (s : St) (d : Option Tmp) (ty : TypeId) (pos : String) (af : Array Edge) (g : Option (Nat × Bool)) (op : UnOp) (xt : TypeId) (x : Operand) : wpOp P ops Q ⟨d, .unOp op xt x, ty, pos, af, g⟩ l t s = bindP (evUn P (ρof t) ⟨d, .unOp op xt x, ty, pos, af, g⟩ op (ρof t x) s) (wpK P ops Q l t d) := of_eq_true (eq_self _)
theorem wpOp_conv (P : Program) (ops : Array Oper) (Q : PT Value → St → Prop) (l : List Oper) (t : PT Value) (s : St) (d : Option Tmp) (ty : TypeId) (pos : String) (af : Array Edge) (g : Option (Nat × Bool)) (a b : TypeId) (x : Operand) : wpOp P ops Q ⟨d, .convert a b x, ty, pos, af, g⟩ l t s = bindP (evConv P (ρof t) ⟨d, .convert a b x, ty, pos, af, g⟩ a b (ρof t x) s) (wpK P ops Q l t d) := of_eq_true (eq_self _)
theorem wpOp_append (P : Program) (ops : Array Oper) (Q : PT Value → St → Prop) (l : List Oper) (t : PT Value) (s : St) (d : Option Tmp) (ty : TypeId) (pos : String) (af : Array Edge) (g : Option (Nat × Bool)) (a b : TypeId) (x y : Operand) : wpOp P ops Q ⟨d, .call ⟨.builtin .append, #[x, y], #[a, b]⟩, ty, pos, af, g⟩ l t s = bindP (eAppend P a b (ρof t x) (ρof t y) s) (wpK P ops Q l t d) := of_eq_true (eq_self _)
theorem wpOp_len (P : Program) (ops : Array Oper) (Q : PT Value → St → Prop) (l : List Oper) (t : PT Value) (s : St) (d : Option Tmp) (ty : TypeId) (pos : String) (af : Array Edge) (g : Option (Nat × Bool)) (a : TypeId) (x : Operand) : wpOp P ops Q ⟨d, .call ⟨.builtin .len, #[x], #[a]⟩, ty, pos, af, g⟩ l t s = bindP (eLen P a (ρof t x) s) (wpK P ops Q l t d) := of_eq_true (eq_self _)
theorem wpOp_copy (P : Program) (ops : Array Oper) (Q : PT Value → St → Prop) (l : List Oper) (t : PT Value) (s : St) (d : Option Tmp) (ty : TypeId) (pos : String) (af : Array Edge) (g : Option (Nat × Bool)) (a b : TypeId) (x y : Operand) : wpOp P ops Q ⟨d, .call ⟨.builtin .copy, #[x, y], #[a, b]⟩, ty, pos, af, g⟩ l t s = bindP (eCopy P a (ρof t x) (ρof t y) s) (wpK P ops Q l t d) := of_eq_true (eq_self _)
theorem wpOp_slice (P : Program) (ops : Array Oper) (Q : PT Value → St → Prop) (l : List Oper) (t : PT Value) (s : St) (d : Option Tmp) (ty : TypeId) (pos : String) (af : Array Edge) (g : Option (Nat × Bool)) (a : TypeId) (x : Operand) (lo hi mx : Option Operand) : wpOp P ops Q ⟨d, .slice a x lo hi mx, ty, pos, af, g⟩ l t s = bindP (eSliceV P a (ρof t x) (lo.map (ρof t)) (hi.map (ρof t)) (mx.map (ρof t)) s) (wpK P ops Q l t d) := of_eq_true (eq_self _)
theorem wpOp_mfunc (P : Program) (ops : Array Oper) (Q : PT Value → St → Prop) (l : List Oper) (t : PT Value) (s : St) (d : Option Tmp) (ty : TypeId) (pos : String) (af : Array Edge) (g : Option (Nat × Bool)) (fn : Fn) (a c : Array Operand) : wpOp P ops Q ⟨d, .makeFunc fn a c, ty, pos, af, g⟩ l t s = wpL P ops Q l (setD t d (.func fn (a.map (ρof t)) (c.map (ρof t)))) s := of_eq_true (eq_self _)
theorem wpOp_call (P : Program) (ops : Array Oper) (Q : PT Value → St → Prop) (l : List Oper) (t : PT Value) (s : St) (d : Option Tmp) (ty : TypeId) (pos : String) (af : Array Edge) (g : Option (Nat × Bool)) (f : FuncId) (a : Array Operand) (ats : Array TypeId) : wpOp P ops Q ⟨d, .call ⟨.value (.func f), a, ats⟩, ty, pos, af, g⟩ l t s = CallT P f (a.toList.map (ρof t)) s (wpK P ops Q l t d) := by
  show CallT P f ([] ++ a.toList.map (ρof t) ++ []) s (wpK P ops Q l t d) = _
  rw [List.nil_append, List.append_nil]
theorem setD_some (t : PT Value) (k : Tmp) (v : Value) : setD t (some k) v = t.set k (some v) := of_eq_true (eq_self _)
theorem setD_none (t : PT Value) (v : Value) : setD t none v = t := of_eq_true (eq_self _)
def gateV (v : Value) (b : Bool) (K L : Value → St → Prop) (s : St) : Prop := match v with
  | .bool x => if x = b then K undef s else L undef s
  | _ => L undef s
theorem gateV_lit (x b : Bool) (K L : Value → St → Prop) (s : St) : gateV (.bool x) b K L s = if x = b then K undef s else L undef s := of_eq_true (eq_self _)
def wpO (P : Program) (ops : Array Oper) (Q : PT Value → St → Prop) (o : Oper) (l : List Oper) (t : PT Value) (_ : Value) (s : St) : Prop := wpOp P ops Q o l t s
theorem wpO_eq (ops : Array Oper) (Q : PT Value → St → Prop) (o : Oper) (l : List Oper) (t : PT Value) (v : Value) (s : St) : wpO P ops Q o l t v s = wpOp P ops Q o l t s := of_eq_true (eq_self _)
theorem wpL_guard {o : Oper} {j : Nat} {b : Bool} {d : Tmp} (hg : o.guard = some (j, b)) (ops : Array Oper) (hd : (ops[j]?).bind (·.dst) = some d) (Q : PT Value → St → Prop) (l : List Oper) (t : PT Value) (s : St) : wpL P ops Q (o :: l) t s = gateV (slotV t d) b (wpO P ops Q o l t) (wpK P ops Q l t o.dst) s := by
  have hy : yieldedE ops t j = (match t.get d with | some (.bool x) => some x | _ => none) := by
    unfold yieldedE
    cases ho : ops[j]? with
    | none => rw [ho] at hd; cases hd
    | some oj =>
      rw [ho] at hd
      have hd' : oj.dst = some d := hd
      simp only [Option.bind_some, hd']
      cases t.get d with
      | none => rfl
      | some v => cases v <;> rfl
  have key : wpL P ops Q (o :: l) t s = match (match t.get d with | some (.bool x) => some x | _ => none) == some b with
    | true => wpO P ops Q o l t undef s
    | false => wpK P ops Q l t o.dst undef s := by
    rw [wpL, ← hy]
    simp only [Region.wanted, hg]
    rfl
  rw [key]
  unfold gateV slotV
  cases t.get d with
  | none => rfl
  | some v => cases v <;> first | rfl | (rename_i x; cases x <;> cases b <;> rfl)

/-- The slot that an operation's guard looks at. -/
def slotOp (o : Option Oper) (t : PT Value) : Value := match o.bind (·.dst) with
  | some d => slotV t d
  | none => undef
theorem slotOp_some (d : Tmp) (op : Op) (ty : TypeId) (pos : String) (af : Array Edge) (g : Option (Nat × Bool)) (t : PT Value) : slotOp (some ⟨some d, op, ty, pos, af, g⟩) t = slotV t d := of_eq_true (eq_self _)
theorem wpL_gd (ops : Array Oper) (Q : PT Value → St → Prop) (l : List Oper) (t : PT Value) (s : St) (d : Option Tmp) (op : Op) (ty : TypeId) (pos : String) (af : Array Edge) (j : Nat) (b : Bool) : wpL P ops Q (⟨d, op, ty, pos, af, some (j, b)⟩ :: l) t s = gateV (slotOp ops[j]? t) b (wpO P ops Q ⟨d, op, ty, pos, af, some (j, b)⟩ l t) (wpK P ops Q l t d) s := by
  cases hd : (ops[j]?).bind (·.dst) with
  | some k =>
    rw [wpL_guard (o := ⟨d, op, ty, pos, af, some (j, b)⟩) (d := k) rfl ops hd]
    unfold slotOp; rw [hd]
  | none =>
    have hy : yieldedE ops t j = none := by
      unfold yieldedE
      cases ho : ops[j]? with
      | none => rfl
      | some oj => rw [ho] at hd; simp only [Option.bind_some] at hd ⊢; rw [hd]; rfl
    rw [wpL]
    simp only [Region.wanted, hy]
    unfold slotOp; rw [hd]
    rfl
theorem if_tt {α : Sort _} (a b : α) : (if true = true then a else b) = a := rfl
theorem if_ff {α : Sort _} (a b : α) : (if false = false then a else b) = a := rfl
theorem if_tf {α : Sort _} (a b : α) : (if true = false then a else b) = b := rfl
theorem if_ft {α : Sort _} (a b : α) : (if false = true then a else b) = b := rfl

/-! Shifts by a number that stands in the code. -/
theorem shl_u16L (k : IntKind) (x n : Nat) (h : n ≤ 16) : binI .shl .u16 k (x : Int) (no_index (OfNat.ofNat n)) = some (.int .u16 ((x * 2 ^ n % 65536 : Nat) : Int)) := shl_u16 k x n h
theorem shl_u64L (k : IntKind) (x n : Nat) (h : n ≤ 64) : binI .shl .u64 k (x : Int) (no_index (OfNat.ofNat n)) = some (.int .u64 ((x * 2 ^ n % 18446744073709551616 : Nat) : Int)) := shl_u64 k x n h
theorem shr_natL (j k : IntKind) (x n : Nat) (h : n ≤ 8) : binI .shr j k (x : Int) (no_index (OfNat.ofNat n)) = some (.int j ((x / 2 ^ n : Nat) : Int)) := shr_nat j k x n (Nat.le_trans h (by cases j <;> decide))
theorem shr_u16L (k : IntKind) (x n : Nat) (h : n ≤ 16) : binI .shr .u16 k (x : Int) (no_index (OfNat.ofNat n)) = some (.int .u16 ((x / 2 ^ n : Nat) : Int)) := shr_nat .u16 k x n h

/-! Code, one piece at a time. -/
def wpKC (P : Program) (nt : Nat) (c : Code) (Q : Ex → PT Value → St → Prop) (t : PT Value) (s : St) : Prop := wpC P nt c Q t s
theorem wpKC_eq (nt : Nat) (c : Code) (Q : Ex → PT Value → St → Prop) (t : PT Value) (s : St) : wpKC P nt c Q t s = wpC P nt c Q t s := of_eq_true (eq_self _)
theorem wpC_skip (nt : Nat) (Q : Ex → PT Value → St → Prop) (t : PT Value) (s : St) : wpC P nt .skip Q t s = Q .normal t s := of_eq_true (eq_self _)
theorem wpC_reg (nt : Nat) (Q : Ex → PT Value → St → Prop) (t : PT Value) (s : St) (id : Nat) (ops : Array Oper) : wpC P nt (.region id ops false) Q t s = wpL P ops (Q .normal) ops.toList t s := of_eq_true (eq_self _)
theorem wpC_draw (nt : Nat) (Q : Ex → PT Value → St → Prop) (t : PT Value) (s : St) (id : Nat) (ops : Array Oper) : wpC P nt (.region id ops true) Q t s = CodeT P nt (.region id ops true) Q t s := of_eq_true (eq_self _)
theorem wpC_seq (nt : Nat) (Q : Ex → PT Value → St → Prop) (t : PT Value) (s : St) (a b : Code) : wpC P nt (.seq a b) Q t s = wpC P nt a (seqQ (wpKC P nt b Q) Q) t s := of_eq_true (eq_self _)
theorem wpC_cond (nt : Nat) (Q : Ex → PT Value → St → Prop) (t : PT Value) (s : St) (c : Operand) (a b : Code) : wpC P nt (.cond c a b) Q t s = condP (ρof t c) (wpC P nt a Q t s) (wpC P nt b Q t s) := of_eq_true (eq_self _)
theorem wpC_block (nt : Nat) (Q : Ex → PT Value → St → Prop) (t : PT Value) (s : St) (id : Nat) (a : Code) : wpC P nt (.block id a) Q t s = wpC P nt a (blockQ id Q) t s := of_eq_true (eq_self _)
theorem wpC_loop (nt : Nat) (Q : Ex → PT Value → St → Prop) (t : PT Value) (s : St) (a : Code) : wpC P nt (.loop a) Q t s = CodeT P nt (.loop a) Q t s := of_eq_true (eq_self _)
theorem wpC_exit (nt : Nat) (Q : Ex → PT Value → St → Prop) (t : PT Value) (s : St) (i : Nat) : wpC P nt (.exit i) Q t s = Q (.exit i) t s := of_eq_true (eq_self _)
theorem wpC_ret (nt : Nat) (Q : Ex → PT Value → St → Prop) (t : PT Value) (s : St) : wpC P nt .ret Q t s = Q .ret t s := of_eq_true (eq_self _)
end Go.AE
