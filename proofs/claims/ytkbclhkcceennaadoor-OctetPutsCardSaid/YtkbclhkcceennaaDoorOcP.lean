set_option linter.unusedVariables false
set_option linter.unusedSimpArgs false
/-! The sum, as plain numbers: a table's step is four steps of one bit; a step is linear, and loses nothing. -/
namespace Go.Proofs.YtkbclhkcceennaaDoor.oc

def tab : List Nat := [0, 4129, 8258, 12387, 16516, 20645, 24774, 28903, 33032, 37161, 41290, 45419, 49548, 53677, 57806, 61935]
def half (x : Nat) : Nat := (x * 2 ^ 4 % 65536) ^^^ tab.getD (x / 2 ^ 12) 0
def stepT (x : Nat) (c : UInt8) : Nat := half (half (x ^^^ (c.toNat * 2 ^ 8 % 65536)))
def sumT (x : Nat) (l : List UInt8) : Nat := l.foldl stepT x
theorem tab_lt (i : Nat) : tab.getD i 0 < 65536 := by
  by_cases h : i < 16
  · have : ∀ j : Fin 16, tab.getD j 0 < 65536 := by decide
    exact this ⟨i, h⟩
  · unfold tab; rw [List.getD_eq_getElem?_getD, List.getElem?_eq_none (by simp; omega)]; decide
theorem half_lt (x : Nat) : half x < 65536 := Nat.xor_lt_two_pow (n := 16) (Nat.mod_lt _ (by decide)) (tab_lt _)
theorem stepT_lt (x : Nat) (c : UInt8) : stepT x c < 65536 := half_lt _
theorem sumT_lt : ∀ (l : List UInt8) {x : Nat}, x < 65536 → sumT x l < 65536
  | [], _, h => h
  | c :: r, x, _ => sumT_lt r (stepT_lt x c)
theorem sumT_append (x : Nat) (a b : List UInt8) : sumT x (a ++ b) = sumT (sumT x a) b := by unfold sumT; rw [List.foldl_append]


/-- One bit's step. -/
def bitS (x : Nat) : Nat := (x * 2 % 65536) ^^^ (if x.testBit 15 then 4129 else 0)
theorem bitS_lt (x : Nat) : bitS x < 65536 := Nat.xor_lt_two_pow (n := 16) (Nat.mod_lt _ (by decide)) (by split <;> decide)
theorem testBit_poly (b : Bool) (i : Nat) : (if b then 4129 else 0 : Nat).testBit i = (b && (4129 : Nat).testBit i) := by
  cases b <;> simp
theorem testBit_dbl (x i : Nat) : (x * 2 % 65536).testBit i = (decide (i < 16) && (decide (1 ≤ i) && x.testBit (i - 1))) := by
  rw [show (65536 : Nat) = 2 ^ 16 from rfl, Nat.testBit_mod_two_pow, show x * 2 = x * 2 ^ 1 from rfl, Nat.testBit_mul_two_pow]
theorem bitS_xor (x y : Nat) : bitS (x ^^^ y) = bitS x ^^^ bitS y := by
  apply Nat.eq_of_testBit_eq
  intro i
  simp only [bitS, Nat.testBit_xor, testBit_poly, testBit_dbl]
  generalize decide (i < 16) = a
  generalize decide (1 ≤ i) = b
  generalize x.testBit (i - 1) = c
  generalize y.testBit (i - 1) = d
  generalize x.testBit 15 = e
  generalize y.testBit 15 = f
  generalize Nat.testBit 4129 i = g
  revert a b c d e f g
  decide
theorem bitS_zero : bitS 0 = 0 := by decide
/-- A step loses nothing. -/
theorem bitS_ne {x : Nat} (hx : x < 65536) (h : bitS x = 0) : x = 0 := by
  have h0 : (bitS x).testBit 0 = false := by rw [h]; rfl
  simp only [bitS, Nat.testBit_xor, testBit_poly, testBit_dbl] at h0
  have h15 : x.testBit 15 = false := by simpa using h0
  unfold bitS at h
  rw [h15] at h
  have hlt : x < 32768 := by
    apply Classical.byContradiction
    intro hn
    have : x.testBit 15 = true := by rw [Nat.testBit, Nat.shiftRight_eq_div_pow, show x / 2 ^ 15 = 1 from by omega]; rfl
    rw [this] at h15; cases h15
  simp at h
  omega
theorem bitS_lo {x : Nat} (h : x < 32768) : bitS x = x * 2 := by
  have h15 : x.testBit 15 = false := Nat.testBit_lt_two_pow h
  unfold bitS
  rw [h15]
  simp
  omega
def bitN : Nat → Nat → Nat
  | 0, x => x
  | n + 1, x => bitN n (bitS x)
theorem bitN_lt : ∀ (n : Nat) {x : Nat}, x < 65536 → bitN n x < 65536
  | 0, _, h => h
  | n + 1, x, h => bitN_lt n (bitS_lt x)
theorem bitN_xor : ∀ (n x y : Nat), bitN n (x ^^^ y) = bitN n x ^^^ bitN n y
  | 0, _, _ => rfl
  | n + 1, x, y => by rw [bitN, bitS_xor, bitN_xor n]; rfl
theorem bitN_add : ∀ (n m x : Nat), bitN (n + m) x = bitN m (bitN n x)
  | 0, m, x => by rw [Nat.zero_add]; rfl
  | n + 1, m, x => by rw [Nat.add_right_comm, bitN, bitN_add n m]; rfl
theorem bitN_zero : ∀ (n : Nat), bitN n 0 = 0
  | 0 => rfl
  | n + 1 => by rw [bitN, bitS_zero, bitN_zero n]
theorem bitN_ne : ∀ (n : Nat) {x : Nat}, x < 65536 → bitN n x = 0 → x = 0
  | 0, _, _, h => h
  | n + 1, x, hx, h => bitS_ne hx (bitN_ne n (bitS_lt x) h)
theorem half_bits {x : Nat} (hx : x < 65536) : bitN 4 x = half x := by
  have hsplit : x = (x / 2 ^ 12 * 2 ^ 12) ^^^ (x % 2 ^ 12) := by
    apply Nat.eq_of_testBit_eq
    intro i
    rw [Nat.testBit_xor, Nat.testBit_mul_two_pow, Nat.testBit_mod_two_pow, Nat.testBit_div_two_pow]
    by_cases h : i < 12
    · simp [h, Nat.not_le.mpr h]
    · have h' : 12 ≤ i := by omega
      simp [h, h']
  have hlo : x % 2 ^ 12 < 4096 := Nat.mod_lt _ (by decide)
  have h1 : bitN 4 (x % 2 ^ 12) = x * 2 ^ 4 % 65536 := by
    simp only [bitN]
    rw [bitS_lo (x := x % 2 ^ 12) (by omega), bitS_lo (x := x % 2 ^ 12 * 2) (by omega), bitS_lo (x := x % 2 ^ 12 * 2 * 2) (by omega), bitS_lo (x := x % 2 ^ 12 * 2 * 2 * 2) (by omega)]
    omega
  have h2 : ∀ a : Fin 16, bitN 4 (a.1 * 2 ^ 12) = tab.getD a.1 0 := by decide
  have h3 := h2 ⟨x / 2 ^ 12, by omega⟩
  conv => lhs; rw [hsplit]
  rw [bitN_xor, h1, h3, half, Nat.xor_comm]
theorem stepT_bits {x : Nat} (hx : x < 65536) (c : UInt8) : stepT x c = bitN 8 (x ^^^ (c.toNat * 2 ^ 8 % 65536)) := by
  have h := Nat.xor_lt_two_pow (n := 16) hx (Nat.mod_lt (c.toNat * 2 ^ 8) (show 65536 > 0 by decide))
  rw [show 8 = 4 + 4 from rfl, bitN_add, half_bits h, half_bits (half_lt _)]; rfl

/-- A row's sum, as the sum begins with another number. -/
theorem sumT_xor : ∀ (l : List UInt8) {x d : Nat}, x < 65536 → d < 65536 → sumT (x ^^^ d) l = sumT x l ^^^ bitN (8 * l.length) d
  | [], x, d, _, _ => rfl
  | c :: r, x, d, hx, hd => by
    have hxd := Nat.xor_lt_two_pow (n := 16) hx hd
    show sumT (stepT (x ^^^ d) c) r = sumT (stepT x c) r ^^^ bitN (8 * (r.length + 1)) d
    rw [stepT_bits hxd, show x ^^^ d ^^^ (c.toNat * 2 ^ 8 % 65536) = (x ^^^ (c.toNat * 2 ^ 8 % 65536)) ^^^ d from by rw [Nat.xor_assoc, Nat.xor_comm d, ← Nat.xor_assoc], bitN_xor, ← stepT_bits hx, sumT_xor r (stepT_lt _ _) (bitN_lt _ hd), show 8 * (r.length + 1) = 8 + 8 * r.length from by omega, bitN_add]
theorem shl8_xor (c d : UInt8) : (c ^^^ d).toNat * 2 ^ 8 % 65536 = (c.toNat * 2 ^ 8 % 65536) ^^^ (d.toNat * 2 ^ 8 % 65536) := by
  rw [UInt8.toNat_xor]
  apply Nat.eq_of_testBit_eq
  intro i
  rw [show (65536 : Nat) = 2 ^ 16 from rfl]
  simp only [Nat.testBit_xor, Nat.testBit_mod_two_pow, Nat.testBit_mul_two_pow]
  generalize decide (i < 16) = a
  generalize decide (8 ≤ i) = b
  generalize c.toNat.testBit (i - 8) = e
  generalize d.toNat.testBit (i - 8) = f
  revert a b e f
  decide
/-- One bit of a row is turned: its place's bit goes on through what is left. -/
theorem sumT_set : ∀ (l : List UInt8) (k : Nat) (c e : UInt8) {x : Nat}, x < 65536 → l[k]? = some c → sumT x (l.set k (c ^^^ e)) = sumT x l ^^^ bitN (8 * (l.length - k)) (e.toNat * 2 ^ 8 % 65536)
  | [], k, c, e, x, _, h => by cases h
  | c' :: r, 0, c, e, x, hx, h => by
    obtain rfl : c' = c := by simpa using h
    show sumT (stepT x (c' ^^^ e)) r = sumT (stepT x c') r ^^^ bitN (8 * (r.length + 1)) _
    have he : e.toNat * 2 ^ 8 % 65536 < 65536 := Nat.mod_lt _ (by decide)
    rw [stepT_bits hx, shl8_xor, ← Nat.xor_assoc, bitN_xor, ← stepT_bits hx, sumT_xor r (stepT_lt _ _) (bitN_lt _ he), show 8 * (r.length + 1) = 8 + 8 * r.length from by omega, bitN_add]
  | c' :: r, k + 1, c, e, x, hx, h => by
    show sumT (stepT x c') (r.set k (c ^^^ e)) = sumT (stepT x c') r ^^^ bitN (8 * (r.length + 1 - (k + 1))) _
    rw [sumT_set r k c e (stepT_lt _ _) (by simpa using h), Nat.add_sub_add_right]
theorem bitN_top : ∀ j : Fin 16, bitN j.1 (32768 / 2 ^ j.1) = 32768 := by decide
/-- The bits of a pattern, the first topmost. -/
def pat (w : Nat) : Nat → Nat
  | 0 => 0
  | i + 1 => pat w i ^^^ (if w / 2 ^ i % 2 = 1 then 32768 / 2 ^ i else 0)
theorem pat_lt (w : Nat) : ∀ (i : Nat), pat w i < 65536
  | 0 => by show 0 < 65536; decide
  | i + 1 => Nat.xor_lt_two_pow (n := 16) (pat_lt w i) (by
    split
    · exact Nat.lt_of_le_of_lt (Nat.div_le_self _ _) (by decide)
    · decide)
/-- One more bit at its place. -/
theorem bit_place {n p i k j : Nat} (h : p + i = 8 * k + j) (hi : i < 16) (hj : j < 8) (hk : k < n) (hp : p + 16 ≤ 8 * n) : bitN (8 * (n - k)) (32768 / 2 ^ j) = bitN (8 * n - p) (32768 / 2 ^ i) := by
  have h1 := bitN_top ⟨i, hi⟩
  have h2 := bitN_top ⟨j, by omega⟩
  rw [show 8 * (n - k) = j + (8 * (n - k) - j) from by omega, bitN_add, h2, show 8 * n - p = i + (8 * n - p - i) from by omega, bitN_add, h1]
  congr 1
  omega
theorem e_top : ∀ j : Fin 8, (UInt8.ofNat (128 / 2 ^ j.1)).toNat * 2 ^ 8 % 65536 = 32768 / 2 ^ j.1 := by decide
/-- A pattern that is not nothing leaves a mark. -/
theorem pat_bit (w : Nat) : ∀ (n i : Nat), i < 16 → n ≤ 16 → (pat w n).testBit (15 - i) = (decide (i < n) && decide (w / 2 ^ i % 2 = 1))
  | 0, i, _, _ => by simp [pat]
  | n + 1, i, hi, hn => by
    rw [pat, Nat.testBit_xor, pat_bit w n i hi (by omega)]
    have h2 : (if w / 2 ^ n % 2 = 1 then 32768 / 2 ^ n else 0 : Nat).testBit (15 - i) = (decide (i = n) && decide (w / 2 ^ n % 2 = 1)) := by
      have h3 : ∀ (a b : Fin 16), (32768 / 2 ^ a.1 : Nat).testBit (15 - b.1) = decide (b.1 = a.1) := by decide
      split
      · rename_i h; rw [h3 ⟨n, by omega⟩ ⟨i, hi⟩]; simp [h]
      · rename_i h; simp [h]
    rw [h2]
    by_cases h : i = n
    · subst h; simp
    · by_cases h4 : i < n
      · simp [h, h4, show i < n + 1 from by omega]
      · simp [h, h4, show ¬ i < n + 1 from by omega]
theorem pat_ne {w : Nat} (hw : w < 65536) (h : pat w 16 = 0) : w = 0 := by
  apply Nat.eq_of_testBit_eq
  intro i
  rw [Nat.zero_testBit]
  by_cases hi : i < 16
  · have := pat_bit w 16 i hi (Nat.le_refl _)
    rw [h, Nat.zero_testBit] at this
    simp [hi] at this
    rw [Nat.testBit, Nat.shiftRight_eq_div_pow]
    simp
    omega
  · exact Nat.testBit_lt_two_pow (Nat.lt_of_lt_of_le (show w < 2 ^ 16 from hw) (Nat.pow_le_pow_right (by decide) (Nat.not_lt.mp hi)))
end Go.Proofs.YtkbclhkcceennaaDoor.oc
