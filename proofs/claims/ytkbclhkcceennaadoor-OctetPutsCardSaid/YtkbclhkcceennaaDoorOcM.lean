import Derived.KernelRfl
set_option linter.unusedVariables false
/-! Plain words: a number's bytes. -/
namespace Go.Proofs.YtkbclhkcceennaaDoor.oc

def le (x : Nat) : List UInt8 := if h : x = 0 then [] else UInt8.ofNat (x % 256) :: le (x / 256)
termination_by x
decreasing_by exact Nat.div_lt_self (Nat.pos_of_ne_zero h) (by decide)
theorem le_zero : le 0 = [] := by rw [le]; rfl
theorem le_pos {x : Nat} (h : 0 < x) : le x = UInt8.ofNat (x % 256) :: le (x / 256) := by rw [le, dif_neg (by omega)]
def enc (x : Nat) : List UInt8 := if x ≤ 247 then [UInt8.ofNat x] else UInt8.ofNat (247 + (le x).length) :: le x

theorem le_len : ∀ (n x : Nat), x < 256 ^ n → (le x).length ≤ n
  | 0, x, h => by
    have : x = 0 := by simpa using h
    subst this; rw [le_zero]; exact Nat.le_refl 0
  | n + 1, x, h => by
    rcases Nat.eq_zero_or_pos x with rfl | hp
    · rw [le_zero]; simp
    · rw [le_pos hp]
      have := le_len n (x / 256) (by rw [Nat.div_lt_iff_lt_mul (by decide)]; rwa [Nat.pow_succ] at h)
      simpa using this
theorem le_len8 {x : Nat} (h : x < 18446744073709551616) : (le x).length ≤ 8 := le_len 8 x (by simpa using h)
end Go.Proofs.YtkbclhkcceennaaDoor.oc
