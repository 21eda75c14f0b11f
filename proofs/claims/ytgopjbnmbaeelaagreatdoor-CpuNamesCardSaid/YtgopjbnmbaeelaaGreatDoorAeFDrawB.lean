import Derived.Test.YtgopjbnmbaeelaaGreatDoorAeFDrawA
set_option linter.unusedVariables false
set_option linter.unusedSimpArgs false
namespace Go.AE.F
open Go Go.AE
variable {P : Program}

/-- The loud ones are numbered as they stand, from 'k0' on. -/
def NumF (k0 : Nat) (rs : List Rec) : Prop := ∀ (k : Nat) (r : Rec), (rs.filter (·.lw))[k]? = some r → r.j = k0 + k
theorem Num.f {rs : List Rec} (h : Num rs) : NumF 0 rs := fun k r hk => by rw [h k r hk]; omega
theorem NumF.tail {k0 : Nat} {r : Rec} {rs : List Rec} (h : NumF k0 (r :: rs)) (hr : r.lw = true) : r.j = k0 ∧ NumF (k0 + 1) rs := by
  refine ⟨by have := h 0 r (by simp [List.filter_cons, hr]); omega, fun k q hq => ?_⟩
  have := h (k + 1) q (by simpa [List.filter_cons, hr] using hq)
  omega
theorem NumF.skip {k0 : Nat} {r : Rec} {rs : List Rec} (h : NumF k0 (r :: rs)) (hr : r.lw = false) : NumF k0 rs := fun k q hq => h k q (by simpa [List.filter_cons, hr] using hq)
theorem Lof_cons {r : Rec} {rs : List Rec} (hr : r.lw = true) : Lof (r :: rs) = (r.i, r.h, r.hm) :: Lof rs := by simp [Lof, List.filterMap_cons, hr]
theorem Lof_skip {r : Rec} {rs : List Rec} (hr : r.lw = false) : Lof (r :: rs) = Lof rs := by simp [Lof, List.filterMap_cons, hr]

theorem heapAt_zero (s : St) : ∀ (rs : List Rec), heapAt s rs 0 = (s.h, s.hm)
  | [] => rfl
  | r :: rs => by
    unfold heapAt
    have : Nat.beq (r.j + 1) 0 = false := rfl
    rw [this, Bool.and_false]
    exact heapAt_zero s rs
theorem heapAt_succ (s : St) (m : Nat) : ∀ (rs : List Rec) (k0 : Nat), NumF k0 rs → heapAt s rs (m + 1) = if m < k0 then (s.h, s.hm) else (match (Lof rs)[m - k0]? with | some c => c.2 | none => (s.h, s.hm))
  | [], k0, h => by simp [heapAt, Lof]
  | r :: rs, k0, h => by
    unfold heapAt
    cases hr : r.lw with
    | false =>
      rw [Lof_skip hr]
      exact heapAt_succ s m rs k0 (h.skip hr)
    | true =>
      obtain ⟨hj, ht⟩ := h.tail hr
      rw [Lof_cons hr, heapAt_succ s m rs (k0 + 1) ht, hj]
      by_cases e : k0 = m
      · subst e
        have : Nat.beq (k0 + 1) (k0 + 1) = true := by simp
        simp
      · have : Nat.beq (k0 + 1) (m + 1) = false := by
          cases hb : Nat.beq (k0 + 1) (m + 1) with
          | false => rfl
          | true => exact absurd (by have := Nat.eq_of_beq_eq_true hb; omega) e
        rw [this]
        simp only [Bool.and_false, cond_false]
        by_cases h1 : m < k0
        · rw [if_pos (by omega), if_pos h1]
        · rw [if_neg (by omega), if_neg h1]
          obtain ⟨d, rfl⟩ : ∃ d, m = k0 + 1 + d := ⟨m - (k0 + 1), by omega⟩
          have e1 : k0 + 1 + d - (k0 + 1) = d := by omega
          have e2 : k0 + 1 + d - k0 = d + 1 := by omega
          rw [e1, e2, List.getElem?_cons_succ]
theorem heapAt_eq (s : St) {rs : List Rec} (h : Num rs) : ∀ (j : Nat), heapAt s rs j = atL s (Lof rs) j
  | 0 => heapAt_zero s rs
  | m + 1 => by
    rw [heapAt_succ s m rs 0 h.f, if_neg (by omega)]
    rfl
theorem insdF_eq (ops : Array Oper) (j f : Nat) : ∀ (rs : List Rec) (k0 : Nat), NumF k0 rs → insd ops rs j f = ((Lof rs).take (j - k0)).any fun c => anc ops c.1 f
  | [], k0, h => by simp [insd, Lof]
  | r :: rs, k0, h => by
    have hc : insd ops (r :: rs) j f = ((r.lw && Nat.blt r.j j && anc ops r.i f) || insd ops rs j f) := rfl
    rw [hc]
    cases hr : r.lw with
    | false => rw [Lof_skip hr, insdF_eq ops j f rs k0 (h.skip hr)]; rfl
    | true =>
      obtain ⟨hj, ht⟩ := h.tail hr
      rw [Lof_cons hr, insdF_eq ops j f rs (k0 + 1) ht, hj]
      by_cases e : k0 < j
      · obtain ⟨d, rfl⟩ : ∃ d, j = k0 + 1 + d := ⟨j - (k0 + 1), by omega⟩
        have e1 : k0 + 1 + d - (k0 + 1) = d := by omega
        have e2 : k0 + 1 + d - k0 = d + 1 := by omega
        have e3 : Nat.blt k0 (k0 + 1 + d) = true := by rw [Nat.blt_eq]; omega
        rw [e1, e2, e3]
        simp
      · have e1 : j - (k0 + 1) = 0 := by omega
        have e2 : j - k0 = 0 := by omega
        have e3 : Nat.blt k0 j = false := by
          cases hb : Nat.blt k0 j with
          | false => rfl
          | true => exact absurd ((Nat.blt_eq).mp hb) e
        rw [e1, e2, e3]
        simp
theorem insd_eq (ops : Array Oper) {rs : List Rec} (h : Num rs) (j f : Nat) : insd ops rs j f = anyL (fun c => anc ops c f) ((Lof rs).take j) := by
  rw [insdF_eq ops j f rs 0 h.f, anyL_eq]; rfl
theorem mayF_eq (ops : Array Oper) (i j : Nat) : ∀ (rs : List Rec) (k0 : Nat), NumF k0 rs → mayAt ops rs i j = mayL ops i j (Lof rs) k0
  | [], k0, h => rfl
  | r :: rs, k0, h => by
    have hc : mayAt ops (r :: rs) i j = ((!r.lw || ((!anc ops i r.i || Nat.blt r.j j) && (!anc ops r.i i || Nat.ble j r.j))) && mayAt ops rs i j) := rfl
    rw [hc]
    cases hr : r.lw with
    | false => rw [Lof_skip hr, mayF_eq ops i j rs k0 (h.skip hr)]; simp
    | true =>
      obtain ⟨hj, ht⟩ := h.tail hr
      rw [Lof_cons hr, mayF_eq ops i j rs (k0 + 1) ht, hj]
      show _ = andB (andB (Bool.rec (motive := fun _ => Bool) true (Nat.blt k0 j) (anc ops i r.i)) (Bool.rec (motive := fun _ => Bool) true (Nat.ble j k0) (anc ops r.i i))) (mayL ops i j (Lof rs) (k0 + 1))
      rw [andB_eq, andB_eq]
      cases anc ops i r.i <;> cases anc ops r.i i <;> simp
theorem may_eq (ops : Array Oper) {rs : List Rec} (h : Num rs) (i j : Nat) : mayAt ops rs i j = mayL ops i j (Lof rs) 0 := mayF_eq ops i j rs 0 h.f

theorem putNow_eq (ops : Array Oper) (mask : Nat → Bool) {rs : List Rec} (h : Num rs) (j i : Nat) : putNow ops mask ((Lof rs).take j) i = (mask i && !insd ops rs j i) := by
  unfold putNow
  rw [andB_eq, notB_eq, insd_eq ops h]
theorem putAll_eq (ops : Array Oper) (mask : Nat → Bool) {rs : List Rec} (h : Num rs) (i : Nat) : putNow ops mask (Lof rs) i = (mask i && !insd ops rs (nLoud rs) i) := by
  have := putNow_eq ops mask h (nLoud rs) i
  rw [← Lof_length, List.take_length, Lof_length] at this
  exact this
theorem viewAt_eq (s : St) (ops : Array Oper) (mask : Nat → Bool) {rs : List Rec} (h : Num rs) (j : Nat) (K : PT Blk → A) :
    viewM s (putNow ops mask ((Lof rs).take j)) (Mof rs) (atL s (Lof rs) j).1 K = K (view s ops rs mask j) := by
  rw [viewM_eq s _ K rs (insd ops rs j) mask _ (putNow_eq ops mask h j), ← heapAt_eq s h]; rfl
theorem viewNow_eq (s : St) (ops : Array Oper) (mask : Nat → Bool) {rs : List Rec} (h : Num rs) (K : PT Blk → A) :
    viewM s (putNow ops mask (Lof rs)) (Mof rs) (heapAt s rs (nLoud rs)).1 K = K (view s ops rs mask (nLoud rs)) := by
  rw [viewM_eq s _ K rs (insd ops rs (nLoud rs)) mask _ (putAll_eq ops mask h)]; rfl
end Go.AE.F
