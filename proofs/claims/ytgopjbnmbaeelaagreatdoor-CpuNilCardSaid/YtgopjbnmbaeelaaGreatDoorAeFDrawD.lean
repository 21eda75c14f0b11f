import Derived.Test.YtgopjbnmbaeelaaGreatDoorAeFDrawC
set_option linter.unusedVariables false
set_option linter.unusedSimpArgs false
namespace Go.AE.F
open Go Go.AE
variable {P : Program}

def maxE (s : St) (rs : List Rec) : Nat := rs.foldl (fun a r => Nat.max a r.e) s.nx
/-- What is carried, from the records. -/
def dyOf (s : St) (rs : List Rec) : Dy := ⟨Lof rs, Mof rs, Rof rs, maxE s rs, (heapAt s rs (nLoud rs)).1, (heapAt s rs (nLoud rs)).2, nLoud rs⟩

theorem maxE_snoc (s : St) (rs : List Rec) (r : Rec) : maxE s (rs ++ [r]) = Nat.max (maxE s rs) r.e := by simp [maxE]
theorem Lof_snoc (rs : List Rec) (r : Rec) : Lof (rs ++ [r]) = Lof rs ++ (if r.lw then [(r.i, r.h, r.hm)] else []) := by
  simp only [Lof, List.filterMap_append, List.filterMap_cons, List.filterMap_nil]
  cases r.lw <;> rfl
theorem Mof_snoc (rs : List Rec) (r : Rec) : Mof (rs ++ [r]) = Mof rs ++ (match r.b with | some b => [(r.i, b)] | none => []) := by
  simp only [Mof, List.filterMap_append, List.filterMap_cons, List.filterMap_nil]
  cases r.b <;> rfl
theorem Rof_snoc (rs : List Rec) (r : Rec) : Rof (rs ++ [r]) = Rof rs ++ (if r.w && r.rd && !r.ld then [rdOf r] else []) := by
  simp only [Rof, List.filterMap_append, List.filterMap_cons, List.filterMap_nil]
  cases r.w && r.rd && !r.ld <;> rfl
theorem nLoud_snoc (rs : List Rec) (r : Rec) : nLoud (rs ++ [r]) = nLoud rs + (if r.lw then 1 else 0) := by
  simp only [nLoud, List.filter_append, List.length_append, List.filter_cons, List.filter_nil]
  cases r.lw <;> rfl
theorem Num_snoc {rs : List Rec} (h : Num rs) {r : Rec} (hr : r.j = nLoud rs) : Num (rs ++ [r]) := by
  intro k q hq
  rw [List.filter_append] at hq
  rcases Nat.lt_or_ge k (rs.filter (·.lw)).length with hk | hk
  · rw [List.getElem?_append_left hk] at hq
    exact h k q hq
  · rw [List.getElem?_append_right hk] at hq
    cases hl : r.lw with
    | false => simp [List.filter_cons, hl] at hq
    | true =>
      simp only [List.filter_cons, hl, if_true, List.filter_nil] at hq
      cases hd : k - (rs.filter (·.lw)).length with
      | zero =>
        rw [hd] at hq
        cases hq
        rw [hr]; unfold nLoud; omega
      | succ d => rw [hd] at hq; simp at hq
theorem atL_snoc (s : St) {rs : List Rec} (h : Num rs) {r : Rec} (hr : r.j = nLoud rs) (hl : r.lw = true) : heapAt s (rs ++ [r]) (nLoud rs + 1) = (r.h, r.hm) := by
  rw [heapAt_eq s (Num_snoc h hr), Lof_snoc, hl]
  show (match (Lof rs ++ [(r.i, r.h, r.hm)])[nLoud rs]? with | some c => c.2 | none => (s.h, s.hm)) = _
  rw [← Lof_length, List.getElem?_append_right (Nat.le_refl _)]
  simp
theorem atL_quiet (s : St) {rs : List Rec} (h : Num rs) {r : Rec} (hr : r.j = nLoud rs) (hl : r.lw = false) (j : Nat) : heapAt s (rs ++ [r]) j = heapAt s rs j := by
  rw [heapAt_eq s (Num_snoc h hr), heapAt_eq s h, Lof_snoc, hl]
  simp
/-- A record of a loud one, of one that is not. -/
theorem dyOf_loud (s : St) {rs : List Rec} (h : Num rs) {r : Rec} (hr : r.j = nLoud rs) (hl : r.lw = true) (hb : r.b = none) (hld : r.ld = true) :
    dyOf s (rs ++ [r]) = ⟨Lof rs ++ [(r.i, r.h, r.hm)], Mof rs, Rof rs, Nat.max (maxE s rs) r.e, r.h, r.hm, nLoud rs + 1⟩ := by
  unfold dyOf
  have e : nLoud (rs ++ [r]) = nLoud rs + 1 := by rw [nLoud_snoc, hl]; rfl
  rw [e, atL_snoc s h hr hl, Lof_snoc, Mof_snoc, Rof_snoc, maxE_snoc, hl, hb, hld]
  simp
theorem dyOf_quiet (s : St) {rs : List Rec} (h : Num rs) {r : Rec} (hr : r.j = nLoud rs) (hl : r.lw = false) :
    dyOf s (rs ++ [r]) = ⟨Lof rs, Mof (rs ++ [r]), Rof (rs ++ [r]), Nat.max (maxE s rs) r.e, (heapAt s rs (nLoud rs)).1, (heapAt s rs (nLoud rs)).2, nLoud rs⟩ := by
  unfold dyOf
  have e : nLoud (rs ++ [r]) = nLoud rs := by rw [nLoud_snoc, hl]; rfl
  rw [e, atL_quiet s h hr hl, Lof_snoc, maxE_snoc, hl]
  simp
end Go.AE.F
