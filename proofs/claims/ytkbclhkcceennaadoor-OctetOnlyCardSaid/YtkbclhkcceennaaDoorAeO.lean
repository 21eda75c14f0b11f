import Derived.Test.YtkbclhkcceennaaDoorAeU
set_option linter.unusedVariables false
set_option linter.unusedSimpArgs false
/-! Objects: one block that methods write. -/
namespace Go.AE
open Go Go.RowKit
variable {P : Program}

theorem without_up {s : St} (hw : Wf s) (id : Nat) : Grows (s.without id) s := by
  refine ⟨fun j x hx => ?_, fun _ _ h => h, rfl, ⟨0, by simp [St.without]⟩, hw⟩
  rw [without_get] at hx
  split at hx
  · cases hx
  · exact hx
/-- All but the block is kept. -/
def Upd (id : Nat) (s s' : St) : Prop := Grows (s.without id) (s'.without id)
theorem Upd.refl {s : St} (hw : Wf s) (id : Nat) : Upd id s s := Grows.refl (without_wf id hw)
theorem Upd.trans {id : Nat} {a b c : St} (h : Upd id a b) (k : Upd id b c) : Upd id a c := Grows.trans h k
/-- The object's cells. -/
def ObjAt (s : St) (id : Nat) (vs : List Value) : Prop := ∃ b, s.h.get id = some b ∧ b.ro = false ∧ b.n = vs.length ∧ ∀ i v, vs[i]? = some v → b.cell i = some v
theorem ObjAt.load {s : St} {id : Nat} {vs : List Value} (h : ObjAt s id vs) {i : Nat} {v : Value} (hi : vs[i]? = some v) : s.load ⟨id, i, none⟩ = some v := by
  obtain ⟨b, h1, _, _, h4⟩ := h
  unfold St.load
  rw [h1]; exact h4 i v hi
theorem ObjAt.store {ty : TypeId} (hs : sizeT P ty = some 1) {s : St} (hw : Wf s) {id : Nat} {vs : List Value} (h : ObjAt s id vs) {i : Nat} (hi : i < vs.length) {v : Value} (h1 : oneCell v = true) (h2 : v.cells.toList = [v]) :
    ∃ s', eStore P ty (.pointer (some ⟨id, i, none⟩)) v s = some (undef, s') ∧ Wf s' ∧ Upd id s s' ∧ ObjAt s' id (vs.set i v) := by
  obtain ⟨b, hb, hro, hn, hc⟩ := h
  have hst : s.stores ⟨id, i, none⟩ [v] = some { s with h := s.h.set id (some { b with t := setCells b.t i [v] }) } := by
    unfold St.stores
    simp only [hb, Option.bind_some]
    have hle : Nat.ble (i + 1) b.n = true := by rw [hn]; simpa [Nat.ble_eq] using Nat.succ_le_of_lt hi
    simp [ck, hro, hle, h1]
  have hcell : ∀ j, Blk.cell { b with t := setCells b.t i [v] } j = if j = i then some v else b.cell j := by
    intro j
    unfold Blk.cell
    show (match Nat.blt j b.n with
      | false => none
      | true => match (b.t.set i (some v)).get j with
        | some v => some v
        | none => b.z[Nat.mod j b.z.length]?) = _
    rw [PT.get_set]
    by_cases e : j = i
    · subst e
      rw [if_pos rfl, if_pos rfl, show Nat.blt j b.n = true from by rw [hn]; simpa [Nat.blt_eq] using hi]
    · rw [if_neg e, if_neg e]
      cases Nat.blt j b.n with
      | false => rfl
      | true => cases b.t.get j <;> rfl
  refine ⟨{ s with h := s.h.set id (some { b with t := setCells b.t i [v] }) }, ?_, hw.set hb _, ?_, ⟨{ b with t := setCells b.t i [v] }, ?_, hro, by simp [hn], ?_⟩⟩
  · unfold eStore asPtr
    simp only [Option.bind_some, hs, h2]
    show ((ck (Nat.beq 1 1)).bind fun _ => (s.stores ⟨id, i, none⟩ [v]).bind fun s' => some (undef, s')) = _
    rw [hst]; rfl
  · refine ⟨fun j x hx => ?_, fun _ _ h => h, rfl, ⟨0, by simp [St.without]⟩, without_wf id (hw.set hb _)⟩
    rw [without_get] at hx ⊢
    split at hx
    · cases hx
    · rename_i hj
      rw [if_neg hj]
      show (s.h.set id _).get j = _
      rw [PT.get_set, if_neg hj]; exact hx
  · show (s.h.set id _).get id = _
    rw [PT.get_set, if_pos rfl]
  · intro j x hx
    rw [hcell]
    rw [List.getElem?_set] at hx
    by_cases e : i = j
    · subst e; simp [hi] at hx; simp [hx]
    · rw [if_neg e] at hx
      rw [if_neg (fun x => e x.symm)]; exact hc j x hx
theorem eSliceV_up {ty : TypeId} {lo hi mx : Option Value} {a : Option Addr} {n c : Nat} {sb s : St} {v' : Value} (g : Grows sb s) (h : eSliceV P ty (.slice a n c) lo hi mx sb = some (v', sb)) : eSliceV P ty (.slice a n c) lo hi mx s = some (v', s) := by
  simp only [eSliceV, eSlice] at h ⊢
  obtain ⟨d, h1, h⟩ := Option.bind_eq_some_iff.1 h
  obtain ⟨e, h2, h⟩ := Option.bind_eq_some_iff.1 h
  obtain ⟨sz, h3, h⟩ := Option.bind_eq_some_iff.1 h
  obtain ⟨u, h4, h⟩ := Option.bind_eq_some_iff.1 h
  obtain ⟨m, h5, h⟩ := Option.bind_eq_some_iff.1 h
  obtain ⟨hh, h6, h⟩ := Option.bind_eq_some_iff.1 h
  obtain ⟨l, h7, h⟩ := Option.bind_eq_some_iff.1 h
  obtain ⟨u2, h8, h⟩ := Option.bind_eq_some_iff.1 h
  simp only [h1, h2, h3, h4, h5, h6, h7, h8, Option.bind_some]
  cases a with
  | none =>
    simp only [Option.some.injEq, Prod.mk.injEq] at h ⊢
    exact ⟨h.1, trivial⟩
  | some a =>
    simp only at h ⊢
    obtain ⟨b, hb, h⟩ := Option.bind_eq_some_iff.1 h
    rw [g.keep _ _ hb]
    simp only [Option.bind_some]
    cases hx : b.exact with
    | true =>
      rw [hx] at h
      simp only [Option.some.injEq, Prod.mk.injEq] at h ⊢
      exact ⟨h.1, trivial⟩
    | false =>
      rw [hx] at h
      obtain ⟨u3, h9, h⟩ := Option.bind_eq_some_iff.1 h
      simp only [h9, Option.bind_some, Option.some.injEq, Prod.mk.injEq] at h ⊢
      exact ⟨h.1, trivial⟩
end Go.AE
