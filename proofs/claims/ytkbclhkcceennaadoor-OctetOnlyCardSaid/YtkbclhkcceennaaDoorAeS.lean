import Derived.Test.YtkbclhkcceennaaDoorAeL
set_option linter.unusedVariables false
set_option linter.unusedSimpArgs false
/-! Slices of slices of bytes; rows of slices. -/
namespace Go.AE
open Go Go.RowKit
variable {P : Program}

/-- It may be sliced: of its block it is known where it ends, or how long one cell is. -/
def Cut (s : St) (v : Value) : Prop := ∀ a n c, v = .slice (some a) n c → ∃ b, s.h.get a.block = some b ∧ (b.exact = true ∨ b.esz = 1)
theorem Cut.grows {s s' : St} {v : Value} (h : Cut s v) (g : Grows s s') : Cut s' v := fun a n c e => let ⟨b, h1, h2⟩ := h a n c e; ⟨b, g.keep _ _ h1, h2⟩

theorem add_zero (a : Addr) : a.add 0 = a := by rw [Addr.add]; simp
theorem loads_part {s : St} {a : Addr} {n : Nat} {vs : List Value} (h : s.loads a n = some vs) (hs : a.spot = none) {i k : Nat} (hik : i + k ≤ n) : s.loads (a.add i) k = some ((vs.drop i).take k) := by
  unfold St.loads at h ⊢
  obtain ⟨b, hb, hc⟩ := Option.bind_eq_some_iff.1 h
  have hl := cells_len b n a.off vs hc
  have hblk : (a.add i).block = a.block := by rw [Addr.add]; split <;> rfl
  have hoff : (a.add i).off = a.off + i := by
    rw [Addr.add]
    split
    · rename_i h; rw [h]; rfl
    · rfl
  rw [hblk, hb, hoff]
  simp only [Option.bind_some]
  refine cells_of b k (a.off + i) _ (by rw [List.length_take, List.length_drop]; omega) fun j hj => ?_
  have := cells_at b n a.off vs hc (i + j) (by omega)
  rw [show a.off + i + j = a.off + (i + j) from by omega, this, List.getElem?_take, if_pos hj, List.getElem?_drop]
theorem slice_take {ty e : TypeId} (hT : U8T P ty e) {s : St} {v : Value} {l : List UInt8} (hb : Bytes s v l) (hc : Cut s v) {k : Nat} (hk : k ≤ l.length) (j : IntKind) : ∃ v', eSliceV P ty v none (some (.int j (k : Int))) none s = some (v', s) ∧ Bytes s v' (l.take k) ∧ Cut s v' := by
  obtain ⟨inf, hi, hib⟩ := Option.map_eq_some_iff.1 hT.inf
  obtain ⟨h1, _⟩ := Prod.mk.inj hib
  have hsz : sizeT P e = some 1 := by unfold sizeT; rw [hi]; simp [h1]
  rcases hb with ⟨rfl, rfl⟩ | ⟨a, c, rfl, h2, h3, h4⟩
  · obtain rfl : k = 0 := by simpa using hk
    exact ⟨.slice none 0 0, by simp [eSliceV, eSlice, hT.und, hsz, sliceE, bnd, ck, asIdx]; rfl, .inl ⟨rfl, rfl⟩, fun a n c h => by cases h⟩
  · obtain ⟨b, hb1, hb2⟩ := hc a l.length c rfl
    have hkc : Nat.ble k c = true := by rw [Nat.ble_eq]; omega
    have ha : (cond (Nat.beq c 0) a (a.add 0)) = a := by rw [add_zero]; cases Nat.beq c 0 <;> rfl
    have hz : Nat.ble 0 k = true := by rw [Nat.ble_eq]; omega
    refine ⟨.slice (some a) k c, ?_, .inr ⟨a, c, by rw [List.length_take, Nat.min_eq_left hk], h2, by rw [List.length_take]; omega, ?_⟩, fun a' n' c' h => ?_⟩
    · unfold eSliceV eSlice
      simp only [hT.und, Option.bind_some, sliceE, hsz, bnd, asIdx_nat, hkc, ck, hz, hb1, Option.isNone_none, Bool.true_or, cond_true, Nat.sub_zero, Nat.zero_mul, ha]
      rcases hb2 with hb2 | hb2
      · rw [hb2]
      · cases b.exact with
        | true => rfl
        | false => simp only [hb2, add_zero]; rfl
    · have := loads_part h4 h2 (i := 0) (k := k) (by omega)
      rw [add_zero, List.drop_zero, ← List.map_take] at this
      rw [List.length_take, Nat.min_eq_left hk]; exact this
    · simp only [Value.slice.injEq, Option.some.injEq] at h
      obtain ⟨rfl, _, _⟩ := h
      exact ⟨b, hb1, hb2⟩
theorem slice_drop {ty e : TypeId} (hT : U8T P ty e) {s : St} {v : Value} {l : List UInt8} (hb : Bytes s v l) (hc : Cut s v) {k : Nat} (hk : k ≤ l.length) (j : IntKind) : ∃ v', eSliceV P ty v (some (.int j (k : Int))) none none s = some (v', s) ∧ Bytes s v' (l.drop k) ∧ Cut s v' := by
  obtain ⟨inf, hi, hib⟩ := Option.map_eq_some_iff.1 hT.inf
  obtain ⟨h1, _⟩ := Prod.mk.inj hib
  have hsz : sizeT P e = some 1 := by unfold sizeT; rw [hi]; simp [h1]
  rcases hb with ⟨rfl, rfl⟩ | ⟨a, c, rfl, h2, h3, h4⟩
  · obtain rfl : k = 0 := by simpa using hk
    exact ⟨.slice none 0 0, by simp [eSliceV, eSlice, hT.und, hsz, sliceE, bnd, ck, asIdx]; rfl, .inl ⟨rfl, rfl⟩, fun a n c h => by cases h⟩
  · obtain ⟨b, hb1, hb2⟩ := hc a l.length c rfl
    have hlc : Nat.ble l.length c = true := by rw [Nat.ble_eq]; omega
    have hkl : Nat.ble k l.length = true := by rw [Nat.ble_eq]; omega
    have hblk : (a.add k).block = a.block := by rw [Addr.add]; split <;> rfl
    have hspot : (a.add k).spot = none := by
      rw [Addr.add]
      split
      · exact h2
      · rfl
    have hex : ∃ a', eSliceV P ty (.slice (some a) l.length c) (some (.int j (k : Int))) none none s = some (.slice (some a') (l.length - k) (c - k), s) ∧ (a' = a.add k ∨ (a' = a ∧ l.length - k = 0)) := by
      unfold eSliceV eSlice
      simp only [hT.und, Option.bind_some, sliceE, hsz, bnd, asIdx_nat, hkl, hlc, ck, hb1, Option.isNone_none, Bool.true_or, cond_true, Nat.mul_one]
      by_cases hx : b.exact = true
      · rw [hx]
        cases hcl : Nat.beq c k with
        | true => exact ⟨a, rfl, .inr ⟨rfl, by have := Nat.eq_of_beq_eq_true hcl; omega⟩⟩
        | false => exact ⟨a.add k, rfl, .inl rfl⟩
      · have hx' : b.exact = false := by simpa using hx
        have hz1 : b.esz = 1 := by rcases hb2 with h | h; exact absurd h hx; exact h
        rw [hx']
        exact ⟨a.add k, by simp only [hz1]; rfl, .inl rfl⟩
    obtain ⟨a', he, ha'⟩ := hex
    refine ⟨_, he, .inr ⟨a', c - k, by rw [List.length_drop], ?_, by rw [List.length_drop]; omega, ?_⟩, fun a2 n' c' h => ?_⟩
    · rcases ha' with rfl | ⟨rfl, _⟩
      · exact hspot
      · exact h2
    · rcases ha' with rfl | ⟨rfl, h0⟩
      · have := loads_part h4 h2 (i := k) (k := l.length - k) (by omega)
        rw [← List.map_drop, List.take_of_length_le (by simp)] at this
        rw [List.length_drop]; exact this
      · have hd : l.drop k = [] := List.drop_eq_nil_of_le (by omega)
        rw [hd]; unfold St.loads; rw [hb1]; rfl
    · simp only [Value.slice.injEq, Option.some.injEq] at h
      obtain ⟨rfl, _, _⟩ := h
      refine ⟨b, ?_, hb2⟩
      rcases ha' with rfl | ⟨rfl, _⟩
      · rw [hblk]; exact hb1
      · exact hb1

/-- The types of a slice of slices of bytes. -/
structure RowT (P : Program) (ty e : TypeId) : Prop where
  und : P.underlying ty = some (.slice e)
  sz : sizeT P e = some 1
  zero : zeroT P e = some (.slice none 0 0)
theorem Bytes.one {s : St} {u : Value} {l : List UInt8} (h : Bytes s u l) : oneCell u = true ∧ u.cells = #[u] := by
  rcases h with ⟨rfl, _⟩ | ⟨a, c, rfl, _⟩ <;> exact ⟨rfl, rfl⟩
theorem made_rows (e : TypeId) {s : St} (hw : Wf s) (us : List Value) (ls : List (List UInt8)) (hl : us.length = ls.length) (h : ∀ (i : Nat) l, ls[i]? = some l → ∃ u, us[i]? = some u ∧ Bytes s u l) : RowsB (s.with (rowBlk e us)) (.slice (some ⟨2 * s.nx, 0, none⟩) ls.length ls.length) ls := by
  refine ⟨⟨2 * s.nx, 0, none⟩, ls.length, us, rfl, rfl, ?_, fun i l hi => ?_⟩
  · unfold St.loads
    rw [with_new, ← hl]
    exact row_cells us _ rfl rfl
  · obtain ⟨u, h1, h2⟩ := h i l hi
    exact ⟨u, h1, h2.grows (with_grows _ hw)⟩
theorem rows_one {ty e : TypeId} (hT : RowT P ty e) {s : St} (hw : Wf s) {u : Value} {l : List UInt8} (h : Bytes s u l) : ∃ v s', eBuildSlice P ty 1 [(0, u)] s = some (v, s') ∧ Grows s s' ∧ RowsB s' v [l] := by
  refine ⟨.slice (some ⟨2 * s.nx, 0, none⟩) 1 1, s.with (rowBlk e [u]), ?_, with_grows _ hw, made_rows e hw [u] [l] rfl fun i l' hi => ?_⟩
  · unfold eBuildSlice
    simp only [hT.und, Option.bind_some, sliceE, hT.sz, hT.zero, Instr.fill]
    rcases h with ⟨rfl, _⟩ | ⟨a, c, rfl, _⟩ <;> kernel_rfl
  · cases i with
    | zero => simp at hi; subst hi; exact ⟨u, rfl, h⟩
    | succ i => simp at hi
theorem rows_two {ty e : TypeId} (hT : RowT P ty e) {s : St} (hw : Wf s) {u1 u2 : Value} {l1 l2 : List UInt8} (h1 : Bytes s u1 l1) (h2 : Bytes s u2 l2) : ∃ v s', eBuildSlice P ty 2 [(0, u1), (1, u2)] s = some (v, s') ∧ Grows s s' ∧ RowsB s' v [l1, l2] := by
  refine ⟨.slice (some ⟨2 * s.nx, 0, none⟩) 2 2, s.with (rowBlk e [u1, u2]), ?_, with_grows _ hw, made_rows e hw [u1, u2] [l1, l2] rfl fun i l' hi => ?_⟩
  · unfold eBuildSlice
    simp only [hT.und, Option.bind_some, sliceE, hT.sz, hT.zero, Instr.fill]
    rcases h1 with ⟨rfl, _⟩ | ⟨a, c, rfl, _⟩ <;> rcases h2 with ⟨rfl, _⟩ | ⟨a', c', rfl, _⟩ <;> kernel_rfl
  · match i with
    | 0 => simp at hi; subst hi; exact ⟨u1, rfl, h1⟩
    | 1 => simp at hi; subst hi; exact ⟨u2, rfl, h2⟩
    | i + 2 => simp at hi
theorem RowsB.grows {s s' : St} (g : Grows s s') {v : Value} {ls : List (List UInt8)} (h : RowsB s v ls) : RowsB s' v ls := by
  obtain ⟨a, c, vs, h1, h2, h3, h4⟩ := h
  exact ⟨a, c, vs, h1, h2, loads_grows g h3, fun i l hi => let ⟨u, k1, k2⟩ := h4 i l hi; ⟨u, k1, k2.grows g⟩⟩
end Go.AE
