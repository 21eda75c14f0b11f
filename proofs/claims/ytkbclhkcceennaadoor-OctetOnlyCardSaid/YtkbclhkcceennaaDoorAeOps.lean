import Derived.Test.YtkbclhkcceennaaDoorAeRel2
import Derived.Laws.BytesString
import Derived.Laws.Append
set_option linter.unusedSimpArgs false
set_option linter.unusedVariables false
namespace Go.AE
open Go Go.RowKit

/-- The model's run comes out as the abstract one. -/
def Out (w0 : KW) (m : Map) (s' : St) (v : Value) (r : Result Value) : Prop :=
  ∃ m' w' v', r = .ok v' w' ∧ m.le m' ∧ VR m' v v' ∧ Rel w0 m' s' w'

theorem Out.here {w0 : KW} {m : Map} {s : St} {v v' : Value} {w : World} (hv : VR m v v') (h : Rel w0 m s w) : Out w0 m s v (.ok v' w) := ⟨m, w, v', rfl, Map.le_refl m, hv, h⟩
theorem Out.cast {w0 : KW} {m : Map} {s : St} {v : Value} {r r' : Result Value} (h : Out w0 m s v r) (e : r' = r) : Out w0 m s v r' := e ▸ h

section runs
variable {P : Program}
theorem r_underlying {t : TypeId} {d : TypeDesc} (h : P.underlying t = some d) (w : World) : (underlying t).run P w = .ok d w := run_underlying h w
theorem r_info {t : TypeId} {i : TypeInfo} (h : P.info? t = some i) (w : World) : (typeInfo t).run P w = .ok i w := by
  simp [typeInfo, program, Sem.run, h]
theorem sizeT_info {t : TypeId} {n : Nat} (h : sizeT P t = some n) : ∃ i, P.info? t = some i ∧ i.size = n := by
  replace h := Option.bind_eq_some_iff.1 h; obtain ⟨i, hi, h⟩ := h
  exact ⟨i, hi, by simpa using h⟩
theorem r_size {t : TypeId} {n : Nat} (h : sizeT P t = some n) (w : World) : (sizeOf t).run P w = .ok n w := by
  obtain ⟨i, hi, rfl⟩ := sizeT_info h
  simp [sizeOf, r_info hi]
theorem zeroT_spec {t : TypeId} {z : Value} (h : zeroT P t = some z) : (∃ i, P.info? t = some i ∧ i.zero = some z) ∧ plain 8 z = true ∧ z.cells.toList.all oneCell = true := by
  replace h := Option.bind_eq_some_iff.1 h; obtain ⟨i, hi, h⟩ := h
  obtain ⟨z', hz, h⟩ := Option.bind_eq_some_iff.1 h
  replace h := Option.bind_eq_some_iff.1 h; obtain ⟨_, hc, h⟩ := h
  have := ck_some hc
  simp only [Bool.and_eq_true] at this
  simp only [Option.some.injEq] at h; subst h
  exact ⟨⟨i, hi, hz⟩, this⟩
theorem r_zero {t : TypeId} {z : Value} (h : zeroT P t = some z) (w : World) : (zeroValue t).run P w = .ok z w := by
  obtain ⟨⟨i, hi, hz⟩, _⟩ := zeroT_spec h
  simp [zeroValue, r_info hi, hz]
theorem r_isAgg {t : TypeId} {g : Bool} (h : isAggT P t = some g) (w : World) : (isAgg t).run P w = .ok g w := by
  unfold isAggT at h
  cases hu : P.underlying t with
  | none => simp [hu] at h
  | some d =>
    simp only [hu] at h
    cases d <;> simp at h <;> subst h <;> simp [isAgg, r_underlying hu]
theorem r_newRow (elem : TypeId) (cells : Array Value) (w : World) : (newRow elem cells).run P w = .ok ⟨w.heap.size, 0, none⟩ (w.alloc (.cells cells elem)) := rfl
end runs

theorem setCells_leaf_get (vs : List Value) (i : Nat) (h : i < vs.length) : (setCells .leaf 0 vs).get i = vs[i]? := by
  rw [get_setCells, if_pos ⟨Nat.zero_le _, by omega⟩]; simp
theorem rowBlk_cell (e : TypeId) (vs : List Value) (i : Nat) {v : Value} (h : (rowBlk e vs).cell i = some v) : vs[i]? = some v := by
  unfold Blk.cell at h
  simp only [rowBlk] at h
  by_cases hi : i < vs.length
  · have : Nat.blt i vs.length = true := by simpa [Nat.blt_eq] using hi
    rw [this, setCells_leaf_get vs i hi, List.getElem?_eq_getElem hi] at h
    rw [List.getElem?_eq_getElem hi]; simpa using h
  · have : Nat.blt i vs.length = false := by
      rw [Bool.eq_false_iff]; intro hh; rw [Nat.blt_eq] at hh; exact hi hh
    rw [this] at h; cases h
theorem grownBlk_cell (e : TypeId) (sz : Nat) (st : Bool) (vs : List Value) (i : Nat) {v : Value} (h : (grownBlk e sz st vs).cell i = some v) : vs[i]? = some v := rowBlk_cell e vs i h

theorem all_get {p : Value → Bool} {l : List Value} (h : l.all p = true) {i : Nat} {v : Value} (hv : l[i]? = some v) : p v = true := all_mem h v (List.mem_of_getElem? hv)

theorem eNewRow_sound {P : Program} {w0 : KW} {m : Map} {s s' : St} {w : World} {elem : TypeId} {vs vs' : List Value} {v : Value} (h : eNewRow s elem vs = some (v, s')) (hR : Rel w0 m s w) (hv : VRs m vs vs') :
    Out w0 m s' v ((do pure (.pointer (some (← newRow elem vs'.toArray))) : Sem Value).run P w) := by
  replace h := Option.bind_eq_some_iff.1 h; obtain ⟨_, hc, h⟩ := h
  replace h := Option.bind_eq_some_iff.1 h; obtain ⟨p, hp, h⟩ := h
  have h1 := ck_some hc
  simp only [Option.some.injEq, Prod.mk.injEq] at h
  obtain ⟨rfl, rfl⟩ := h
  obtain ⟨m', hle, hl, hR'⟩ := hR.alloc (b := rowBlk elem vs) (id := p.1) (s' := p.2) hp vs'.toArray (0, 0) (by simp [rowBlk, hv.1]) rfl (fun i u hu => by
    have hu' := rowBlk_cell elem vs i hu
    obtain ⟨u', k1, k2⟩ := hv.get hu'
    exact ⟨u', by simpa using k1, k2, all_get h1 hu'⟩) (.inl rfl)
  refine ⟨m', _, .pointer (some ⟨w.heap.size, 0, none⟩), ?_, hle, ?_, hR'⟩
  · simp [r_newRow]; rfl
  · exact VR.ptr ⟨p.1, 0, none⟩ _ hl rfl

variable {P : Program} {w0 : KW} {m : Map} {s s' : St} {w : World} {v : Value}

theorem isU8z_eq {v : Value} (h : isU8z v = true) : v = .int .u8 0 := by
  unfold isU8z at h
  split at h
  · rfl
  · cases h
theorem allU8_spec : ∀ (l : List Value) (n : Nat), allU8 l n = true → l.length = n ∧ ∀ (i : Nat), i < n → l[i]? = some (.int .u8 0)
  | [], n, h => by
    unfold allU8 at h
    have := Nat.eq_of_beq_eq_true h
    subst this
    exact ⟨rfl, fun i hi => absurd hi (Nat.not_lt_zero i)⟩
  | v :: l, n, h => by
    unfold allU8 at h
    cases hv : isU8z v with
    | false => rw [hv] at h; cases n <;> cases h
    | true =>
      rw [hv] at h
      have hv := isU8z_eq hv
      subst hv
      cases n with
      | zero => cases h
      | succ m =>
        obtain ⟨h1, h2⟩ := allU8_spec l m h
        refine ⟨by simp [h1], fun i hi => ?_⟩
        cases i with
        | zero => rfl
        | succ i => simpa using h2 i (by omega)
theorem uniT_spec {t : TypeId} {n : Nat} (h : uniT P t = some n) : ∃ i z, P.info? t = some i ∧ i.zero = some z ∧ z.cells.toList.length = n ∧ ∀ (k : Nat), k < n → z.cells.toList[k]? = some (.int .u8 0) := by
  unfold uniT at h
  obtain ⟨d, hd, h⟩ := Option.bind_eq_some_iff.1 h
  split at h
  · replace h := Option.bind_eq_some_iff.1 h; obtain ⟨_, _, h⟩ := h
    replace h := Option.bind_eq_some_iff.1 h; obtain ⟨i, hi, h⟩ := h
    replace h := Option.bind_eq_some_iff.1 h; obtain ⟨z, hz, h⟩ := h
    replace h := Option.bind_eq_some_iff.1 h; obtain ⟨_, hc, h⟩ := h
    simp only [Option.some.injEq] at h; subst h
    obtain ⟨h1, h2⟩ := allU8_spec _ _ (ck_some hc)
    exact ⟨i, z, hi, hz, h1, h2⟩
  · cases h
theorem zBlk_cell {e : TypeId} {n i : Nat} {v : Value} (h : (zBlk e n).cell i = some v) : i < n ∧ v = .int .u8 0 := by
  unfold Blk.cell zBlk at h
  simp only [PT.get_leaf] at h
  split at h
  · cases h
  · rename_i hb
    rw [Nat.blt_eq] at hb
    refine ⟨hb, ?_⟩
    have e : Nat.mod i 1 = 0 := Nat.mod_one i
    simp only [List.length_cons, List.length_nil, Nat.zero_add, e, List.getElem?_cons_zero, Option.some.injEq] at h
    exact h.symm
theorem eAlloc_sound {elem : TypeId} (h : eAlloc P elem s = some (v, s')) (hR : Rel w0 m s w) : Out w0 m s' v ((Instr.alloc elem true (.tuple #[])).run P w) := by
  unfold eAlloc at h
  split at h
  · rename_i n hu
    obtain ⟨i, z, hi, hz, hl, hc⟩ := uniT_spec hu
    replace h := Option.bind_eq_some_iff.1 h; obtain ⟨p, hp, h⟩ := h
    simp only [Option.some.injEq, Prod.mk.injEq] at h
    obtain ⟨rfl, rfl⟩ := h
    obtain ⟨m', hle, hl', hR'⟩ := hR.alloc (b := zBlk elem n) (id := p.1) (s' := p.2) hp z.cells (0, 0) (by rw [← Array.length_toList, hl]; exact Nat.le_refl n) rfl (fun k u hk => by
      obtain ⟨hlt, rfl⟩ := zBlk_cell hk
      exact ⟨.int .u8 0, by have := hc k hlt; rwa [Array.getElem?_toList] at this, .int _ _, rfl⟩) (.inl rfl)
    refine ⟨m', _, .pointer (some ⟨w.heap.size, 0, none⟩), ?_, hle, VR.ptr ⟨p.1, 0, none⟩ _ hl' rfl, hR'⟩
    have hzr : (zeroValue elem).run P w = .ok z w := by simp [zeroValue, r_info hi, hz]
    simp [Instr.alloc, hzr, newVar, r_newRow]; rfl
  · replace h := Option.bind_eq_some_iff.1 h; obtain ⟨z, hz, h⟩ := h
    obtain ⟨_, hp, _⟩ := zeroT_spec hz
    refine (eNewRow_sound (P := P) h hR ((plain_VR m 8 z hp).cells)).cast ?_
    simp [Instr.alloc, r_zero hz, newVar]

theorem eBox_sound {elem : TypeId} {x x' : Value} (h : eBox elem x s = some (v, s')) (hR : Rel w0 m s w) (hx : VR m x x') : Out w0 m s' v ((Instr.box elem x').run P w) := by
  refine (eNewRow_sound (P := P) h hR hx.cells).cast ?_
  simp [Instr.box, newVar]

theorem asPtr_VR {x x' : Value} {a : Addr} (h : asPtr x = some a) (hx : VR m x x') : ∃ l, m a.block = some l ∧ a.spot = none ∧ x' = .pointer (some ⟨l.blk, l.sh + a.off, none⟩) := by
  cases hx <;> simp [asPtr] at h
  subst h
  exact ⟨_, ‹_›, ‹_›, rfl⟩
theorem asIdx_VR {x x' : Value} {i : Nat} (h : asIdx x = some i) (hx : VR m x x') : ∃ k, x' = .int k (i : Int) := by
  cases hx <;> simp [asIdx] at h
  rename_i k n
  cases n with
  | ofNat n => simp at h; subst h; exact ⟨k, rfl⟩
  | negSucc n => simp at h

theorem eLoad_sound {t : TypeId} {x x' : Value} (h : eLoad P t x s = some (v, s')) (hR : Rel w0 m s w) (hx : VR m x x') : Out w0 m s' v ((Instr.loadAt t x').run P w) := by
  replace h := Option.bind_eq_some_iff.1 h; obtain ⟨a, ha, h⟩ := h
  replace h := Option.bind_eq_some_iff.1 h; obtain ⟨g, hg, h⟩ := h
  obtain ⟨l, hl, hs, rfl⟩ := asPtr_VR ha hx
  cases g with
  | false =>
    replace h := Option.bind_eq_some_iff.1 h; obtain ⟨u, hu, h⟩ := h
    simp only [Option.some.injEq, Prod.mk.injEq] at h
    obtain ⟨rfl, rfl⟩ := h
    obtain ⟨u', k1, k2, k3⟩ := hR.load hl hu
    refine (Out.here k2 hR).cast ?_
    simp [Instr.loadAt, Instr.sureAddr, loadVar, r_isAgg hg, k1]
  | true =>
    replace h := Option.bind_eq_some_iff.1 h; obtain ⟨n, hn, h⟩ := h
    replace h := Option.bind_eq_some_iff.1 h; obtain ⟨vs, hvs, h⟩ := h
    simp only [Option.some.injEq, Prod.mk.injEq] at h
    obtain ⟨rfl, rfl⟩ := h
    obtain ⟨vs', k1, k2, k3, k4⟩ := hR.run_loads P hl hvs
    refine (Out.here (VR.agg' k1) hR).cast ?_
    simp [Instr.loadAt, Instr.sureAddr, loadVar, r_isAgg hg, r_size hn, k4]

theorem eStore_sound {t : TypeId} {x x' y y' : Value} (h : eStore P t x y s = some (v, s')) (hR : Rel w0 m s w) (hx : VR m x x') (hy : VR m y y') :
    ∃ w', (Instr.storeAt t x' y').run P w = .ok () w' ∧ v = undef ∧ Rel w0 m s' w' := by
  replace h := Option.bind_eq_some_iff.1 h; obtain ⟨a, ha, h⟩ := h
  replace h := Option.bind_eq_some_iff.1 h; obtain ⟨n, hn, h⟩ := h
  replace h := Option.bind_eq_some_iff.1 h; obtain ⟨_, hc, h⟩ := h
  replace h := Option.bind_eq_some_iff.1 h; obtain ⟨s1, h1, h⟩ := h
  simp only [Option.some.injEq, Prod.mk.injEq] at h
  obtain ⟨rfl, rfl⟩ := h
  obtain ⟨l, hl, hs, rfl⟩ := asPtr_VR ha hx
  have hlen := Nat.eq_of_beq_eq_true (ck_some hc)
  obtain ⟨k1, k2⟩ := hR.run_stores P hl hy.cells h1
  refine ⟨_, ?_, rfl, k2⟩
  have hsz : y'.cells.size = n := by have := hy.cells.1; simp only [Array.length_toList] at this hlen; omega
  simp [Instr.storeAt, Instr.sureAddr, storeVar, r_size hn, hsz, k1]

theorem eFieldAddr_sound {t : TypeId} {x x' : Value} {f : Nat} (h : eFieldAddr P t x f s = some (v, s')) (hR : Rel w0 m s w) (hx : VR m x x') : Out w0 m s' v ((Instr.fieldAt t x' f).run P w) := by
  replace h := Option.bind_eq_some_iff.1 h; obtain ⟨d, hd, h⟩ := h
  replace h := Option.bind_eq_some_iff.1 h; obtain ⟨fs, hfs, h⟩ := h
  replace h := Option.bind_eq_some_iff.1 h; obtain ⟨fl, hfl, h⟩ := h
  replace h := Option.bind_eq_some_iff.1 h; obtain ⟨a, ha, h⟩ := h
  replace h := Option.bind_eq_some_iff.1 h; obtain ⟨sz, hsz, h⟩ := h
  replace h := Option.bind_eq_some_iff.1 h; obtain ⟨_, hc, h⟩ := h
  simp only [Option.some.injEq, Prod.mk.injEq] at h
  obtain ⟨rfl, rfl⟩ := h
  obtain ⟨l, hl, hs, rfl⟩ := asPtr_VR ha hx
  have hz : sz ≠ 0 := by rintro rfl; have := ck_some hc; simp at this
  cases d <;> simp [structF] at hfs
  subst hfs
  refine (Out.here (VR.ptr (a.add fl.offset) l (by rw [Addr_add' a hs]; exact hl) (by rw [Addr_add' a hs])) hR).cast ?_
  simp [Instr.fieldAt, Instr.sureAddr, r_underlying hd, hfl, fieldPlace, r_size hsz, hz, Addr_add, Addr_add' a hs, Nat.add_assoc]

theorem blt_lt {a b : Nat} (h : Nat.blt a b = true) : a < b := by simpa [Nat.blt_eq] using h

theorem eIndexAddr_sound {t : TypeId} {x x' ix ix' : Value} (h : eIndexAddr P t x ix s = some (v, s')) (hR : Rel w0 m s w) (hx : VR m x x') (hi : VR m ix ix') : Out w0 m s' v ((Instr.indexAt t x' ix').run P w) := by
  replace h := Option.bind_eq_some_iff.1 h; obtain ⟨i, hi0, h⟩ := h
  replace h := Option.bind_eq_some_iff.1 h; obtain ⟨d, hd, h⟩ := h
  obtain ⟨k, rfl⟩ := asIdx_VR hi0 hi
  split at h
  · rename_i len e a
    replace h := Option.bind_eq_some_iff.1 h; obtain ⟨sz, hsz, h⟩ := h
    replace h := Option.bind_eq_some_iff.1 h; obtain ⟨_, hc, h⟩ := h
    simp only [Option.some.injEq, Prod.mk.injEq] at h
    obtain ⟨rfl, rfl⟩ := h
    have hlt := blt_lt (ck_some hc)
    cases hx with
    | ptr a l hl hs =>
      refine (Out.here (VR.ptr (a.add (i * sz)) l (by rw [Addr_add' a hs]; exact hl) (by rw [Addr_add' a hs])) hR).cast ?_
      simp [Instr.indexAt, asIntOf, Instr.sureAddr, r_underlying hd, hlt, r_size hsz, Addr_add, Addr_add' a hs, Nat.add_assoc]
  · rename_i e a len cap
    replace h := Option.bind_eq_some_iff.1 h; obtain ⟨sz, hsz, h⟩ := h
    replace h := Option.bind_eq_some_iff.1 h; obtain ⟨_, hc, h⟩ := h
    simp only [Option.some.injEq, Prod.mk.injEq] at h
    obtain ⟨rfl, rfl⟩ := h
    have hlt := blt_lt (ck_some hc)
    cases hx with
    | slice a l n c c' hl hs he hcc hn =>
      refine (Out.here (VR.ptr (a.add (i * sz)) l (by rw [Addr_add' a hs]; exact hl) (by rw [Addr_add' a hs])) hR).cast ?_
      simp [Instr.indexAt, asIntOf, Instr.sureAddr, r_underlying hd, hlt, r_size hsz, Addr_add, Addr_add' a hs, Nat.add_assoc]
    | sliceE => omega
  · cases h

theorem ePart_sound {t : TypeId} {cs cs' : Array Value} {off : Nat} (h : ePart P t cs off = some v) (hs : cs.size = cs'.size) (hc : ∀ (i : Nat) x x', cs[i]? = some x → cs'[i]? = some x' → VR m x x') :
    ∃ v', (part t cs' off).run P w = .ok v' w ∧ VR m v v' := by
  replace h := Option.bind_eq_some_iff.1 h; obtain ⟨g, hg, h⟩ := h
  cases g with
  | false =>
    obtain ⟨u', k1, k2⟩ := (VRs.of_arr hs hc).get (by simpa using h)
    exact ⟨u', by have : cs'[off]? = some u' := by simpa using k1
                  simp [part, r_isAgg hg, this], k2⟩
  | true =>
    replace h := Option.bind_eq_some_iff.1 h; obtain ⟨n, hn, h⟩ := h
    simp only [Option.some.injEq] at h; subst h
    refine ⟨_, by simp [part, r_isAgg hg, r_size hn]; rfl, ?_⟩
    refine .agg _ _ (by simp [hs]) (fun i x x' h1 h2 => ?_)
    rw [Array.getElem?_extract] at h1 h2
    split at h1
    · split at h2
      · exact hc _ x x' h1 h2
      · cases h2
    · cases h1

theorem eField_sound {t : TypeId} {x x' : Value} {f : Nat} (h : eField P t x f s = some (v, s')) (hR : Rel w0 m s w) (hx : VR m x x') : Out w0 m s' v ((Instr.field t x' f).run P w) := by
  replace h := Option.bind_eq_some_iff.1 h; obtain ⟨d, hd, h⟩ := h
  replace h := Option.bind_eq_some_iff.1 h; obtain ⟨fs, hfs, h⟩ := h
  replace h := Option.bind_eq_some_iff.1 h; obtain ⟨fl, hfl, h⟩ := h
  cases d <;> simp [structF] at hfs
  subst hfs
  cases hx <;> simp at h
  rename_i cs cs' hsz hcs
  replace h := Option.bind_eq_some_iff.1 h
  obtain ⟨u, hu, h⟩ := h
  simp only [Option.some.injEq, Prod.mk.injEq] at h
  obtain ⟨rfl, rfl⟩ := h
  obtain ⟨u', k1, k2⟩ := ePart_sound (w := w) hu hsz hcs
  refine (Out.here k2 hR).cast ?_
  simp [Instr.field, r_underlying hd, hfl, asAgg, k1]

theorem eIndex_sound {t : TypeId} {x x' ix ix' : Value} (h : eIndex P t x ix s = some (v, s')) (hR : Rel w0 m s w) (hx : VR m x x') (hi : VR m ix ix') : Out w0 m s' v ((Instr.index t x' ix').run P w) := by
  replace h := Option.bind_eq_some_iff.1 h; obtain ⟨i, hi0, h⟩ := h
  replace h := Option.bind_eq_some_iff.1 h; obtain ⟨d, hd, h⟩ := h
  obtain ⟨k, rfl⟩ := asIdx_VR hi0 hi
  split at h
  · rename_i len e cs
    replace h := Option.bind_eq_some_iff.1 h; obtain ⟨sz, hsz, h⟩ := h
    replace h := Option.bind_eq_some_iff.1 h; obtain ⟨_, hc, h⟩ := h
    replace h := Option.bind_eq_some_iff.1 h; obtain ⟨u, hu, h⟩ := h
    simp only [Option.some.injEq, Prod.mk.injEq] at h
    obtain ⟨rfl, rfl⟩ := h
    have hlt := blt_lt (ck_some hc)
    cases hx with
    | agg cs cs' hs hcs =>
      obtain ⟨u', k1, k2⟩ := ePart_sound (w := w) hu hs hcs
      refine (Out.here k2 hR).cast ?_
      simp [Instr.index, asIntOf, r_underlying hd, hlt, r_size hsz, k1]
  · rename_i b
    replace h := Option.bind_eq_some_iff.1 h; obtain ⟨c, hcb, h⟩ := h
    cases hx
    split at h
    · simp only [Option.some.injEq, Prod.mk.injEq] at h
      obtain ⟨rfl, rfl⟩ := h
      refine (Out.here (.int _ _) hR).cast ?_
      simp [Instr.index, asIntOf, r_underlying hd, hcb]
    · cases h
  · cases h

theorem eExtract_sound {x x' : Value} {ix : Nat} (h : eExtract x ix s = some (v, s')) (hR : Rel w0 m s w) (hx : VR m x x') : Out w0 m s' v ((Instr.extract x' ix).run P w) := by
  cases hx <;> simp [eExtract] at h
  rename_i a a' hs ha
  replace h := Option.bind_eq_some_iff.1 h
  obtain ⟨u, hu, h⟩ := h
  simp only [Option.some.injEq, Prod.mk.injEq] at h
  obtain ⟨rfl, rfl⟩ := h
  obtain ⟨u', k1, k2⟩ := (VRs.of_arr hs ha).get (by simpa using hu)
  refine (Out.here k2 hR).cast ?_
  have : a'[ix]? = some u' := by simpa using k1
  simp [Instr.extract, this]

end Go.AE
