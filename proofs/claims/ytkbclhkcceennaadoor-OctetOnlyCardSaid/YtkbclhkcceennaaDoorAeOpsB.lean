import Derived.Test.YtkbclhkcceennaaDoorAeOps
set_option linter.unusedSimpArgs false
set_option linter.unusedVariables false
namespace Go.AE
open Go Go.RowKit

variable {P : Program} {w0 : KW} {m : Map} {s s' : St} {w : World} {v : Value}

def AR (m : Map) (a a' : Array Value) : Prop := VRs m a.toList a'.toList
theorem AR.size {m : Map} {a a' : Array Value} (h : AR m a a') : a.size = a'.size := by simpa using h.1
theorem AR.set {m : Map} {a a' : Array Value} (h : AR m a a') {x x' : Value} (hx : VR m x x') (i : Nat) : AR m (a.setIfInBounds i x) (a'.setIfInBounds i x') := by
  refine ⟨by simpa using h.1, fun j y y' h1 h2 => ?_⟩
  simp only [Array.toList_setIfInBounds] at h1 h2
  rw [List.getElem?_set] at h1 h2
  by_cases e : i = j
  · subst e
    simp only [if_true] at h1 h2
    split at h1
    · split at h2
      · cases h1; cases h2; exact hx
      · cases h2
    · cases h1
  · simp only [e, if_false] at h1 h2
    exact h.2 j y y' h1 h2
theorem AR.foldl {m : Map} (off : Nat) : ∀ (l l' : List Value) (k : Nat) (a a' : Array Value), VRs m l l' → AR m a a' →
    AR m ((l.zipIdx k).foldl (fun cs (p : Value × Nat) => cs.setIfInBounds (off + p.2) p.1) a) ((l'.zipIdx k).foldl (fun cs (p : Value × Nat) => cs.setIfInBounds (off + p.2) p.1) a')
  | [], [], k, a, a', _, h => h
  | x :: l, x' :: l', k, a, a', hl, h => by
    simp only [List.zipIdx_cons, List.foldl_cons]
    exact AR.foldl off l l' (k + 1) _ _ hl.uncons.2 (h.set hl.uncons.1 _)
  | [], _ :: _, _, _, _, hl, _ => by have := hl.1; simp at this
  | _ :: _, [], _, _, _, hl, _ => by have := hl.1; simp at this

theorem fill_VR {m : Map} {ρ ρ' : Operand → Value} (place : Nat → Option (Nat × Nat)) : ∀ (parts : List (Nat × Operand)) (cs cs' r : Array Value), (∀ p ∈ parts, VR m (ρ p.2) (ρ' p.2)) → AR m cs cs' →
    Instr.fill place cs (parts.map fun p => (p.1, ρ p.2)) = some r → ∃ r', Instr.fill place cs' (parts.map fun p => (p.1, ρ' p.2)) = some r' ∧ AR m r r'
  | [], cs, cs', r, _, h, hf => by
    simp only [List.map_nil, Instr.fill, Option.some.injEq] at hf; subst hf
    exact ⟨cs', rfl, h⟩
  | p :: parts, cs, cs', r, hp, h, hf => by
    have hv := hp p (by simp)
    have hc := hv.cells
    have hsz : (ρ p.2).cells.size = (ρ' p.2).cells.size := by simpa using hc.1
    have hcs := h.size
    simp only [List.map_cons, Instr.fill] at hf ⊢
    split at hf
    · cases hf
    · rename_i off size hpl
      split at hf
      · cases hf
      · rename_i hcond
        rw [if_neg (by rw [← hsz, ← hcs]; exact hcond)]
        refine fill_VR place parts _ _ r (fun q hq => hp q (by simp [hq])) ?_ hf
        rw [← Array.foldl_toList, ← Array.foldl_toList, Array.toList_zipIdx, Array.toList_zipIdx]
        exact AR.foldl off _ _ 0 _ _ hc h

theorem sliceE_eq {d : TypeDesc} {e : TypeId} (h : sliceE d = some e) : d = .slice e := by
  cases d <;> simp [sliceE] at h
  rw [h]
theorem mapT_eq {d : TypeDesc} {k : TypeId × TypeId} (h : mapT d = some k) : d = .map k.1 k.2 := by
  cases d <;> simp [mapT] at h
  rw [← h]

theorem run_buildSlice {t e : TypeId} {len sz : Nat} {z : Value} (hd : P.underlying t = some (.slice e)) (hsz : sizeT P e = some sz) (hz : zeroT P e = some z) (hle : len * sz ≤ 65536) (parts : Array (Nat × Value)) (cs : Array Value)
    (hf : Instr.fill (fun i => some (i * sz, sz)) ((Array.range (len * sz)).map (z.cells[· % z.cells.size]!)) parts.toList = some cs) :
    (Instr.buildSlice t len parts).run P w = .ok (.slice (some ⟨w.heap.size, 0, none⟩) len len) (w.alloc (.cells cs e)) := by
  have hbig : ¬ (len * sz > 2 ^ 24) := by simp only [gt_iff_lt, Nat.not_lt]; omega
  by_cases h0 : len * sz = 0
  · have e0 : ∀ f : Nat → Value, (Array.range 0).map f = #[] := fun f => by simp
    rw [h0, e0] at hf
    simp only [Instr.buildSlice, Sem.run_bind, r_underlying hd, Result.andThen_ok, r_size hsz, if_neg hbig, h0, if_true, Sem.run_pure, e0, hf, r_newRow]
    try rfl
  · simp only [Instr.buildSlice, Sem.run_bind, r_underlying hd, Result.andThen_ok, r_size hsz, if_neg hbig, h0, if_false, Sem.run_pure, r_zero hz, hf, r_newRow]
    try rfl

theorem default_VR (m : Map) : VR m (default : Value) (default : Value) := by
  show VR m (.bool default) (.bool default)
  exact .bool _
theorem zero_cells_VR (m : Map) {z : Value} (hz : plain 8 z = true) (k : Nat) : VR m (z.cells[k]!) (z.cells[k]!) := by
  by_cases h : k < z.cells.size
  · rw [getElem!_pos z.cells k h]
    exact (plain_VR m 8 z hz).cells.2 k _ _ (by simp [h]) (by simp [h])
  · rw [getElem!_neg z.cells k h]; exact default_VR m

theorem zeroRow_AR (m : Map) {z : Value} (hz : plain 8 z = true) (n : Nat) : AR m ((Array.range n).map (z.cells[· % z.cells.size]!)) ((Array.range n).map (z.cells[· % z.cells.size]!)) := by
  refine ⟨rfl, fun i x x' h1 h2 => ?_⟩
  rw [h1] at h2; cases h2
  simp at h1
  obtain ⟨_, _, rfl⟩ := h1
  exact zero_cells_VR m hz _

theorem parts_map (ρ : Operand → Value) (parts : Array (Nat × Operand)) : (parts.map fun (i, x) => (i, ρ x)).toList = parts.toList.map fun p => (p.1, ρ p.2) := by
  simp only [Array.toList_map]

theorem eBuild_sound {t : TypeId} {parts : Array (Nat × Operand)} {ρ ρ' : Operand → Value} (h : eBuild P t (parts.toList.map fun p => (p.1, ρ p.2)) s = some (v, s')) (hR : Rel w0 m s w) (hx : ∀ p ∈ parts.toList, VR m (ρ p.2) (ρ' p.2)) :
    Out w0 m s' v ((Instr.build t (parts.map fun (i, x) => (i, ρ' x))).run P w) := by
  replace h := Option.bind_eq_some_iff.1 h; obtain ⟨z, hz, h⟩ := h
  replace h := Option.bind_eq_some_iff.1 h; obtain ⟨d, hd, h⟩ := h
  obtain ⟨_, hp, _⟩ := zeroT_spec hz
  have hzz : AR m z.cells z.cells := (plain_VR m 8 z hp).cells
  split at h
  · rename_i fields
    replace h := Option.bind_eq_some_iff.1 h; obtain ⟨pl, hpl, h⟩ := h
    replace h := Option.bind_eq_some_iff.1 h; obtain ⟨cs, hcs, h⟩ := h
    simp only [Option.some.injEq, Prod.mk.injEq] at h
    obtain ⟨rfl, rfl⟩ := h
    obtain ⟨cs', k1, k2⟩ := fill_VR (m := m) _ parts.toList z.cells z.cells cs hx hzz hcs
    refine (Out.here (.agg cs cs' k2.size (by simpa using k2.2)) hR).cast ?_
    have hpl' := pureEval_run P _ _ hpl w
    simp only [Instr.build, Sem.run_bind, r_zero hz, Result.andThen_ok, r_underlying hd, hpl', parts_map, k1]
    rfl
  · rename_i n e
    replace h := Option.bind_eq_some_iff.1 h; obtain ⟨sz, hsz, h⟩ := h
    replace h := Option.bind_eq_some_iff.1 h; obtain ⟨cs, hcs, h⟩ := h
    simp only [Option.some.injEq, Prod.mk.injEq] at h
    obtain ⟨rfl, rfl⟩ := h
    obtain ⟨cs', k1, k2⟩ := fill_VR (m := m) _ parts.toList z.cells z.cells cs hx hzz hcs
    refine (Out.here (.agg cs cs' k2.size (by simpa using k2.2)) hR).cast ?_
    simp only [Instr.build, Sem.run_bind, r_zero hz, Result.andThen_ok, r_underlying hd, r_size hsz, parts_map, k1]
    rfl
  · cases h

theorem eBuildSlice_sound {t : TypeId} {len : Nat} {parts : Array (Nat × Operand)} {ρ ρ' : Operand → Value} (h : eBuildSlice P t len (parts.toList.map fun p => (p.1, ρ p.2)) s = some (v, s')) (hR : Rel w0 m s w) (hx : ∀ p ∈ parts.toList, VR m (ρ p.2) (ρ' p.2)) :
    Out w0 m s' v ((Instr.buildSlice t len (parts.map fun (i, x) => (i, ρ' x))).run P w) := by
  replace h := Option.bind_eq_some_iff.1 h; obtain ⟨d, hd, h⟩ := h
  replace h := Option.bind_eq_some_iff.1 h; obtain ⟨e, he, h⟩ := h
  replace h := Option.bind_eq_some_iff.1 h; obtain ⟨sz, hsz, h⟩ := h
  replace h := Option.bind_eq_some_iff.1 h; obtain ⟨_, hc, h⟩ := h
  replace h := Option.bind_eq_some_iff.1 h; obtain ⟨z, hz, h⟩ := h
  replace h := Option.bind_eq_some_iff.1 h; obtain ⟨cs, hcs, h⟩ := h
  replace h := Option.bind_eq_some_iff.1 h; obtain ⟨_, h1, h⟩ := h
  replace h := Option.bind_eq_some_iff.1 h; obtain ⟨p, hp, h⟩ := h
  simp only [Option.some.injEq, Prod.mk.injEq] at h
  obtain ⟨rfl, rfl⟩ := h
  have hc := ck_some hc
  simp only [Bool.and_eq_true] at hc
  have hle := Nat.le_of_ble_eq_true hc.1
  have h1 := ck_some h1
  obtain ⟨_, hpz, _⟩ := zeroT_spec hz
  obtain rfl := sliceE_eq he
  obtain ⟨cs', k1, k2⟩ := fill_VR (m := m) _ parts.toList _ _ cs hx (zeroRow_AR m hpz (len * sz)) hcs
  obtain ⟨m', hle', hl, hR'⟩ := hR.alloc (b := rowBlk _ cs.toList) (id := p.1) (s' := p.2) hp cs' (0, 0) (by simp [rowBlk, k2.size]) rfl (fun i u hu => by
    have hu' := rowBlk_cell _ cs.toList i hu
    obtain ⟨u', e1, e2⟩ := k2.get hu'
    exact ⟨u', by simpa using e1, e2, all_get h1 hu'⟩) (.inl rfl)
  refine ⟨m', _, .slice (some ⟨w.heap.size, 0, none⟩) len len, ?_, hle', ?_, hR'⟩
  · exact run_buildSlice hd hsz hz hle _ cs' (by rw [parts_map]; exact k1)
  · exact VR.slice ⟨p.1, 0, none⟩ _ len len len hl rfl (fun _ => rfl) (Nat.le_refl _) (fun hx => by cases hx)

theorem wrap_small (n : Int) (h0 : 0 ≤ n) (h1 : n ≤ 1099511627776) : IntKind.i64.wrap n = n := by
  have e : n % 2 ^ 64 = n := Int.emod_eq_of_lt h0 (by omega)
  simp only [IntKind.wrap, IntKind.bits, IntKind.signed, e]
  rw [if_neg (by simp; omega)]

theorem eMakeSlice_sound {t : TypeId} {l c l' c' : Value} (h : eMakeSlice P t l c s = some (v, s')) (hR : Rel w0 m s w) (hl : VR m l l') (hc : VR m c c') : Out w0 m s' v ((Instr.makeSlice t l' c').run P w) := by
  replace h := Option.bind_eq_some_iff.1 h; obtain ⟨ln, hln, h⟩ := h
  replace h := Option.bind_eq_some_iff.1 h; obtain ⟨cn, hcn, h⟩ := h
  replace h := Option.bind_eq_some_iff.1 h; obtain ⟨d, hd, h⟩ := h
  replace h := Option.bind_eq_some_iff.1 h; obtain ⟨e, he, h⟩ := h
  replace h := Option.bind_eq_some_iff.1 h; obtain ⟨inf, hinf, h⟩ := h
  replace h := Option.bind_eq_some_iff.1 h; obtain ⟨z, hz, h⟩ := h
  replace h := Option.bind_eq_some_iff.1 h; obtain ⟨_, hck, h⟩ := h
  replace h := Option.bind_eq_some_iff.1 h; obtain ⟨p, hp, h⟩ := h
  simp only [Option.some.injEq, Prod.mk.injEq] at h
  obtain ⟨rfl, rfl⟩ := h
  have hck := ck_some hck
  simp only [Bool.and_eq_true] at hck
  obtain ⟨⟨⟨⟨hlc, hby⟩, hzl⟩, hs0⟩, hcb⟩ := hck
  have hlc := Nat.le_of_ble_eq_true hlc
  have hby := Nat.le_of_ble_eq_true hby
  have hcb := Nat.le_of_ble_eq_true hcb
  have hzl := Nat.eq_of_beq_eq_true hzl
  have hs0 : inf.size ≠ 0 := by rintro h0; rw [h0] at hs0; simp at hs0
  obtain ⟨_, hpz, h1z⟩ := zeroT_spec hz
  obtain rfl := sliceE_eq he
  obtain ⟨kl, rfl⟩ := asIdx_VR hln hl
  obtain ⟨kc, rfl⟩ := asIdx_VR hcn hc
  have hszT : sizeT P e = some inf.size := by simp [sizeT, hinf]
  have hzs : z.cells.size = inf.size := by simpa using hzl
  obtain ⟨m', hle', hloc, hR'⟩ := hR.alloc (b := { n := cn * inf.size, z := z.cells.toList, t := .leaf, elem := e, exact := true, esz := 0, strish := false, ro := false }) (id := p.1) (s' := p.2) hp
    ((Array.range (cn * inf.size)).map (z.cells[· % z.cells.size]!)) (0, 0) (by simp) rfl (fun i u hu => by
      unfold Blk.cell at hu
      simp only [PT.get_leaf] at hu
      rw [show Nat.mod i z.cells.toList.length = i % z.cells.toList.length from rfl] at hu
      split at hu
      · cases hu
      · rename_i hlt
        have hlt := blt_lt hlt
        have hm : i % z.cells.toList.length < z.cells.size := by
          have : 0 < z.cells.size := by omega
          simpa using Nat.mod_lt i this
        have hu2 : z.cells[i % z.cells.size]? = some u := by simpa using hu
        have hu3 : z.cells[i % z.cells.size]! = u := by
          rw [getElem!_pos z.cells _ (by simpa using hm)]
          rw [Array.getElem?_eq_getElem (by simpa using hm)] at hu2
          simpa using hu2
        refine ⟨u, by simp [hlt, hu3], ?_, all_get h1z hu⟩
        rw [← hu3]; exact zero_cells_VR m hpz _) (.inl rfl)
  refine ⟨m', _, .slice (some ⟨w.heap.size, 0, none⟩) ln cn, ?_, hle', VR.slice ⟨p.1, 0, none⟩ _ ln cn cn hloc rfl (fun _ => rfl) (Nat.le_refl _) (fun hx => by cases hx), hR'⟩
  have w1 : IntKind.i64.wrap (ln : Int) = (ln : Int) := wrap_small _ (by omega) (by omega)
  have w2 : IntKind.i64.wrap (cn : Int) = (cn : Int) := wrap_small _ (by omega) (by omega)
  have hmul : (inf.bytes : Int) * (cn : Int) ≤ 1099511627776 := by
    obtain ⟨q, hq⟩ : ∃ q, inf.bytes * cn = q := ⟨_, rfl⟩
    rw [← Int.natCast_mul, hq]; rw [hq] at hby; omega
  have t1 : (decide ((cn : Int) < 0) || decide ((inf.bytes : Int) * (cn : Int) > 2 ^ 48)) = false := by
    rw [Bool.or_eq_false_iff, decide_eq_false_iff_not, decide_eq_false_iff_not]; omega
  have t2 : (decide ((ln : Int) < 0)) = false := by rw [decide_eq_false_iff_not]; omega
  have t3 : (decide ((ln : Int) > (cn : Int))) = false := by rw [decide_eq_false_iff_not]; omega
  have room : ¬ (cn * inf.bytes > roomBytes) := by
    rw [Nat.mul_comm]; have : roomBytes = 140737488355328 := by decide
    omega
  simp only [Instr.makeSlice, Sem.run_bind, r_underlying hd, Result.andThen_ok, asInt, asIntOf, Sem.run_pure, r_info hinf, w1, w2, t1, t2, t3, Bool.or_false, Bool.false_eq_true, if_false, askRoom, Int.toNat_natCast, room, r_size hszT]
  by_cases h0 : cn * inf.size = 0
  · have e0 : ∀ f : Nat → Value, (Array.range 0).map f = #[] := fun f => by simp
    simp only [h0, if_true, Sem.run_pure, Result.andThen_ok, Sem.run_bind, r_newRow, e0]
  · simp only [h0, if_false, Sem.run_pure, Result.andThen_ok, Sem.run_bind, r_newRow, r_zero hz]

end Go.AE
