import Derived.Test.YtkbclhkcceennaaDoorAeS
set_option linter.unusedVariables false
set_option linter.unusedSimpArgs false
/-! The state that a world is, at a call's beginning: all that lies there may be read, and nothing of it written. -/
namespace Go.AE
open Go Go.RowKit
variable {P : Program}

def absA (a : Addr) : Option Addr := match a.spot with
  | none => some ⟨2 * a.block + 1, a.off, none⟩
  | some _ => none
def absV : Value → Option Value
  | .int k n => some (.int k n)
  | .bool b => some (.bool b)
  | .string b => some (.string b)
  | .slice none n c => some (.slice none n c)
  | .slice (some a) n c => (absA a).bind fun a => some (.slice (some a) n c)
  | .pointer none => some (.pointer none)
  | .pointer (some a) => (absA a).bind fun a => some (.pointer (some a))
  | .nilIface => some .nilIface
  | .nilFunc => some .nilFunc
  | _ => none
theorem absA_some {a x : Addr} (h : absA a = some x) : a.spot = none ∧ x = ⟨2 * a.block + 1, a.off, none⟩ := by
  unfold absA at h
  split at h
  · rename_i hs
    exact ⟨hs, (Option.some.inj h).symm⟩
  · cases h
theorem mapOf_odd (W : World) (b : Nat) : ∃ c, mapOf W (2 * b + 1) = some ⟨b, 0, true, c, 0⟩ ∧ ∀ cs t fr, W.heap[b]? = some (.cells cs t fr) → c = cs.size := by
  have e1 : (2 * b + 1) % 2 = 1 := by omega
  have e2 : (2 * b + 1) / 2 = b := by omega
  refine ⟨_, by simp only [mapOf, e1, e2, if_true]; rfl, fun cs t fr h => by rw [h]⟩
theorem absV_VR {W : World} {v x : Value} (h : absV v = some x) : VR (mapOf W) x v ∧ oneCell x = true := by
  cases v with
  | int k n => cases h; exact ⟨.int _ _, rfl⟩
  | bool b => cases h; exact ⟨.bool _, rfl⟩
  | string b => cases h; exact ⟨.string _, rfl⟩
  | nilIface => cases h; exact ⟨.nilIface, rfl⟩
  | nilFunc => cases h; exact ⟨.nilFunc, rfl⟩
  | slice a n c =>
    cases a with
    | none => cases h; exact ⟨.slice0 _ _, rfl⟩
    | some a =>
      obtain ⟨y, hy, h⟩ := Option.bind_eq_some_iff.1 (show (absA a).bind (fun a => some (Value.slice (some a) n c)) = some x from h)
      obtain ⟨hs, rfl⟩ := absA_some hy
      cases h
      obtain ⟨c0, hm, _⟩ := mapOf_odd W a.block
      have := VR.slice (m := mapOf W) ⟨2 * a.block + 1, a.off, none⟩ _ n c c hm rfl (fun _ => rfl) (Nat.le_refl _) (fun h => by cases h)
      refine ⟨?_, rfl⟩
      rw [show (some a : Option Addr) = some ⟨a.block, 0 + a.off, none⟩ from by rw [Nat.zero_add, ← hs]]
      exact this
  | pointer a =>
    cases a with
    | none => cases h; exact ⟨.ptr0, rfl⟩
    | some a =>
      obtain ⟨y, hy, h⟩ := Option.bind_eq_some_iff.1 (show (absA a).bind (fun a => some (Value.pointer (some a))) = some x from h)
      obtain ⟨hs, rfl⟩ := absA_some hy
      cases h
      obtain ⟨c0, hm, _⟩ := mapOf_odd W a.block
      have := VR.ptr (m := mapOf W) ⟨2 * a.block + 1, a.off, none⟩ _ hm rfl
      refine ⟨?_, rfl⟩
      rw [show (some a : Option Addr) = some ⟨a.block, 0 + a.off, none⟩ from by rw [Nat.zero_add, ← hs]]
      exact this
  | _ => cases h

def absC (cs : List Value) (i : Nat) (t : PT Value) : PT Value := match cs with
  | [] => t
  | v :: r => match absV v with
    | some x => absC r (i + 1) (t.set i (some x))
    | none => absC r (i + 1) t
theorem absC_get : ∀ (cs : List Value) (i : Nat) (t : PT Value) (j : Nat), (absC cs i t).get j = if i ≤ j ∧ j < i + cs.length then (match (cs[j - i]?).bind absV with | some x => some x | none => t.get j) else t.get j
  | [], i, t, j => by simp [absC]
  | v :: r, i, t, j => by
    unfold absC
    by_cases e : j = i
    · subst e
      cases hv : absV v with
      | none => simp only [hv]; rw [absC_get r (j + 1) t j, if_neg (by omega), if_pos (by simp)]; simp [hv]
      | some x => simp only [hv]; rw [absC_get r (j + 1) _ j, if_neg (by omega), if_pos (by simp), PT.get_set, if_pos rfl]; simp [hv]
    · have hstep : ∀ t' : PT Value, t'.get j = t.get j → (absC r (i + 1) t').get j = if i ≤ j ∧ j < i + (v :: r).length then (match ((v :: r)[j - i]?).bind absV with | some x => some x | none => t.get j) else t.get j := by
        intro t' ht
        rw [absC_get r (i + 1) t' j, ht]
        by_cases h : i + 1 ≤ j ∧ j < i + 1 + r.length
        · rw [if_pos h, if_pos (by simp; omega), show j - i = (j - (i + 1)) + 1 from by omega, List.getElem?_cons_succ]
        · rw [if_neg h, if_neg (by simp; omega)]
      cases hv : absV v with
      | none => exact hstep t rfl
      | some x => exact hstep _ (by rw [PT.get_set, if_neg e])
def absB (cs : Array Value) (e : TypeId) : Blk := { n := cs.size, z := [], t := absC cs.toList 0 .leaf, elem := e, exact := true, esz := 0, strish := false, ro := true }
theorem absB_cell (cs : Array Value) (e : TypeId) (i : Nat) : (absB cs e).cell i = (cs[i]?).bind absV := by
  unfold Blk.cell absB
  simp only
  rcases Nat.lt_or_ge i cs.size with h | h
  · rw [show Nat.blt i cs.size = true from by simpa [Nat.blt_eq] using h, absC_get, if_pos ⟨Nat.zero_le _, by simpa using h⟩, Nat.sub_zero, Array.getElem?_toList]
    simp only
    cases (cs[i]?).bind absV with
    | none => simp [PT.get_leaf]
    | some x => rfl
  · rw [show Nat.blt i cs.size = false from by
      cases hb : Nat.blt i cs.size with
      | false => rfl
      | true => rw [Nat.blt_eq] at hb; omega, Array.getElem?_eq_none h]
    rfl
def absH : List Obj → Nat → PT Blk → PT Blk
  | [], _, h => h
  | .cells cs e _ :: r, b, h => absH r (b + 1) (h.set (2 * b + 1) (some (absB cs e)))
  | _ :: r, b, h => absH r (b + 1) h
theorem absH_even : ∀ (os : List Obj) (b : Nat) (h : PT Blk) (k : Nat), (absH os b h).get (2 * k) = h.get (2 * k)
  | [], _, _, _ => rfl
  | o :: r, b, h, k => by
    cases o <;> simp only [absH] <;> rw [absH_even r] 
    rw [PT.get_set, if_neg (by omega)]
theorem absH_low : ∀ (os : List Obj) (b : Nat) (h : PT Blk) (k : Nat), k < b → (absH os b h).get (2 * k + 1) = h.get (2 * k + 1)
  | [], _, _, _, _ => rfl
  | o :: r, b, h, k, hk => by
    cases o <;> simp only [absH] <;> rw [absH_low r _ _ _ (by omega)]
    rw [PT.get_set, if_neg (by omega)]
def objB : Obj → Option Blk
  | .cells cs e _ => some (absB cs e)
  | _ => none
theorem absH_at : ∀ (os : List Obj) (b : Nat) (h : PT Blk) (k : Nat), (∀ j, h.get (2 * (b + j) + 1) = none) → (absH os b h).get (2 * (b + k) + 1) = (os[k]?).bind objB
  | [], b, h, k, hn => by simp [absH, hn]
  | o :: r, b, h, 0, hn => by
    cases o <;> simp only [absH, Nat.add_zero] <;> rw [absH_low r (b + 1) _ b (by omega)]
    case cells => rw [PT.get_set, if_pos rfl]; rfl
    all_goals (have := hn 0; simpa [objB] using this)
  | o :: r, b, h, k + 1, hn => by
    rw [show b + (k + 1) = (b + 1) + k from by omega, List.getElem?_cons_succ]
    cases o <;> simp only [absH] <;> refine absH_at r (b + 1) _ k fun j => ?_
    case cells => rw [PT.get_set, if_neg (by omega)]; have := hn (j + 1); rwa [show b + (j + 1) = b + 1 + j from by omega] at this
    all_goals (have := hn (j + 1); rwa [show b + (j + 1) = b + 1 + j from by omega] at this)
/-- The state that a world is. -/
def absS (W : World) : St := { h := absH W.heap.toList 0 .leaf, hm := .leaf, nx := 0, st := 1 }
theorem absS_odd (W : World) (b : Nat) : (absS W).h.get (2 * b + 1) = (W.heap[b]?).bind objB := by
  have := absH_at W.heap.toList 0 .leaf b (fun j => by rw [PT.get_leaf])
  rw [Nat.zero_add, Array.getElem?_toList] at this
  exact this
theorem absS_even (W : World) (k : Nat) : (absS W).h.get (2 * k) = none := by
  show (absH W.heap.toList 0 .leaf).get (2 * k) = none
  rw [absH_even, PT.get_leaf]
theorem absS_wf (W : World) : Wf (absS W) := ⟨Nat.one_pos, fun k => absS_even W _⟩
theorem absS_get {W : World} {id : Nat} {b : Blk} (h : (absS W).h.get id = some b) : ∃ k cs e fr, id = 2 * k + 1 ∧ W.heap[k]? = some (.cells cs e fr) ∧ b = absB cs e := by
  rcases Nat.mod_two_eq_zero_or_one id with h0 | h1
  · rw [show id = 2 * (id / 2) from by omega, absS_even] at h; cases h
  · have e : id = 2 * (id / 2) + 1 := by omega
    rw [e, absS_odd] at h
    obtain ⟨o, ho, hb⟩ := Option.bind_eq_some_iff.1 h
    cases o <;> simp [objB] at hb
    rename_i cs el fr
    exact ⟨id / 2, cs, el, fr, e, ho, hb.symm⟩
theorem absS_rel (W : World) : Rel (kw0 W) (mapOf W) (absS W) W := by
  refine ⟨⟨Keeps.refl _, (fun _ h => h.elim), fun id b hb => ?_, fun i j bi bj li lj hi hj hli hlj hbb hro => ?_, fun id x hx => by simp [absS, PT.get_leaf] at hx, fun i j bi bj li lj hi => by simp [absS, PT.get_leaf] at hi⟩, Nat.one_pos, fun k => ⟨by simp [mapOf, absS], fun h => h⟩⟩
  · obtain ⟨k, cs, e, fr, rfl, hk, rfl⟩ := absS_get hb
    obtain ⟨c, hm, hc⟩ := mapOf_odd W k
    have := hc cs e fr hk
    subst this
    refine ⟨_, hm, ⟨rfl, (fun hx => by cases hx), ⟨cs, fr, e, (fun hx => by cases hx), hk, rfl, by simp [absB], fun i v hv => ?_, (fun hx => by cases hx)⟩, (fun hx => by cases hx), fun _ => ?_⟩⟩
    · rw [absB_cell] at hv
      obtain ⟨v', h1, h2⟩ := Option.bind_eq_some_iff.1 hv
      obtain ⟨h3, h4⟩ := absV_VR (W := W) h2
      exact ⟨v', by simpa using h1, h3, h4⟩
    · show k < W.heap.size
      rcases Nat.lt_or_ge k W.heap.size with h' | h'
      · exact h'
      · rw [Array.getElem?_eq_none h'] at hk; cases hk
  · obtain ⟨_, _, _, _, _, _, rfl⟩ := absS_get hi
    obtain ⟨_, _, _, _, _, _, rfl⟩ := absS_get hj
    rcases hro with h | h <;> cases h
theorem absS_load {W : World} {b o : Nat} {v x : Value} (h : W.cell? ⟨b, o, none⟩ = some v) (hx : absV v = some x) : (absS W).load ⟨2 * b + 1, o, none⟩ = some x := by
  unfold World.cell? at h
  simp only at h
  cases hw : W.heap[b]? with
  | none => rw [hw] at h; cases h
  | some ob =>
    rw [hw] at h
    cases ob <;> simp at h
    rename_i cs e fr
    unfold St.load
    simp only [absS_odd, hw, Option.bind_some, objB, absB_cell, h, hx]

/-- What the walk says of the state that a world is, the program does from that world. -/
theorem enter {W : World} {f : FuncId} {args : List Value} {args' : Array Value} (h : CallT P f args (absS W) fun r _ => r = .bool true) (hv : VRs (mapOf W) args args'.toList) : Calls P f args' W fun e W' => e = .returned (.bool true) ∧ Below W.heap.size W W' := by
  refine (h.2 (kw0 W) (mapOf W) W args' (absS_rel W) (glob0 W) hv).mono ?_
  rintro e W' ⟨m', v, v', s', rfl, _, hv', hR, rfl⟩
  cases hv'
  exact ⟨rfl, hR.below.os, hR.below.tape, hR.below.output, hR.below.size, hR.below.keep⟩
def u8s (zs : List Int) : List UInt8 := zs.map fun z => UInt8.ofNat z.toNat
theorem u8s_at {z : Int} (h0 : 0 ≤ z) (h1 : z < 256) : u8v (UInt8.ofNat z.toNat) = .int .u8 z := by
  unfold u8v
  congr 1
  simp
  omega
/-- A slice of bytes that a world holds, read in the state that the world is. -/
theorem enter_bytes {W : World} {a : Addr} {len cap : Nat} {zs : List Int} (hs : a.spot = none) (hl : len ≤ cap) (hz : len ≤ zs.length) (hc : ∀ i, i < zs.length → W.cell? (a.add i) = some (.int .u8 (zs.getD i 0))) (hr : ∀ n ∈ zs, 0 ≤ n ∧ n < 256)
    (hb : ∃ cs e fr, W.heap[a.block]? = some (.cells cs e fr)) :
    Bytes (absS W) (.slice (some ⟨2 * a.block + 1, a.off, none⟩) len cap) (u8s (zs.take len)) ∧ Cut (absS W) (.slice (some ⟨2 * a.block + 1, a.off, none⟩) len cap) ∧ VR (mapOf W) (.slice (some ⟨2 * a.block + 1, a.off, none⟩) len cap) (.slice (some a) len cap) := by
  obtain ⟨cs, e, fr, hw⟩ := hb
  have hlen : (u8s (zs.take len)).length = len := by simp [u8s]; omega
  have hblk : (absS W).h.get (2 * a.block + 1) = some (absB cs e) := by rw [absS_odd, hw]; rfl
  refine ⟨.inr ⟨⟨2 * a.block + 1, a.off, none⟩, cap, by rw [hlen], rfl, by rw [hlen]; exact hl, ?_⟩, fun a' n c h => ?_, ?_⟩
  · unfold St.loads
    rw [hblk, hlen]
    refine cells_of _ _ _ _ (by simp [hlen]) fun j hj => ?_
    have hcj := hc j (by omega)
    have hadd : a.add j = ⟨a.block, a.off + j, none⟩ := by
      rw [Addr.add]
      split
      · rename_i h; subst h; rw [Nat.add_zero, ← hs]
      · rfl
    rw [hadd] at hcj
    unfold World.cell? at hcj
    simp only [hw] at hcj
    have hj' : j < zs.length := by omega
    have hin := hr (zs.getD j 0) (by rw [List.getD_eq_getElem?_getD, List.getElem?_eq_getElem hj']; simp)
    have hcj' : cs[a.off + j]? = some (.int .u8 (zs.getD j 0)) := by simpa using hcj
    rw [absB_cell, hcj']
    show some (Value.int .u8 (zs.getD j 0)) = ((u8s (zs.take len)).map u8v)[j]?
    rw [← u8s_at hin.1 hin.2, List.getElem?_map, u8s, List.getElem?_map, List.getElem?_take, if_pos hj, List.getD_eq_getElem?_getD, List.getElem?_eq_getElem hj']
    rfl
  · simp only [Value.slice.injEq, Option.some.injEq] at h
    obtain ⟨rfl, _, _⟩ := h
    exact ⟨_, hblk, .inl rfl⟩
  · refine (absV_VR (W := W) (v := .slice (some a) len cap) ?_).1
    show (absA a).bind (fun a => some (Value.slice (some a) len cap)) = _
    unfold absA; rw [hs]; rfl
end Go.AE
