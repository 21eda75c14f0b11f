import Derived.Test.YtkbclhkcceennaaDoorAeW
import Derived.Test.YtkbclhkcceennaaDoorAeTop
import Derived.Test.YtkbclhkcceennaaDoorAeExt
set_option linter.unusedVariables false
set_option linter.unusedSimpArgs false
/-! A closed call amid an open walk: what the evaluator finds from the tables alone, a call finds from every state in which the tables lie; and it leaves that state be. -/
namespace Go.AE
open Go Go.RowKit
variable {P : Program}

def flat : Value → Bool
  | .int _ _ | .bool _ | .string _ => true
  | _ => false
theorem flat_VR {m : Map} {v v' : Value} (h : flat v = true) (hv : VR m v v') : v' = v := by
  cases v <;> simp [flat] at h <;> cases hv <;> rfl
/-- The tables lie in a state. -/
def TabsS (tabs : Tabs) (s : St) : Prop := ∀ t ∈ tabs, t.2 ≠ [] ∧ ∀ (i : Nat) v, t.2[i]? = some v → s.load ⟨2 * t.1 + 1, i, none⟩ = some v
theorem TabsS.grows {tabs : Tabs} {s s' : St} (h : TabsS tabs s) (g : Grows s s') : TabsS tabs s' := fun t ht => ⟨(h t ht).1, fun i v hi => load_grows g ((h t ht).2 i v hi)⟩
theorem TabsS.holds {tabs : Tabs} {s : St} (h : TabsS tabs s) (hf : ∀ t ∈ tabs, t.2.all flat = true) {w0 : KW} {m : Map} {w : World} (hR : Rel w0 m s w) (hG : Glob m) : Holds0 tabs w := by
  intro t ht
  refine ⟨(h t ht).1, fun i v hv => ?_⟩
  obtain ⟨l, h1, h2, h3⟩ := hG t.1
  obtain ⟨v', k1, k2, _⟩ := hR.load (a := ⟨2 * t.1 + 1, i, none⟩) h1 ((h t ht).2 i v hv)
  rw [h2, h3, Nat.zero_add] at k1
  rw [k1, flat_VR (List.all_eq_true.1 (hf t ht) v (List.mem_of_getElem? hv)) k2]
theorem closedT {X : ExtF} {dr : CallF → DrawF} (hX : ExtOk P X) (hdr : ∀ cf, CallOk P cf → DrawOk P (dr cf)) {lf n : Nat} {f : FuncId} {fn : Func} {tabs : Tabs} (hf : P.funcs[f]? = some fn) (hn : (fn.name == "runtime.NumGoroutine") = false) (hb : fn.body.isNone = false)
    (hp : ∀ t ∈ tabs, t.2.all (fun v => plain 8 v && oneCell v) = true) (hfl : ∀ t ∈ tabs, t.2.all flat = true) (h : isV isTrue (callE P X dr lf n f [] (St0 tabs)) = true) {s : St} (hT : TabsS tabs s) : CallT P f [] s fun v s' => v = .bool true ∧ s' = s := by
  refine ⟨⟨fn, hf, hn, hb⟩, fun w0 m w args' hR hG hv => ?_⟩
  have ha : args' = #[] := by
    have := hv.1
    cases args' with | mk l => cases l with
      | nil => rfl
      | cons a b => simp at this
  subst ha
  refine (closed hX hdr (args := []) (by rfl) hp h w (hT.holds hfl hR hG)).mono ?_
  rintro e w' ⟨rfl, hB⟩
  exact ⟨m, .bool true, .bool true, s, rfl, Map.le_refl m, .bool _, hR.grow hB, rfl, rfl⟩

/-! A byte is put into a row that the call has made. -/
theorem addr0_add (id i : Nat) : (⟨id, 0, none⟩ : Addr).add i = ⟨id, i, none⟩ := by
  rw [Addr.add]
  simp only [Nat.zero_add]
  split
  · rename_i h; rw [h]
  · rfl
theorem Wf.set {s : St} (h : Wf s) {id : Nat} {b : Blk} (hb : s.h.get id = some b) (b' : Blk) : Wf { s with h := s.h.set id (some b') } := by
  refine ⟨h.pos, fun k => ?_⟩
  show (s.h.set id (some b')).get (2 * (s.nx + s.st * k)) = none
  rw [PT.get_set]
  split
  · rename_i e
    have := h.free k
    rw [e] at this; rw [this] at hb; cases hb
  · exact h.free k
theorem Grows.set {s0 s : St} (h : Grows s0 s) {id : Nat} (hn : s0.h.get id = none) {b : Blk} (hb : s.h.get id = some b) (b' : Blk) : Grows s0 { s with h := s.h.set id (some b') } := by
  refine ⟨fun j x hx => ?_, h.hm, h.st, h.nx, h.wf.set hb b'⟩
  show (s.h.set id (some b')).get j = some x
  rw [PT.get_set]
  split
  · rename_i e; subst e; rw [hn] at hx; cases hx
  · exact h.keep j x hx
theorem store_row {e ty : TypeId} (hs : sizeT P ty = some 1) {s0 s : St} {a : Addr} {n c : Nat} {l : List UInt8} (hg : Grows s0 s) (hr : Row e s (.slice (some a) n c) l) (hf : Fresh s0 (.slice (some a) n c)) {i : Nat} (hi : i < l.length) (x : UInt8) :
    ∃ s', eStore P ty (.pointer (some (a.add i))) (u8v x) s = some (undef, s') ∧ Grows s0 s' ∧ Row e s' (.slice (some a) n c) (l.set i x) ∧ ∀ id b, id ≠ a.block → s.h.get id = some b → s'.h.get id = some b := by
  rcases hr with ⟨h, _⟩ | ⟨id, b, h1, h2, h3, h4, h5, h6⟩
  · cases h
  simp only [Value.slice.injEq, Option.some.injEq] at h1
  obtain ⟨rfl, rfl, rfl⟩ := h1
  have hst : s.stores ⟨id, i, none⟩ [u8v x] = some { s with h := s.h.set id (some { b with t := setCells b.t i [u8v x] }) } := by
    unfold St.stores
    simp only [h2, Option.bind_some]
    have hle : Nat.ble (i + 1) b.n = true := by rw [h3]; simpa [Nat.ble_eq] using Nat.succ_le_of_lt hi
    simp [ck, h4, hle]
  have hcell : ∀ j, Blk.cell { b with t := setCells b.t i [u8v x] } j = if j = i then some (u8v x) else b.cell j := by
    intro j
    unfold Blk.cell
    show (match Nat.blt j b.n with
      | false => none
      | true => match (b.t.set i (some (u8v x))).get j with
        | some v => some v
        | none => b.z[Nat.mod j b.z.length]?) = _
    rw [PT.get_set]
    by_cases e : j = i
    · subst e
      rw [if_pos rfl, if_pos rfl, show Nat.blt j b.n = true from by rw [h3]; simpa [Nat.blt_eq] using hi]
    · rw [if_neg e, if_neg e]
      cases Nat.blt j b.n with
      | false => rfl
      | true => cases b.t.get j <;> rfl
  refine ⟨{ s with h := s.h.set id (some { b with t := setCells b.t i [u8v x] }) }, ?_, hg.set (hf _ _ _ rfl) h2 _, ?_, ?_⟩
  · unfold eStore asPtr
    rw [addr0_add]
    simp only [Option.bind_some, hs]
    show ((ck (Nat.beq 1 1)).bind fun _ => (s.stores ⟨id, i, none⟩ [u8v x]).bind fun s' => some (undef, s')) = _
    rw [hst]; rfl
  · refine .inr ⟨id, { b with t := setCells b.t i [u8v x] }, by simp, ?_, by simp [h3], h4, h5, ?_⟩
    · show (s.h.set id _).get id = _
      rw [PT.get_set, if_pos rfl]
    · refine cells_of _ _ 0 _ (by simp) fun j hj => ?_
      rw [hcell, Nat.zero_add, List.map_set, List.getElem?_set]
      by_cases e : i = j
      · subst e; simp [hi]
      · rw [if_neg (fun x => e x.symm), if_neg e]
        have := cells_at b _ 0 _ h6 j (by simpa using hj)
        rwa [Nat.zero_add] at this
  · intro j y hj hy
    show (s.h.set id _).get j = _
    rw [PT.get_set, if_neg hj]; exact hy
theorem quo_i64L (x n : Nat) (hn : 0 < n) (hx : x ≤ 9223372036854775807) : binI .quo .i64 .i64 (x : Int) (no_index (OfNat.ofNat n)) = some (.int .i64 ((x / n : Nat) : Int)) := by
  have h0 : (OfNat.ofNat n : Int) ≠ 0 := by show (n : Int) ≠ 0; omega
  rw [binI_quo _ _ _ h0]
  show some (Value.int .i64 (IntKind.i64.wrap ((x : Int).tdiv (n : Int)))) = _
  rw [show (x : Int).tdiv (n : Int) = ((x / n : Nat) : Int) from rfl, wrap_i64 (Int.le_trans (by decide) (Int.natCast_nonneg _)) (by have := Nat.div_le_self x n; have h : (((x / n : Nat)) : Int) ≤ (x : Int) := Int.ofNat_le.2 this; exact Int.le_trans h (by omega))]
theorem rem_i64L (x n : Nat) (hn : 0 < n) : binI .rem .i64 .i64 (x : Int) (no_index (OfNat.ofNat n)) = some (.int .i64 ((x % n : Nat) : Int)) := by
  have h0 : (OfNat.ofNat n : Int) ≠ 0 := by show (n : Int) ≠ 0; omega
  rw [binI_rem _ _ _ h0]; rfl
theorem rem_u16L (x n : Nat) (hn : 0 < n) : binI .rem .u16 .u16 (x : Int) (no_index (OfNat.ofNat n)) = some (.int .u16 ((x % n : Nat) : Int)) := by
  have h0 : (OfNat.ofNat n : Int) ≠ 0 := by show (n : Int) ≠ 0; omega
  rw [binI_rem _ _ _ h0]; rfl
end Go.AE
