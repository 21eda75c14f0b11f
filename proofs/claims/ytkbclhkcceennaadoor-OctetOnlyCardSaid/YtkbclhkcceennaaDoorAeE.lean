import Derived.Test.YtkbclhkcceennaaDoorAeA
import Derived.ChangeSlices
import Derived.WideShapes
import Derived.Carry
set_option linter.unusedVariables false
set_option linter.unusedSimpArgs false
/-! A law's argument, opened: what lies in the world's memory, read in the state that the world is. -/
namespace Go.AE
open Go Go.RowKit Go.ChangeShapes Go.WideShapes
variable {P : Program} {H : Type} {enc : TypeId × Value → H}

theorem has_cells {P : Program} {W : World} {r : Reach} {base : Nat} {a : Addr} {e : TypeId} {n : Nat} (h : W.has P r base a e n) : a.spot = none ∧ ∃ cs t fr, W.heap[a.block]? = some (.cells cs t fr) := by
  obtain ⟨_, h1, row, cells, h2, _⟩ := h
  refine ⟨h1, ?_⟩
  unfold World.shape? at h2
  cases hw : W.heap[a.block]? with
  | none => rw [hw] at h2; cases h2
  | some o =>
    rw [hw] at h2
    cases o <;> simp at h2
    exact ⟨_, _, _, rfl⟩
theorem open_bytes {W : World} {base : Nat} {t e : TypeId} {v : Value} {d : DataW H} {ps : List MemPlace} (hT : U8T P t e) (hc : P.cellsOf e = 1) (hval : Value.okWide P W .any base t v) (h : DataW.Trod enc P W 0 (fun _ => true) true t v d ps) :
    ∃ u l, Bytes (absS W) u l ∧ Cut (absS W) u ∧ VR (mapOf W) u v := by
  obtain ⟨a, len, cap, rfl⟩ := okWide_slice hT.und hval
  obtain ⟨fuel, hf⟩ := h
  rcases open_ints hT.und hT.el hc hf with ⟨hcs, _⟩ | ⟨a', len', cap', zs, hcs, _, hl, _, hz, _, hcell, hwf⟩
  · have : a = none ∧ len = 0 ∧ cap = 0 := by simpa [Value.cells] using hcs
    obtain ⟨rfl, rfl, rfl⟩ := this
    exact ⟨.slice none 0 0, [], .inl ⟨rfl, rfl⟩, (fun a n c h => by cases h), .slice0 0 0⟩
  · have : a = some a' ∧ len = len' ∧ cap = cap' := by simpa [Value.cells] using hcs
    obtain ⟨rfl, rfl, rfl⟩ := this
    have hok : len ≤ cap ∧ (cap : Int) ≤ IntKind.i64.max ∧ W.has P .any base a' e cap := by
      simpa [Value.okWide, hT.und, Cell.okWide, Cell.ok] using hval
    obtain ⟨hs, hb⟩ := has_cells hok.2.2
    simp only [if_true] at hz
    have := enter_bytes (W := W) hs hl (by omega) hcell (fun n hn => by
      have := hwf n hn
      simp [Lit.wf, IntKind.min, IntKind.max, IntKind.signed, IntKind.bits] at this
      omega) hb
    exact ⟨_, _, this⟩
end Go.AE
