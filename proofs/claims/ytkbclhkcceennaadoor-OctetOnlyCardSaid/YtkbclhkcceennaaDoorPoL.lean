import Derived.Test.YtkbclhkcceennaaDoorPoD
import Derived.Test.YtkbclhkcceennaaDoorAeL
set_option linter.unusedVariables false
set_option linter.unusedSimpArgs false
/-! lives -/
namespace Go.Proofs.YtkbclhkcceennaaDoor.po
open Go Go.PE
open Go.AE hiding PM

def tabs : Tabs := [(0, octT.map fun (n : Nat) => .int .u16 (n : Int))]
theorem tabsIs {t : Nat × List Value} (ht : t ∈ tabs) : t = (0, octT.map fun (n : Nat) => .int .u16 (n : Int)) := by simpa [tabs] using ht
theorem livesRun : isV isTrue (callE Tryd.prog noX noDraw 10000 100 9 [] (St0 tabs)) = true := by kernel_rfl
theorem lives_ok (nx : Nat) : PSpec Tryd.prog tabs 9 [] ⟨[], nx⟩ (Eq2 (.v (.bool true)) ⟨[], nx⟩) :=
  pspec_closed (noX_ok _) (noDraw_ok _) Tryd.func9 (by kernel_rfl) (by kernel_rfl) (fun t ht => by rw [tabsIs ht]; decide) (fun t ht => by rw [tabsIs ht]; decide) (fun t ht => by rw [tabsIs ht]; exact ⟨rfl, by decide⟩) livesRun nx
end Go.Proofs.YtkbclhkcceennaaDoor.po
