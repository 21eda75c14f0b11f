/-
  step.told, taken to pieces for the evaluator: what it defers recovers a panic.
-/
import Derived.Test.YtgopjbnmbaeelaaGreatDoorAeTold
import Derived.Test.YtgopjbnmbaeelaaGreatDoorProg
import Derived.KernelRfl
set_option linter.unusedVariables false
namespace Go.Proofs.YtgopjbnmbaeelaaGreatDoor.told
open Go
noncomputable def none' : AE.F.TolP := { nt := 0, r0 := .skip, pre := .skip, id4 := 0, d18 := 0, caps := #[], g := 0, om := ⟨none, .panic (.tmp 0), 0, Tryz.f102.name, #[], none⟩, od := ⟨none, .panic (.tmp 0), 0, Tryz.f102.name, #[], none⟩, id5 := 0, ops5 := #[], post := .skip, res := [], clo := { id := 0, nt := 0, d7 := 0, d4 := 0, o7 := ⟨none, .panic (.tmp 0), 0, Tryz.f102.name, #[], none⟩, o4 := ⟨none, .panic (.tmp 0), 0, Tryz.f102.name, #[], none⟩, rest := .skip } }
noncomputable def T : AE.F.TolP := match Tryz.f102.body, Tryz.f106.body with
  | some (.seq r0 (.seq pre (.seq (.region id4 #[om, od] _) (.seq (.region id5 ops5 _) post)))), some (.seq (.region idc #[o7, o4] _) rest) =>
    { nt := Tryz.f102.ntmps, r0, pre, id4, d18 := 18, caps := #[.tmp 4, .tmp 5, .tmp 6, .tmp 7], g := 106, om, od, id5, ops5, post, res := Tryz.f102.results.toList, clo := { id := idc, nt := Tryz.f106.ntmps, d7 := 7, d4 := 4, o7, o4, rest } }
  | _, _ => none'
theorem ok : AE.F.TolOk Tryz.prog 102 T where
  body := ⟨Tryz.f102, Tryz.func102, by kernel_rfl, by kernel_rfl, by kernel_rfl, by kernel_rfl⟩
  om := ⟨by kernel_rfl, by kernel_rfl, by kernel_rfl⟩
  od := ⟨⟨#[], by kernel_rfl⟩, by kernel_rfl, by kernel_rfl⟩
  caps := by kernel_rfl
  keep := by kernel_rfl
  clo :=
    { body := ⟨Tryz.f106, Tryz.func106, by kernel_rfl, by kernel_rfl, by kernel_rfl, by kernel_rfl⟩
      o7 := ⟨by kernel_rfl, by kernel_rfl, by kernel_rfl⟩
      o4 := ⟨by kernel_rfl, by kernel_rfl, by kernel_rfl⟩ }
theorem mixed : Tryz.prog.follows .mixedOrders = true := by kernel_rfl
noncomputable def X (lf n : Nat) : AE.ExtF := AE.oneX 102 (AE.F.toldK Tryz.prog (AE.F.fnP Tryz.prog AE.noX lf n) lf T) AE.noX
theorem X_ok (lf n : Nat) : AE.ExtOk Tryz.prog (X lf n) := AE.oneX_ok (AE.F.toldK_ok (AE.F.fnP_sound (AE.noX_ok _) mixed lf n) mixed ok lf) (AE.noX_ok _)
end Go.Proofs.YtgopjbnmbaeelaaGreatDoor.told
