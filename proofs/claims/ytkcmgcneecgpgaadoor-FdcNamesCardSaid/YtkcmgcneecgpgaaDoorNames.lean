/-
  THE CHAPTER ON THE DISK CONTROLLER: ITS EXAMPLES COME OUT AS IT TELLS: the law FdcNames answers true, from whatever memory in which the program's table lies as its text lays it.
  BY A VERIFIED EVALUATOR: the texts ..AeEval to ..AeTop (and those beside them) define an evaluator of the program's code and prove that what it finds is what the model does, whatever the tape answers; the kernel runs it here once.
-/
import Derived.Test.YtkcmgcneecgpgaaDoorCards
import Derived.Test.YtkcmgcneecgpgaaDoorTie
import Derived.WalkKit
import Derived.ProofKit
import Derived.OpenShut
import Derived.Deep.DeepHandedRow
import Derived.Lib.LaidTab
import Derived.Test.YtkcmgcneecgpgaaDoorAeTop
import Derived.Test.YtkcmgcneecgpgaaDoorAeDrawD
import Derived.Test.YtkcmgcneecgpgaaDoorAeFTop
set_option linter.unusedVariables false
namespace Go.Proofs.YtkcmgcneecgpgaaDoor.fdcNames
open Go.ChangeShapes Go.WideShapes Go.ChangeAt Go.RowKit

theorem own : ownKnob Tryd.prog.godebug = none := by kernel_rfl
theorem gTab : Tryd.prog.globalNamed "pendulum/octet.table" = some 0 := by kernel_rfl
theorem gTabType : (Tryd.prog.globals[0]?).map (·.type) = some 115 := by kernel_rfl
theorem cellsTab : Tryd.prog.cellsOf 115 = 16 := by kernel_rfl
theorem cellsEl : Tryd.prog.cellsOf 95 = 1 := by kernel_rfl
def tab : List Int := [0, 4129, 8258, 12387, 16516, 20645, 24774, 28903, 33032, 37161, 41290, 45419, 49548, 53677, 57806, 61935]
theorem table {W : World} (h : laidMetH Tryd.prog Rows.fdcNamesRow.laid W) : Lib.TabIs Tryd.prog W "pendulum/octet.table" .u16 tab :=
  Lib.tabIs_of_head (rest := []) gTab gTabType Tryd.underlying115 Tryd.underlying95 cellsEl cellsTab h
def tabs : AE.Tabs := [(0, tab.map (.int .u16))]
theorem holds0 {W : World} (h : laidMetH Tryd.prog Rows.fdcNamesRow.laid W) : AE.Holds0 tabs W := by
  intro t ht
  obtain rfl : t = (0, tab.map (.int .u16)) := by simpa [tabs] using ht
  refine ⟨by simp [tab], fun i v hv => ?_⟩
  rw [List.getElem?_map] at hv
  cases hi : tab[i]? with
  | none => rw [hi] at hv; cases hv
  | some n =>
    rw [hi] at hv; cases hv
    have hlt : i < tab.length := by
      rcases Nat.lt_or_ge i tab.length with h' | h'
      · exact h'
      · rw [List.getElem?_eq_none h'] at hi; cases hi
    have := (table h).cell gTab i hlt
    rw [List.getElem?_eq_getElem hlt] at hi
    simpa [List.getD, List.getElem?_eq_getElem hlt, hi] using this
theorem tabsOk : ∀ t ∈ tabs, t.2.all (fun v => AE.plain 8 v && AE.oneCell v) = true := by
  intro t ht
  obtain rfl : t = (0, tab.map (.int .u16)) := by simpa [tabs] using ht
  decide

/-- THE EVALUATION, by the fast form of the evaluator. -/
theorem runF : AE.isV AE.isTrue (AE.F.runC Tryd.prog AE.noX 10000 100 4 [] (AE.St0 tabs)) = true := by kernel_rfl
theorem run : AE.isV AE.isTrue (AE.callE Tryd.prog AE.noX (AE.drawE Tryd.prog) 10000 100 4 [] (AE.St0 tabs)) = true := (congrArg (AE.isV AE.isTrue) (AE.F.runC_eq (P := Tryd.prog) AE.noX 10000 100 4 [] (AE.St0 tabs))).symm.trans runF

theorem contract (H : Type) (enc : TypeId × Value → H) (W : World) (base : Nat) (args : Array Value) (ds gs : List (DataW H)) (before : List MemPlace)
    (hval : ∀ (j : Nat) t v, Tryd.f4.params[j]? = some t → args[j]? = some v → Value.okWide Tryd.prog W .any base t v)
    (hW : DataW.Whole enc Tryd.prog Tryd.f4.params.toList Rows.fdcNamesSpec.vars false W args.toList ds gs before) (hL : laidMetH Tryd.prog Rows.fdcNamesRow.laid W) :
    Calls Tryd.prog 4 args W fun e W' => ∃ v, e = .returned v ∧ Rows.fdcNamesSpec.post enc Tryd.prog Tryd.f4 false true false false W args v W' := by
  have hW' := hW
  obtain ⟨p, q, hA0, hV, rfl, hfz, hnd⟩ := hW
  have hA : DataW.TrodAll enc Tryd.prog W 0 (fun _ => true) true Tryd.f4.params.toList args.toList ds p := hA0
  rw [Tryd.params4] at hA hval
  obtain ⟨h1, rfl, rfl⟩ := trodAll_nil hA
  obtain rfl : args = #[] := by cases args; simp_all
  obtain ⟨rfl, rfl⟩ := trodVars_none hV
  clear hA0
  simp only [List.append_nil] at hW'
  refine (AE.closed (args := []) (AE.noX_ok _) (AE.drawE_ok (by kernel_rfl)) rfl tabsOk (run ) W (holds0 hL)).mono fun e W' ⟨he, hb⟩ => ?_
  subst he
  exact ⟨_, rfl, _, _, _, [], [], [], hW', trodAll_cons_mk (shut_bool Tryd.underlying4 _) trodAll_mk0, rfl, rfl, hb.frame _, fun h => by cases h⟩

noncomputable def laidWorld (os : Os) : World :=
  { World.holding Tryd.prog os ⟨#[], #[], []⟩ with heap := (World.holding Tryd.prog os ⟨#[], #[], []⟩).heap.modify 0 fun
      | .cells _ t frozen => .cells (tab.map (.int .u16)).toArray t frozen
      | o => o }
theorem laid_met (os : Os) : laidMet Tryd.prog Rows.fdcNamesRow.laid ((laidWorld os).forCall (fun _ _ => 0) ⟨#[], #[], []⟩).memory :=
  laidMet_of_run' 8 (by kernel_rfl) (by kernel_rfl)
theorem reads (os : Os) {H : Type} (enc : TypeId × Value → H) : ∃ places, DataW.whole enc Tryd.prog ((laidWorld os).forCall (fun _ _ => 0) ⟨#[], #[], []⟩).memory Tryd.f4.params.toList Rows.fdcNamesSpec.vars false (#[] : Array Value).toList 8 = some ([], [], places) :=
  ⟨[], by kernel_rfl⟩

set_option maxRecDepth 100000 in
theorem lifted (os : Os) (started : os.Started) (H : Type) (enc : TypeId × Value → H) (F : Stop.Interp) :
    ReturnsInHanded {} Tryd.checked os 4 .any ((OpenSpec.ofChange Rows.fdcNamesSpec).preRow enc Tryd.prog Tryd.f4 Rows.fdcNamesRow.domain false Rows.fdcNamesRow.laid) (((OpenSpec.ofChange Rows.fdcNamesSpec).at F).post enc Tryd.prog Tryd.f4 false true false false) := by
  obtain ⟨places, hx⟩ := reads os enc
  refine returnsInHanded_of_row (C := Tryd.checked) (s := OpenSpec.ofChange Rows.fdcNamesSpec) own started (by kernel_rfl) Tryd.func4
    (witness_row_at (enc := enc) (C := Tryd.checked) false (laidWorld os) #[] rfl (by kernel_rfl) (by kernel_rfl) (by kernel_rfl)
      (OpenSpec.preRow_of_cond 8 hx (by kernel_rfl) (fun k hk => by cases hk) (by kernel_rfl) (laid_met os))) ?_
  intro W base args ds gs before hval hW _ _ _ hL _ _
  exact contract H enc W base args ds gs before hval hW hL

theorem said : Rows.FdcNamesSaid :=
  OpenClaim.holds_of_cond 4 Tryd.f4 rfl rfl rfl rfl rfl rfl rfl ⟨rfl, rfl, rfl, rfl, rfl⟩ rfl rfl rfl rfl rfl (by kernel_rfl) Tryd.func4 (by kernel_rfl)
    (of_decide_eq_true (by kernel_rfl)) (by unfold Func.isWrapper; first | (rw [if_pos (by decide +kernel)]; kernel_rfl) | (rw [if_neg (by decide +kernel)]; exact ⟨rfl, rfl⟩))
    (fun os started H enc _ F => by rw [OpenClaim.pre_eq_preRow]; exact lifted os started H enc F)

theorem plain (f : FuncId) (fn : Func) (hf : Tryd.pinned.checked.prog.funcNamed "pendulum/pendulumlaw22.FdcNames" = some f) (hfn : Tryd.pinned.checked.prog.funcs[f]? = some fn) :
    false = Tryd.pinned.checked.prog.looks [] ∧ ∀ (j : Nat) t, fn.params[j]? = some t → Tryd.pinned.checked.prog.wantsStandIn t = false := by
  obtain rfl : f = 4 := Option.some.inj ((show Tryd.prog.funcNamed "pendulum/pendulumlaw22.FdcNames" = some 4 by kernel_rfl).symm.trans hf) |>.symm
  obtain rfl : fn = Tryd.f4 := (Option.some.inj (Tryd.func4.symm.trans hfn)).symm
  refine ⟨by kernel_rfl, fun j t ht => ?_⟩
  rw [Tryd.params4] at ht
  simp at ht

theorem card : Rows.FdcNamesCardSaid :=
  Claim7.holds_tied_plain_at .later [] _ _ _ _ said (fun _ h => by cases h) (by kernel_rfl) (fun _ h => by cases h) fdcNames_row_tie rfl ⟨rfl, rfl⟩ (by kernel_rfl) rfl plain (by kernel_rfl)
#print axioms card
end Go.Proofs.YtkcmgcneecgpgaaDoor.fdcNames
