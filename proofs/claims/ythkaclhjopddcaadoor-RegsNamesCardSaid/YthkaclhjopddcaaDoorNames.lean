/-
  THE CHAPTER ON THE REGISTERS: ITS EXAMPLES COME OUT AS IT TELLS: the law RegsNames answers true, from whatever memory in which the program's tables lie as their texts lay them.
  BY A VERIFIED EVALUATOR: the texts ..AeEval to ..AeTop (and those beside them) define an evaluator of the program's code and prove that what it finds is what the model does, whatever the tape answers; the kernel runs it here once.
-/
import Derived.Test.YthkaclhjopddcaaDoorCards
import Derived.Test.YthkaclhjopddcaaDoorTie
import Derived.WalkKit
import Derived.ProofKit
import Derived.OpenShut
import Derived.Deep.DeepHandedRow
import Derived.Lib.LaidTab
import Derived.Test.YthkaclhjopddcaaDoorAeTop
import Derived.Test.YthkaclhjopddcaaDoorAeDrawD
import Derived.Test.YthkaclhjopddcaaDoorAeFTop
import Derived.Test.YthkaclhjopddcaaDoorAeExt
import Derived.Test.YthkaclhjopddcaaDoorJoin
set_option linter.unusedVariables false
namespace Go.Proofs.YthkaclhjopddcaaDoor.regsNames
open Go.ChangeShapes Go.WideShapes Go.ChangeAt Go.RowKit

theorem own : ownKnob Tryd.prog.godebug = none := by kernel_rfl
theorem g0 : Tryd.prog.globalNamed "math/bits.deBruijn32tab" = some 3 := by kernel_rfl
theorem gType0 : (Tryd.prog.globals[3]?).map (·.type) = some 107 := by kernel_rfl
theorem cells0 : Tryd.prog.cellsOf 107 = 32 := by kernel_rfl
theorem cellsE0 : Tryd.prog.cellsOf 5 = 1 := by kernel_rfl
def tab0 : List Int := [0, 1, 28, 2, 29, 14, 24, 3, 30, 22, 20, 15, 25, 17, 4, 8, 31, 27, 13, 23, 21, 19, 16, 7, 26, 12, 18, 6, 11, 5, 10, 9]
theorem table0 {W : World} (h : laidMetH Tryd.prog Rows.regsNamesRow.laid W) : Lib.TabIs Tryd.prog W "math/bits.deBruijn32tab" .u8 tab0 :=
  Lib.tabIs_of_head g0 gType0 Tryd.underlying107 Tryd.underlying5 cellsE0 cells0 (show laidMet Tryd.prog Rows.regsNamesRow.laid W from h)
theorem g1 : Tryd.prog.globalNamed "math/bits.deBruijn64tab" = some 4 := by kernel_rfl
theorem gType1 : (Tryd.prog.globals[4]?).map (·.type) = some 108 := by kernel_rfl
theorem cells1 : Tryd.prog.cellsOf 108 = 64 := by kernel_rfl
theorem cellsE1 : Tryd.prog.cellsOf 5 = 1 := by kernel_rfl
def tab1 : List Int := [0, 1, 56, 2, 57, 49, 28, 3, 61, 58, 42, 50, 38, 29, 17, 4, 62, 47, 59, 36, 45, 43, 51, 22, 53, 39, 33, 30, 24, 18, 12, 5, 63, 55, 48, 27, 60, 41, 37, 16, 46, 35, 44, 21, 52, 32, 23, 11, 54, 26, 40, 15, 34, 20, 31, 10, 25, 14, 19, 9, 13, 8, 7, 6]
theorem table1 {W : World} (h : laidMetH Tryd.prog Rows.regsNamesRow.laid W) : Lib.TabIs Tryd.prog W "math/bits.deBruijn64tab" .u8 tab1 :=
  Lib.tabIs_of_head g1 gType1 Tryd.underlying108 Tryd.underlying5 cellsE1 cells1 (AE.laidMet_tail (show laidMet Tryd.prog Rows.regsNamesRow.laid W from h))
theorem g2 : Tryd.prog.globalNamed "internal/strconv.uint64pow10" = some 1 := by kernel_rfl
theorem gType2 : (Tryd.prog.globals[1]?).map (·.type) = some 98 := by kernel_rfl
theorem cells2 : Tryd.prog.cellsOf 98 = 20 := by kernel_rfl
theorem cellsE2 : Tryd.prog.cellsOf 58 = 1 := by kernel_rfl
def tab2 : List Int := [1, 10, 100, 1000, 10000, 100000, 1000000, 10000000, 100000000, 1000000000, 10000000000, 100000000000, 1000000000000, 10000000000000, 100000000000000, 1000000000000000, 10000000000000000, 100000000000000000, 1000000000000000000, 10000000000000000000]
theorem table2 {W : World} (h : laidMetH Tryd.prog Rows.regsNamesRow.laid W) : Lib.TabIs Tryd.prog W "internal/strconv.uint64pow10" .u64 tab2 :=
  Lib.tabIs_of_head g2 gType2 Tryd.underlying98 Tryd.underlying58 cellsE2 cells2 (AE.laidMet_tail (AE.laidMet_tail (show laidMet Tryd.prog Rows.regsNamesRow.laid W from h)))
theorem g3 : Tryd.prog.globalNamed "pendulum/octet.table" = some 0 := by kernel_rfl
theorem gType3 : (Tryd.prog.globals[0]?).map (·.type) = some 75 := by kernel_rfl
theorem cells3 : Tryd.prog.cellsOf 75 = 16 := by kernel_rfl
theorem cellsE3 : Tryd.prog.cellsOf 22 = 1 := by kernel_rfl
def tab3 : List Int := [0, 4129, 8258, 12387, 16516, 20645, 24774, 28903, 33032, 37161, 41290, 45419, 49548, 53677, 57806, 61935]
theorem table3 {W : World} (h : laidMetH Tryd.prog Rows.regsNamesRow.laid W) : Lib.TabIs Tryd.prog W "pendulum/octet.table" .u16 tab3 :=
  Lib.tabIs_of_head g3 gType3 Tryd.underlying75 Tryd.underlying22 cellsE3 cells3 (AE.laidMet_tail (AE.laidMet_tail (AE.laidMet_tail (show laidMet Tryd.prog Rows.regsNamesRow.laid W from h))))
def tabs : AE.Tabs := [(3, tab0.map (.int .u8)), (4, tab1.map (.int .u8)), (1, tab2.map (.int .u64)), (0, tab3.map (.int .u16))]
theorem holds0 {W : World} (h : laidMetH Tryd.prog Rows.regsNamesRow.laid W) : AE.Holds0 tabs W := by
  intro t ht
  simp only [tabs, List.mem_cons, List.not_mem_nil, or_false] at ht
  rcases ht with rfl | rfl | rfl | rfl
  · exact AE.tab_holds (table0 h) g0 (by decide)
  · exact AE.tab_holds (table1 h) g1 (by decide)
  · exact AE.tab_holds (table2 h) g2 (by decide)
  · exact AE.tab_holds (table3 h) g3 (by decide)
theorem tabsOk : ∀ t ∈ tabs, t.2.all (fun v => AE.plain 8 v && AE.oneCell v) = true := by
  intro t ht
  simp only [tabs, List.mem_cons, List.not_mem_nil, or_false] at ht
  rcases ht with rfl | rfl | rfl | rfl
  · exact AE.tab_plain _ _
  · exact AE.tab_plain _ _
  · exact AE.tab_plain _ _
  · exact AE.tab_plain _ _

/-- THE EVALUATION, by the fast form of the evaluator. -/
theorem runF : AE.isV AE.isTrue (AE.F.runC Tryd.prog (AE.oneX 36 AE.joinX AE.noX) 10000 100 4 [] (AE.St0 tabs)) = true := by kernel_rfl
theorem run : AE.isV AE.isTrue (AE.callE Tryd.prog (AE.oneX 36 AE.joinX AE.noX) (AE.drawE Tryd.prog) 10000 100 4 [] (AE.St0 tabs)) = true := by
  rw [← AE.F.runC_eq]; exact runF

set_option maxRecDepth 100000 in
theorem contract (H : Type) (enc : TypeId × Value → H) (W : World) (base : Nat) (args : Array Value) (ds gs : List (DataW H)) (before : List MemPlace)
    (hval : ∀ (j : Nat) t v, Tryd.f4.params[j]? = some t → args[j]? = some v → Value.okWide Tryd.prog W .any base t v)
    (hW : DataW.Whole enc Tryd.prog Tryd.f4.params.toList Rows.regsNamesSpec.vars false W args.toList ds gs before) (hL : laidMetH Tryd.prog Rows.regsNamesRow.laid W) :
    Calls Tryd.prog 4 args W fun e W' => ∃ v, e = .returned v ∧ Rows.regsNamesSpec.post enc Tryd.prog Tryd.f4 false true false false W args v W' := by
  have hW' := hW
  obtain ⟨p, q, hA0, hV, rfl, hfz, hnd⟩ := hW
  have hA : DataW.TrodAll enc Tryd.prog W 0 (fun _ => true) true Tryd.f4.params.toList args.toList ds p := hA0
  rw [Tryd.params4] at hA hval
  obtain ⟨h1, rfl, rfl⟩ := trodAll_nil hA
  obtain rfl : args = #[] := by cases args; simp_all
  obtain ⟨rfl, rfl⟩ := trodVars_none hV
  clear hA0
  simp only [List.append_nil] at hW'
  refine (AE.closed (args := []) (AE.oneX_ok (AE.joinX_ok ⟨_, Tryd.func36, by kernel_rfl, by kernel_rfl⟩ Tryd.strings_Join) (AE.noX_ok _)) (AE.drawE_ok (by kernel_rfl)) rfl tabsOk (run ) W (holds0 hL)).mono fun e W' ⟨he, hb⟩ => ?_
  subst he
  exact ⟨_, rfl, _, _, _, [], [], [], hW', trodAll_cons_mk (shut_bool Tryd.underlying4 _) trodAll_mk0, rfl, rfl, hb.frame _, fun h => by cases h⟩

noncomputable def laidWorld (os : Os) : World :=
  { World.holding Tryd.prog os ⟨#[], #[], []⟩ with heap := (((((World.holding Tryd.prog os ⟨#[], #[], []⟩).heap.modify 3 fun | .cells _ t frozen => .cells (tab0.map (.int .u8)).toArray t frozen | o => o).modify 4 fun | .cells _ t frozen => .cells (tab1.map (.int .u8)).toArray t frozen | o => o).modify 1 fun | .cells _ t frozen => .cells (tab2.map (.int .u64)).toArray t frozen | o => o).modify 0 fun | .cells _ t frozen => .cells (tab3.map (.int .u16)).toArray t frozen | o => o) }
theorem laid_met (os : Os) : laidMet Tryd.prog Rows.regsNamesRow.laid ((laidWorld os).forCall (fun _ _ => 0) ⟨#[], #[], []⟩).memory :=
  laidMet_of_run' 8 (by kernel_rfl) (by kernel_rfl)
theorem reads (os : Os) {H : Type} (enc : TypeId × Value → H) : ∃ places, DataW.whole enc Tryd.prog ((laidWorld os).forCall (fun _ _ => 0) ⟨#[], #[], []⟩).memory Tryd.f4.params.toList Rows.regsNamesSpec.vars false (#[] : Array Value).toList 8 = some ([], [], places) :=
  ⟨[], by kernel_rfl⟩

set_option maxRecDepth 100000 in
theorem lifted (os : Os) (started : os.Started) (H : Type) (enc : TypeId × Value → H) (F : Stop.Interp) :
    ReturnsInHanded {} Tryd.checked os 4 .any ((OpenSpec.ofChange Rows.regsNamesSpec).preRow enc Tryd.prog Tryd.f4 Rows.regsNamesRow.domain false Rows.regsNamesRow.laid) (((OpenSpec.ofChange Rows.regsNamesSpec).at F).post enc Tryd.prog Tryd.f4 false true false false) := by
  obtain ⟨places, hx⟩ := reads os enc
  refine returnsInHanded_of_row (C := Tryd.checked) (s := OpenSpec.ofChange Rows.regsNamesSpec) own started (by kernel_rfl) Tryd.func4
    (witness_row_at (enc := enc) (C := Tryd.checked) false (laidWorld os) #[] rfl (by kernel_rfl) (by kernel_rfl) (by kernel_rfl)
      (OpenSpec.preRow_of_cond 8 hx (by kernel_rfl) (fun k hk => by cases hk) (by kernel_rfl) (laid_met os))) ?_
  intro W base args ds gs before hval hW _ _ _ hL _ _
  exact contract H enc W base args ds gs before hval hW hL

theorem said : Rows.RegsNamesSaid :=
  OpenClaim.holds_of_cond 4 Tryd.f4 rfl rfl rfl rfl rfl rfl rfl ⟨rfl, rfl, rfl, rfl, rfl⟩ rfl rfl rfl rfl rfl (by kernel_rfl) Tryd.func4 (by kernel_rfl)
    (of_decide_eq_true (by kernel_rfl)) (by unfold Func.isWrapper; first | (rw [if_pos (by decide +kernel)]; kernel_rfl) | (rw [if_neg (by decide +kernel)]; exact ⟨rfl, rfl⟩))
    (fun os started H enc _ F => by rw [OpenClaim.pre_eq_preRow]; exact lifted os started H enc F)

theorem plain (f : FuncId) (fn : Func) (hf : Tryd.pinned.checked.prog.funcNamed "pendulum/pendulumlaw08.RegsNames" = some f) (hfn : Tryd.pinned.checked.prog.funcs[f]? = some fn) :
    false = Tryd.pinned.checked.prog.looks [] ∧ ∀ (j : Nat) t, fn.params[j]? = some t → Tryd.pinned.checked.prog.wantsStandIn t = false := by
  obtain rfl : f = 4 := Option.some.inj ((show Tryd.prog.funcNamed "pendulum/pendulumlaw08.RegsNames" = some 4 by kernel_rfl).symm.trans hf) |>.symm
  obtain rfl : fn = Tryd.f4 := (Option.some.inj (Tryd.func4.symm.trans hfn)).symm
  refine ⟨by kernel_rfl, fun j t ht => ?_⟩
  rw [Tryd.params4] at ht
  simp at ht

theorem card : Rows.RegsNamesCardSaid :=
  Claim7.holds_tied_plain_at .later [] _ _ _ _ said (fun _ h => by cases h) (by kernel_rfl) (fun _ h => by cases h) regsNames_row_tie rfl ⟨rfl, rfl⟩ (by kernel_rfl) rfl plain (by kernel_rfl)
#print axioms card
end Go.Proofs.YthkaclhjopddcaaDoor.regsNames
