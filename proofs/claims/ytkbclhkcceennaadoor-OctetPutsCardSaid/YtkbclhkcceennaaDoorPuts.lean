/-
  NUMBERS, BLOCKS AND SUMS ARE WHAT THE DOCUMENT SAYS: the law OctetPuts answers true, for both rows of bytes and both numbers, from whatever memory in which the program's table lies as its text lays it.
  BY A WALK: the texts ..Ae* define an evaluator of the program's code over states that stand for worlds, and prove that what it finds is what the model does, whatever the tape answers; the texts ..Oc* walk the law's functions with it.
-/
import Derived.Test.YtkbclhkcceennaaDoorCards
import Derived.Test.YtkbclhkcceennaaDoorTie
import Derived.WalkKit
import Derived.ProofKit
import Derived.OpenShut
import Derived.Deep.DeepHandedRow
import Derived.Lib.LaidTab
import Derived.Test.YtkbclhkcceennaaDoorOcV
import Derived.Test.YtkbclhkcceennaaDoorAeE
set_option linter.unusedVariables false
namespace Go.Proofs.YtkbclhkcceennaaDoor.octetPuts
open Go.ChangeShapes Go.WideShapes Go.ChangeAt Go.RowKit

theorem own : ownKnob Tryd.prog.godebug = none := by kernel_rfl
theorem laidOut : laidOutB Tryd.prog = true := by kernel_rfl
theorem g0 : Tryd.prog.globalNamed "pendulum/octet.table" = some 0 := by kernel_rfl
theorem gType0 : (Tryd.prog.globals[0]?).map (·.type) = some 51 := by kernel_rfl
theorem cells0 : Tryd.prog.cellsOf 51 = 16 := by kernel_rfl
theorem cellsE0 : Tryd.prog.cellsOf 23 = 1 := by kernel_rfl
def tab0 : List Int := [0, 4129, 8258, 12387, 16516, 20645, 24774, 28903, 33032, 37161, 41290, 45419, 49548, 53677, 57806, 61935]
theorem table0 {W : World} (h : laidMetH Tryd.prog Rows.octetPutsRow.laid W) : Lib.TabIs Tryd.prog W "pendulum/octet.table" .u16 tab0 :=
  Lib.tabIs_of_head g0 gType0 Tryd.underlying51 Tryd.underlying23 cellsE0 cells0 (show laidMet Tryd.prog Rows.octetPutsRow.laid W from h)
def tabs : AE.Tabs := [(0, tab0.map (.int .u16))]
theorem holds0 {W : World} (h : laidMetH Tryd.prog Rows.octetPutsRow.laid W) : AE.Holds0 tabs W := by
  intro t ht
  simp only [tabs, List.mem_cons, List.not_mem_nil, or_false] at ht
  rcases ht with rfl
  · exact AE.tab_holds (table0 h) g0 (by decide)
theorem tabsOk : ∀ t ∈ tabs, t.2.all (fun v => AE.plain 8 v && AE.oneCell v) = true := by
  intro t ht
  simp only [tabs, List.mem_cons, List.not_mem_nil, or_false] at ht
  rcases ht with rfl
  · exact AE.tab_plain _ _

theorem tabS {W : World} (h : laidMetH Tryd.prog Rows.octetPutsRow.laid W) : oc.TabS (AE.absS W) := by
  intro i hi
  have e : tab0 = oc.tab.map fun (n : Nat) => (n : Int) := by decide
  refine AE.absS_load ((holds0 h (0, tab0.map (.int .u16)) (by simp [tabs])).2 i (.int .u16 ((oc.tab.getD i 0 : Nat) : Int)) ?_) rfl
  have hl : i < oc.tab.length := hi
  rw [e, List.getElem?_map, List.getElem?_map, List.getElem?_eq_getElem hl, List.getD_eq_getElem?_getD, List.getElem?_eq_getElem hl]
  rfl

set_option maxRecDepth 100000 in
theorem contract (H : Type) (enc : TypeId × Value → H) (W : World) (base : Nat) (args : Array Value) (ds gs : List (DataW H)) (before : List MemPlace)
    (hval : ∀ (j : Nat) t v, Tryd.f5.params[j]? = some t → args[j]? = some v → Value.okWide Tryd.prog W .any base t v)
    (hW : DataW.Whole enc Tryd.prog Tryd.f5.params.toList Rows.octetPutsSpec.vars false W args.toList ds gs before) (hL : laidMetH Tryd.prog Rows.octetPutsRow.laid W) :
    Calls Tryd.prog 5 args W fun e W' => ∃ v, e = .returned v ∧ Rows.octetPutsSpec.post enc Tryd.prog Tryd.f5 false true false false W args v W' := by
  have hW' := hW
  obtain ⟨p, q, hA0, hV, rfl, hfz, hnd⟩ := hW
  have hA : DataW.TrodAll enc Tryd.prog W 0 (fun _ => true) true Tryd.f5.params.toList args.toList ds p := hA0
  rw [Tryd.params5] at hA hval
  obtain ⟨v0, vs0, d0, ds0, p0, q0, hargs, rfl, rfl, h0, r0⟩ := trodAll_cons hA
  obtain ⟨v1, vs1, d1, ds1, p1, q1, rfl, rfl, rfl, h1, r1⟩ := trodAll_cons r0
  obtain ⟨v2, vs2, d2, ds2, p2, q2, rfl, rfl, rfl, h2, r2⟩ := trodAll_cons r1
  obtain ⟨v3, vs3, d3, ds3, p3, q3, rfl, rfl, rfl, h3, r3⟩ := trodAll_cons r2
  obtain ⟨rfl, rfl, rfl⟩ := trodAll_nil r3
  obtain rfl : args = #[v0, v1, v2, v3] := Array.ext' hargs
  obtain ⟨rfl, rfl⟩ := trodVars_none hV
  obtain ⟨u0, l0, hb0, hc0, hv0⟩ := AE.open_bytes oc.u8T (show Tryd.prog.cellsOf 5 = 1 by kernel_rfl) (hval 0 22 v0 rfl rfl) h0
  obtain ⟨x1, rfl, rfl, rfl, wx1⟩ := open_int Tryd.underlying33 (hval 1 33 v1 rfl rfl) h1
  obtain ⟨x2, rfl, rfl, rfl, wx2⟩ := open_int Tryd.underlying2 (hval 2 2 v2 rfl rfl) h2
  obtain ⟨u3, l3, hb3, hc3, hv3⟩ := AE.open_bytes oc.u8T (show Tryd.prog.cellsOf 5 = 1 by kernel_rfl) (hval 3 22 v3 rfl rfl) h3
  clear hA0
  simp only [List.append_nil] at hW'
  obtain ⟨n1, rfl, hn1⟩ : ∃ w : Nat, x1 = w ∧ w < 18446744073709551616 := by
    simp [Lit.wf, IntKind.min, IntKind.max, IntKind.signed, IntKind.bits] at wx1
    exact ⟨x1.toNat, by omega, by omega⟩
  have hy : -9223372036854775808 ≤ x2 ∧ x2 ≤ 9223372036854775807 := by
    simpa [Lit.wf, IntKind.min, IntKind.max, IntKind.signed, IntKind.bits] using wx2
  refine (AE.enter (oc.puts_ok u0 u3 l0 l3 n1 x2 _ (AE.absS_wf W) (tabS hL) hb0 hb3 hn1 hy.1 hy.2) (AE.VRs.cons hv0 (AE.VRs.cons (.int _ _) (AE.VRs.cons (.int _ _) (AE.VRs.cons hv3 (AE.VRs.nil _)))))).mono fun e W' ⟨he, hb⟩ => ?_
  subst he
  exact ⟨_, rfl, _, _, _, [], _, [], hW', trodAll_cons_mk (shut_bool Tryd.underlying4 _) trodAll_mk0, (trodAll_cons_mk (Below.trod laidOut (show Tryd.prog.readableRec 22 = true by kernel_rfl) (show 22 < Tryd.prog.types.size from of_decide_eq_true (by kernel_rfl)) h0 hb (fun x hx => let ⟨n, hn⟩ := h0; DataW.trod_lt n _ _ _ hn x hx)) (trodAll_cons_mk (shut_int Tryd.underlying33 wx1) (trodAll_cons_mk (shut_int Tryd.underlying2 wx2) (trodAll_cons_mk (Below.trod laidOut (show Tryd.prog.readableRec 22 = true by kernel_rfl) (show 22 < Tryd.prog.types.size from of_decide_eq_true (by kernel_rfl)) h3 hb (fun x hx => let ⟨n, hn⟩ := h3; DataW.trod_lt n _ _ _ hn x hx)) trodAll_mk0)))), rfl, hb.frame _, fun h => by cases h⟩

noncomputable def laidWorld (os : Os) : World :=
  { World.holding Tryd.prog os ⟨#[], #[], []⟩ with heap := ((World.holding Tryd.prog os ⟨#[], #[], []⟩).heap.modify 0 fun | .cells _ t frozen => .cells (tab0.map (.int .u16)).toArray t frozen | o => o) }
theorem laid_met (os : Os) : laidMet Tryd.prog Rows.octetPutsRow.laid ((laidWorld os).forCall (fun _ _ => 0) ⟨#[], #[.slice none 0 0, .int .u64 0, .int .i64 0, .slice none 0 0], []⟩).memory :=
  laidMet_of_run' 8 (by kernel_rfl) (by kernel_rfl)
theorem reads (os : Os) {H : Type} (enc : TypeId × Value → H) : ∃ places, DataW.whole enc Tryd.prog ((laidWorld os).forCall (fun _ _ => 0) ⟨#[], #[.slice none 0 0, .int .u64 0, .int .i64 0, .slice none 0 0], []⟩).memory Tryd.f5.params.toList Rows.octetPutsSpec.vars false (#[.slice none 0 0, .int .u64 0, .int .i64 0, .slice none 0 0] : Array Value).toList 8 = some ([.nil, .lit (.int .u64 0), .lit (.int .i64 0), .nil], [], places) :=
  ⟨[], by kernel_rfl⟩

set_option maxRecDepth 100000 in
theorem lifted (os : Os) (started : os.Started) (H : Type) (enc : TypeId × Value → H) (F : Stop.Interp) :
    ReturnsInHanded {} Tryd.checked os 5 .any ((OpenSpec.ofChange Rows.octetPutsSpec).preRow enc Tryd.prog Tryd.f5 Rows.octetPutsRow.domain false Rows.octetPutsRow.laid) (((OpenSpec.ofChange Rows.octetPutsSpec).at F).post enc Tryd.prog Tryd.f5 false true false false) := by
  obtain ⟨places, hx⟩ := reads os enc
  refine returnsInHanded_of_row (C := Tryd.checked) (s := OpenSpec.ofChange Rows.octetPutsSpec) own started (by kernel_rfl) Tryd.func5
    (witness_row_at (enc := enc) (C := Tryd.checked) false (laidWorld os) #[.slice none 0 0, .int .u64 0, .int .i64 0, .slice none 0 0] rfl (by kernel_rfl) (by kernel_rfl) (by kernel_rfl)
      (OpenSpec.preRow_of_cond 8 hx (by kernel_rfl) (fun k hk => by cases hk) (by kernel_rfl) (laid_met os))) ?_
  intro W base args ds gs before hval hW _ _ _ hL _ _
  exact contract H enc W base args ds gs before hval hW hL

theorem said : Rows.OctetPutsSaid :=
  OpenClaim.holds_of_cond 5 Tryd.f5 rfl rfl rfl rfl rfl rfl rfl ⟨rfl, rfl, rfl, rfl, rfl⟩ rfl rfl rfl rfl rfl (by kernel_rfl) Tryd.func5 (by kernel_rfl)
    (of_decide_eq_true (by kernel_rfl)) (by unfold Func.isWrapper; first | (rw [if_pos (by decide +kernel)]; kernel_rfl) | (rw [if_neg (by decide +kernel)]; exact ⟨rfl, rfl⟩))
    (fun os started H enc _ F => by rw [OpenClaim.pre_eq_preRow]; exact lifted os started H enc F)

theorem plain (f : FuncId) (fn : Func) (hf : Tryd.pinned.checked.prog.funcNamed "pendulum/pendulumlaw01.OctetPuts" = some f) (hfn : Tryd.pinned.checked.prog.funcs[f]? = some fn) :
    false = Tryd.pinned.checked.prog.looks [] ∧ ∀ (j : Nat) t, fn.params[j]? = some t → Tryd.pinned.checked.prog.wantsStandIn t = false := by
  obtain rfl : f = 5 := Option.some.inj ((show Tryd.prog.funcNamed "pendulum/pendulumlaw01.OctetPuts" = some 5 by kernel_rfl).symm.trans hf) |>.symm
  obtain rfl : fn = Tryd.f5 := (Option.some.inj (Tryd.func5.symm.trans hfn)).symm
  refine ⟨by kernel_rfl, fun j t ht => ?_⟩
  rw [Tryd.params5] at ht
  have hm := Array.mem_of_getElem? ht
  simp only [List.mem_toArray, List.mem_cons, List.not_mem_nil, or_false] at hm
  rcases hm with rfl | rfl | rfl | rfl
  · exact (show Tryd.prog.wantsStandIn 22 = false by kernel_rfl)
  · exact (show Tryd.prog.wantsStandIn 33 = false by kernel_rfl)
  · exact (show Tryd.prog.wantsStandIn 2 = false by kernel_rfl)
  · exact (show Tryd.prog.wantsStandIn 22 = false by kernel_rfl)

theorem card : Rows.OctetPutsCardSaid :=
  Claim7.holds_tied_plain_at .later [] _ _ _ _ said (fun _ h => by cases h) (by kernel_rfl) (fun _ h => by cases h) octetPuts_row_tie rfl ⟨rfl, rfl⟩ (by kernel_rfl) rfl plain (by kernel_rfl)
#print axioms card
end Go.Proofs.YtkbclhkcceennaaDoor.octetPuts
