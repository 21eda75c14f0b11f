import Derived.Test.YtkbclhkcceennaaDoorOcR
import Derived.Test.YtkbclhkcceennaaDoorAeL
set_option linter.unusedVariables false
set_option linter.unusedSimpArgs false
/-! lives; pendulumkit.Pick -/
namespace Go.Proofs.YtkbclhkcceennaaDoor.oc
open Go Go.AE

def tabs : Tabs := [(0, tab.map fun (n : Nat) => .int .u16 (n : Int))]
theorem tabsS {s : St} (h : TabS s) : TabsS tabs s := by
  intro t ht
  obtain rfl : t = (0, tab.map fun (n : Nat) => .int .u16 (n : Int)) := by simpa [tabs] using ht
  refine ⟨by simp [tab], fun i v hv => ?_⟩
  rw [List.getElem?_map] at hv
  cases hi : tab[i]? with
  | none => rw [hi] at hv; cases hv
  | some n =>
    rw [hi] at hv
    have hlt : i < 16 := by
      rcases Nat.lt_or_ge i tab.length with h' | h'
      · exact h'
      · rw [List.getElem?_eq_none h'] at hi; cases hi
    have := h i hlt
    rw [List.getD_eq_getElem?_getD, hi] at this
    rw [← Option.some.inj hv]; exact this
theorem tabsOk : ∀ t ∈ tabs, t.2.all (fun v => plain 8 v && oneCell v) = true := by
  intro t ht
  obtain rfl : t = (0, tab.map fun (n : Nat) => .int .u16 (n : Int)) := by simpa [tabs] using ht
  decide
theorem tabsFlat : ∀ t ∈ tabs, t.2.all flat = true := by
  intro t ht
  obtain rfl : t = (0, tab.map fun (n : Nat) => .int .u16 (n : Int)) := by simpa [tabs] using ht
  decide
theorem livesRun : isV isTrue (callE Tryd.prog noX noDraw 10000 100 9 [] (St0 tabs)) = true := by kernel_rfl
theorem lives_ok {s : St} (h : TabS s) : CallT Tryd.prog 9 [] s fun v s' => v = .bool true ∧ s' = s :=
  closedT (noX_ok _) (noDraw_ok _) Tryd.func9 (by kernel_rfl) (by kernel_rfl) tabsOk tabsFlat livesRun (tabsS h)

theorem pick_ok (x : Int) (n : Nat) (s : St) (hn : 0 < n) (hn2 : n ≤ 1099511627776) : CallT Tryd.prog 11 [.int .i64 x, .int .i64 n] s fun r s' => s' = s ∧ ∃ k : Nat, k < n ∧ r = .int .i64 k := by
  refine callT_wp Tryd.func11 rfl (by kernel_rfl) (by kernel_rfl) (by kernel_rfl) ?_
  unfold Tryd.f11
  simp only [↓wpKC_eq, ↓wpC_skip, ↓wpC_reg, ↓wpC_draw, ↓wpC_seq, ↓wpC_cond, ↓wpC_block, ↓wpC_loop, ↓wpC_exit, ↓wpC_ret, ↓wpL_nil, ↓wpL_go, ↓wpL_gd, slotOp_some, gateV_lit, List.getElem?_toArray, List.getElem?_cons_succ, List.getElem?_cons_zero, if_tt, if_ff, if_tf, if_ft, ↓wpO_eq, ↓wpK_eq, ↓wpOp_move, ↓wpOp_assign, wpOp_pick, wpOp_alloc, wpOp_box, wpOp_load, wpOp_store, wpOp_nil, wpOp_faddr, wpOp_iaddr, wpOp_field, wpOp_index, wpOp_extract, wpOp_build, wpOp_bslice, wpOp_mslice, wpOp_bin, wpOp_un, wpOp_conv, wpOp_append, wpOp_len, wpOp_copy, wpOp_slice, wpOp_mfunc, wpOp_call, setD_some, setD_none, ρof_tmp, ρof_const, ρof_global, ρof_func, slotV_set, setCells, ↓seqQ_normal, ↓seqQ_exit, ↓seqQ_ret, ↓blockQ_normal, ↓blockQ_exit, ↓blockQ_ret, ↓retQ_ret, ↓retQ_normal, resV_tmp, resV_tmp2, bindP_some, fnP'_func, evBin_int, evUn_not, evUn_neg, evUn_xor, binI_add, binI_sub, binI_mul, binI_eql, binI_neq, binI_lss, binI_leq, binI_gtr, binI_geq, Nat.reduceEqDiff, reduceIte, Option.bind_some, List.map_nil, List.map_cons, List.nil_append, List.append_nil, condP_dec, condP_true, condP_false]
  have h1 : ¬ (n : Int) < 1 := by omega
  have h2 : ((n : Int)) ≠ 0 := by omega
  have hb1 := Int.tmod_lt_of_pos x (show (0 : Int) < n by omega)
  have hb2 : -(n : Int) < x.tmod n := by
    have := Int.lt_tmod_of_pos x (show (0 : Int) < n by omega)
    omega
  rw [if_neg h1]
  simp only [↓wpKC_eq, ↓wpC_skip, ↓wpC_reg, ↓wpC_draw, ↓wpC_seq, ↓wpC_cond, ↓wpC_block, ↓wpC_loop, ↓wpC_exit, ↓wpC_ret, ↓wpL_nil, ↓wpL_go, ↓wpL_gd, slotOp_some, gateV_lit, List.getElem?_toArray, List.getElem?_cons_succ, List.getElem?_cons_zero, if_tt, if_ff, if_tf, if_ft, ↓wpO_eq, ↓wpK_eq, ↓wpOp_move, ↓wpOp_assign, wpOp_pick, wpOp_alloc, wpOp_box, wpOp_load, wpOp_store, wpOp_nil, wpOp_faddr, wpOp_iaddr, wpOp_field, wpOp_index, wpOp_extract, wpOp_build, wpOp_bslice, wpOp_mslice, wpOp_bin, wpOp_un, wpOp_conv, wpOp_append, wpOp_len, wpOp_copy, wpOp_slice, wpOp_mfunc, wpOp_call, setD_some, setD_none, ρof_tmp, ρof_const, ρof_global, ρof_func, slotV_set, setCells, ↓seqQ_normal, ↓seqQ_exit, ↓seqQ_ret, ↓blockQ_normal, ↓blockQ_exit, ↓blockQ_ret, ↓retQ_ret, ↓retQ_normal, resV_tmp, resV_tmp2, bindP_some, fnP'_func, evBin_int, evUn_not, evUn_neg, evUn_xor, binI_add, binI_sub, binI_mul, binI_eql, binI_neq, binI_lss, binI_leq, binI_gtr, binI_geq, Nat.reduceEqDiff, reduceIte, Option.bind_some, List.map_nil, List.map_cons, List.nil_append, List.append_nil, condP_dec, condP_true, condP_false, binI_rem _ _ _ h2]
  split
  · rename_i hneg
    refine ⟨trivial, (x.tmod n + n).toNat, by omega, ?_⟩
    rw [wrap_i64 (by omega) (by omega), Int.toNat_of_nonneg (by omega)]
  · rename_i hneg
    refine ⟨trivial, (x.tmod n).toNat, by omega, ?_⟩
    rw [Int.toNat_of_nonneg (by omega)]
end Go.Proofs.YtkbclhkcceennaaDoor.oc
