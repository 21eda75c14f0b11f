import Derived.Test.YtkbclhkcceennaaDoorOcA
import Derived.Test.YtkbclhkcceennaaDoorOcP
set_option linter.unusedVariables false
set_option linter.unusedSimpArgs false
/-! octet.Sum, and the document's. -/
namespace Go.Proofs.YtkbclhkcceennaaDoor.oc
open Go Go.AE

/-- The program's table lies there. -/
def TabS (s : St) : Prop := ∀ i, i < 16 → s.load ⟨2 * 0 + 1, i, none⟩ = some (.int .u16 ((tab.getD i 0 : Nat) : Int))
theorem TabS.grows {s s' : St} (h : TabS s) (g : Grows s s') : TabS s' := fun i hi => load_grows g (h i hi)

theorem agg43 : isAggT Tryd.prog 22 = some false := by kernel_rfl
theorem agg5 : isAggT Tryd.prog 5 = some false := by kernel_rfl
theorem agg23 : isAggT Tryd.prog 23 = some false := by kernel_rfl
theorem sz22 : sizeT Tryd.prog 22 = some 1 := by kernel_rfl
theorem sz5 : sizeT Tryd.prog 5 = some 1 := by kernel_rfl
theorem sz23 : sizeT Tryd.prog 23 = some 1 := by kernel_rfl

theorem u8_u16 (x : UInt8) : IntKind.u16.wrap (x.toNat : Int) = (x.toNat : Int) := wrap_u16 (by have := x.toNat_lt; omega)

theorem tab_idx {x : Nat} (hx : x < 65536) (s : St) : eIndexAddr Tryd.prog 51 (.pointer (some ⟨2 * 0 + 1, 0, none⟩)) (.int .u16 ((x / 2 ^ 12 : Nat) : Int)) s = some (.pointer (some ⟨2 * 0 + 1, x / 2 ^ 12, none⟩), s) := by
  rw [idx_arr Tryd.underlying51 sz23 (show x / 2 ^ 12 < 16 by omega)]
  rw [Addr.add]
  simp only [Nat.zero_add]
  split
  · rename_i h; rw [h]
  · rfl
theorem tab_load {s : St} (ht : TabS s) {x : Nat} (hx : x < 65536) : eLoad Tryd.prog 23 (.pointer (some ⟨2 * 0 + 1, x / 2 ^ 12, none⟩)) s = some (.int .u16 ((tab.getD (x / 2 ^ 12) 0 : Nat) : Int), s) :=
  load_one agg23 (ht _ (by omega))
theorem sum_ok (v : Value) (ls : List (List UInt8)) (s : St) (hr : RowsB s v ls) (ht : TabS s) (hl : ls.length ≤ 1000) (hl2 : ∀ l ∈ ls, l.length ≤ 1099511627776) : CallT Tryd.prog 12 [v] s fun r s' => s' = s ∧ r = .int .u16 ((sumT 65535 ls.flatten : Nat) : Int) := by
  have hr0 := hr
  obtain ⟨a, c, vs, rfl, h2, h3, h4⟩ := hr
  refine callT_wp Tryd.func12 rfl (by kernel_rfl) (by kernel_rfl) (by kernel_rfl) ?_
  unfold Tryd.f12
  simp only [↓wpKC_eq, ↓wpC_skip, ↓wpC_reg, ↓wpC_draw, ↓wpC_seq, ↓wpC_cond, ↓wpC_block, ↓wpC_loop, ↓wpC_exit, ↓wpC_ret, ↓wpL_nil, ↓wpL_go, ↓wpL_gd, slotOp_some, gateV_lit, List.getElem?_toArray, List.getElem?_cons_succ, List.getElem?_cons_zero, if_tt, if_ff, if_tf, if_ft, ↓wpO_eq, ↓wpK_eq, ↓wpOp_move, ↓wpOp_assign, wpOp_pick, wpOp_alloc, wpOp_box, wpOp_load, wpOp_store, wpOp_nil, wpOp_faddr, wpOp_iaddr, wpOp_field, wpOp_index, wpOp_extract, wpOp_build, wpOp_bslice, wpOp_mslice, wpOp_bin, wpOp_un, wpOp_conv, wpOp_append, wpOp_len, wpOp_copy, wpOp_slice, wpOp_mfunc, wpOp_call, setD_some, setD_none, ρof_tmp, ρof_const, ρof_global, ρof_func, slotV_set, setCells, ↓seqQ_normal, ↓seqQ_exit, ↓seqQ_ret, ↓blockQ_normal, ↓blockQ_exit, ↓blockQ_ret, ↓retQ_ret, ↓retQ_normal, resV_tmp, resV_tmp2, bindP_some, fnP'_func, evBin_int, evUn_not, evUn_neg, evUn_xor, binI_add, binI_sub, binI_mul, binI_eql, binI_neq, binI_lss, binI_leq, binI_gtr, binI_geq, Nat.reduceEqDiff, reduceIte, Option.bind_some, List.map_nil, List.map_cons, List.nil_append, List.append_nil, condP_dec, condP_true, condP_false, len_slice Tryd.underlying43]
  refine loopT (fun n t s' => ∃ (i x : Nat), n = ls.length - i ∧ i ≤ ls.length ∧ s' = s ∧ slotV t 8 = .slice (some a) ls.length c ∧ slotV t 9 = .int .i64 ls.length ∧ slotV t 10 = .int .i64 i ∧ slotV t 3 = .int .u16 x ∧ x = sumT 65535 (ls.take i).flatten) ?_ ls.length _ _
    ⟨0, 65535, by simp, Nat.zero_le _, rfl, by simp [slotV_set], by simp [slotV_set], by simp [slotV_set], by simp [slotV_set], by simp [sumT]⟩
  rintro n t s1 ⟨i, x, rfl, hi, rfl, h8, h9, h10, h3', hx⟩
  refine wpC_sound _ _ _ _ (by kernel_rfl) ?_
  simp only [↓wpKC_eq, ↓wpC_skip, ↓wpC_reg, ↓wpC_draw, ↓wpC_seq, ↓wpC_cond, ↓wpC_block, ↓wpC_loop, ↓wpC_exit, ↓wpC_ret, ↓wpL_nil, ↓wpL_go, ↓wpL_gd, slotOp_some, gateV_lit, List.getElem?_toArray, List.getElem?_cons_succ, List.getElem?_cons_zero, if_tt, if_ff, if_tf, if_ft, ↓wpO_eq, ↓wpK_eq, ↓wpOp_move, ↓wpOp_assign, wpOp_pick, wpOp_alloc, wpOp_box, wpOp_load, wpOp_store, wpOp_nil, wpOp_faddr, wpOp_iaddr, wpOp_field, wpOp_index, wpOp_extract, wpOp_build, wpOp_bslice, wpOp_mslice, wpOp_bin, wpOp_un, wpOp_conv, wpOp_append, wpOp_len, wpOp_copy, wpOp_slice, wpOp_mfunc, wpOp_call, setD_some, setD_none, ρof_tmp, ρof_const, ρof_global, ρof_func, slotV_set, setCells, ↓seqQ_normal, ↓seqQ_exit, ↓seqQ_ret, ↓blockQ_normal, ↓blockQ_exit, ↓blockQ_ret, ↓retQ_ret, ↓retQ_normal, resV_tmp, resV_tmp2, bindP_some, fnP'_func, evBin_int, evUn_not, evUn_neg, evUn_xor, binI_add, binI_sub, binI_mul, binI_eql, binI_neq, binI_lss, binI_leq, binI_gtr, binI_geq, Nat.reduceEqDiff, reduceIte, Option.bind_some, List.map_nil, List.map_cons, List.nil_append, List.append_nil, condP_dec, condP_true, condP_false, h8, h9, h10, h3']
  split
  · rename_i hlt
    have hlt' : i < ls.length := by omega
    obtain ⟨l, hil⟩ : ∃ l, ls[i]? = some l := ⟨ls[i], List.getElem?_eq_getElem hlt'⟩
    obtain ⟨u, hu, hub⟩ := hr0.at hil
    rw [idx_slice Tryd.underlying43 sz22 hlt']
    simp only [↓wpKC_eq, ↓wpC_skip, ↓wpC_reg, ↓wpC_draw, ↓wpC_seq, ↓wpC_cond, ↓wpC_block, ↓wpC_loop, ↓wpC_exit, ↓wpC_ret, ↓wpL_nil, ↓wpL_go, ↓wpL_gd, slotOp_some, gateV_lit, List.getElem?_toArray, List.getElem?_cons_succ, List.getElem?_cons_zero, if_tt, if_ff, if_tf, if_ft, ↓wpO_eq, ↓wpK_eq, ↓wpOp_move, ↓wpOp_assign, wpOp_pick, wpOp_alloc, wpOp_box, wpOp_load, wpOp_store, wpOp_nil, wpOp_faddr, wpOp_iaddr, wpOp_field, wpOp_index, wpOp_extract, wpOp_build, wpOp_bslice, wpOp_mslice, wpOp_bin, wpOp_un, wpOp_conv, wpOp_append, wpOp_len, wpOp_copy, wpOp_slice, wpOp_mfunc, wpOp_call, setD_some, setD_none, ρof_tmp, ρof_const, ρof_global, ρof_func, slotV_set, setCells, ↓seqQ_normal, ↓seqQ_exit, ↓seqQ_ret, ↓blockQ_normal, ↓blockQ_exit, ↓blockQ_ret, ↓retQ_ret, ↓retQ_normal, resV_tmp, resV_tmp2, bindP_some, fnP'_func, evBin_int, evUn_not, evUn_neg, evUn_xor, binI_add, binI_sub, binI_mul, binI_eql, binI_neq, binI_lss, binI_leq, binI_gtr, binI_geq, Nat.reduceEqDiff, reduceIte, Option.bind_some, List.map_nil, List.map_cons, List.nil_append, List.append_nil, condP_dec, condP_true, condP_false, load_one agg43 hu, h8, h9, h10, h3', len_bytes u8T hub]
    refine loopT (fun n t s' => ∃ (j y : Nat), n = l.length - j ∧ j ≤ l.length ∧ s' = s1 ∧ slotV t 8 = .slice (some a) ls.length c ∧ slotV t 9 = .int .i64 ls.length ∧ slotV t 10 = .int .i64 i ∧ slotV t 14 = u ∧ slotV t 15 = .int .i64 l.length ∧ slotV t 16 = .int .i64 j ∧ slotV t 3 = .int .u16 y ∧ y = sumT x (l.take j)) ?_ l.length _ _
      ⟨0, x, by simp, Nat.zero_le _, rfl, by simp [slotV_set, h8], by simp [slotV_set, h9], by simp [slotV_set, h10], by simp [slotV_set], by simp [slotV_set], by simp [slotV_set], by simp [slotV_set, h3'], by simp [sumT]⟩
    rintro n t s2 ⟨j, y, rfl, hj, rfl, h8, h9, h10, h14, h15, h16, h3', hy⟩
    refine wpC_sound _ _ _ _ (by kernel_rfl) ?_
    simp only [↓wpKC_eq, ↓wpC_skip, ↓wpC_reg, ↓wpC_draw, ↓wpC_seq, ↓wpC_cond, ↓wpC_block, ↓wpC_loop, ↓wpC_exit, ↓wpC_ret, ↓wpL_nil, ↓wpL_go, ↓wpL_gd, slotOp_some, gateV_lit, List.getElem?_toArray, List.getElem?_cons_succ, List.getElem?_cons_zero, if_tt, if_ff, if_tf, if_ft, ↓wpO_eq, ↓wpK_eq, ↓wpOp_move, ↓wpOp_assign, wpOp_pick, wpOp_alloc, wpOp_box, wpOp_load, wpOp_store, wpOp_nil, wpOp_faddr, wpOp_iaddr, wpOp_field, wpOp_index, wpOp_extract, wpOp_build, wpOp_bslice, wpOp_mslice, wpOp_bin, wpOp_un, wpOp_conv, wpOp_append, wpOp_len, wpOp_copy, wpOp_slice, wpOp_mfunc, wpOp_call, setD_some, setD_none, ρof_tmp, ρof_const, ρof_global, ρof_func, slotV_set, setCells, ↓seqQ_normal, ↓seqQ_exit, ↓seqQ_ret, ↓blockQ_normal, ↓blockQ_exit, ↓blockQ_ret, ↓retQ_ret, ↓retQ_normal, resV_tmp, resV_tmp2, bindP_some, fnP'_func, evBin_int, evUn_not, evUn_neg, evUn_xor, binI_add, binI_sub, binI_mul, binI_eql, binI_neq, binI_lss, binI_leq, binI_gtr, binI_geq, Nat.reduceEqDiff, reduceIte, Option.bind_some, List.map_nil, List.map_cons, List.nil_append, List.append_nil, condP_dec, condP_true, condP_false, h8, h9, h10, h3', h14, h15, h16]
    have hl2i := hl2 l (List.mem_of_getElem? hil)
    have hx65 : x < 65536 := by rw [hx]; exact sumT_lt _ (by decide)
    have hy65 : y < 65536 := by rw [hy]; exact sumT_lt _ hx65
    split
    · rename_i hlt2
      have hlt2' : j < l.length := by omega
      obtain ⟨b, hjb⟩ : ∃ b, l[j]? = some b := ⟨l[j], List.getElem?_eq_getElem hlt2'⟩
      obtain ⟨bu, bn, bc, rfl⟩ : ∃ a n c, u = .slice (some a) n c := by
        rcases hub with ⟨_, rfl⟩ | ⟨a', c', hv, _⟩
        · cases hjb
        · exact ⟨_, _, _, hv⟩
      rw [idx_slice Tryd.underlying22 sz5 (by have := hub.len; omega)]
      simp only [↓wpKC_eq, ↓wpC_skip, ↓wpC_reg, ↓wpC_draw, ↓wpC_seq, ↓wpC_cond, ↓wpC_block, ↓wpC_loop, ↓wpC_exit, ↓wpC_ret, ↓wpL_nil, ↓wpL_go, ↓wpL_gd, slotOp_some, gateV_lit, List.getElem?_toArray, List.getElem?_cons_succ, List.getElem?_cons_zero, if_tt, if_ff, if_tf, if_ft, ↓wpO_eq, ↓wpK_eq, ↓wpOp_move, ↓wpOp_assign, wpOp_pick, wpOp_alloc, wpOp_box, wpOp_load, wpOp_store, wpOp_nil, wpOp_faddr, wpOp_iaddr, wpOp_field, wpOp_index, wpOp_extract, wpOp_build, wpOp_bslice, wpOp_mslice, wpOp_bin, wpOp_un, wpOp_conv, wpOp_append, wpOp_len, wpOp_copy, wpOp_slice, wpOp_mfunc, wpOp_call, setD_some, setD_none, ρof_tmp, ρof_const, ρof_global, ρof_func, slotV_set, setCells, ↓seqQ_normal, ↓seqQ_exit, ↓seqQ_ret, ↓blockQ_normal, ↓blockQ_exit, ↓blockQ_ret, ↓retQ_ret, ↓retQ_normal, resV_tmp, resV_tmp2, bindP_some, fnP'_func, evBin_int, evUn_not, evUn_neg, evUn_xor, binI_add, binI_sub, binI_mul, binI_eql, binI_neq, binI_lss, binI_leq, binI_gtr, binI_geq, Nat.reduceEqDiff, reduceIte, Option.bind_some, List.map_nil, List.map_cons, List.nil_append, List.append_nil, condP_dec, condP_true, condP_false, load_one agg5 (hub.at hjb), h8, h9, h10, h14, h15, h16, h3', u8v, shl_u16L, shr_u16L, Nat.reduceLeDiff, evConv_int Tryd.underlying5 Tryd.underlying23, u8_u16]
      have hz : y ^^^ (b.toNat * 2 ^ 8 % 65536) < 65536 := Nat.xor_lt_two_pow (n := 16) hy65 (Nat.mod_lt _ (by decide))
      rw [xor_u16 _ _ hy65 (Nat.mod_lt _ (by decide))]
      simp only [↓wpKC_eq, ↓wpC_skip, ↓wpC_reg, ↓wpC_draw, ↓wpC_seq, ↓wpC_cond, ↓wpC_block, ↓wpC_loop, ↓wpC_exit, ↓wpC_ret, ↓wpL_nil, ↓wpL_go, ↓wpL_gd, slotOp_some, gateV_lit, List.getElem?_toArray, List.getElem?_cons_succ, List.getElem?_cons_zero, if_tt, if_ff, if_tf, if_ft, ↓wpO_eq, ↓wpK_eq, ↓wpOp_move, ↓wpOp_assign, wpOp_pick, wpOp_alloc, wpOp_box, wpOp_load, wpOp_store, wpOp_nil, wpOp_faddr, wpOp_iaddr, wpOp_field, wpOp_index, wpOp_extract, wpOp_build, wpOp_bslice, wpOp_mslice, wpOp_bin, wpOp_un, wpOp_conv, wpOp_append, wpOp_len, wpOp_copy, wpOp_slice, wpOp_mfunc, wpOp_call, setD_some, setD_none, ρof_tmp, ρof_const, ρof_global, ρof_func, slotV_set, setCells, ↓seqQ_normal, ↓seqQ_exit, ↓seqQ_ret, ↓blockQ_normal, ↓blockQ_exit, ↓blockQ_ret, ↓retQ_ret, ↓retQ_normal, resV_tmp, resV_tmp2, bindP_some, fnP'_func, evBin_int, evUn_not, evUn_neg, evUn_xor, binI_add, binI_sub, binI_mul, binI_eql, binI_neq, binI_lss, binI_leq, binI_gtr, binI_geq, Nat.reduceEqDiff, reduceIte, Option.bind_some, List.map_nil, List.map_cons, List.nil_append, List.append_nil, condP_dec, condP_true, condP_false, h8, h9, h10, h14, h15, h16, shl_u16L, shr_u16L, Nat.reduceLeDiff, tab_idx hz, tab_load ht hz]
      generalize hze : y ^^^ (b.toNat * 2 ^ 8 % 65536) = z at hz
      have hh : (z * 2 ^ 4 % 65536 ^^^ tab.getD (z / 2 ^ 12) 0) = half z := rfl
      have hh2 : (half z * 2 ^ 4 % 65536 ^^^ tab.getD (half z / 2 ^ 12) 0) = half (half z) := rfl
      rw [xor_u16 _ _ (Nat.mod_lt _ (by decide)) (tab_lt _), hh]
      simp only [↓wpKC_eq, ↓wpC_skip, ↓wpC_reg, ↓wpC_draw, ↓wpC_seq, ↓wpC_cond, ↓wpC_block, ↓wpC_loop, ↓wpC_exit, ↓wpC_ret, ↓wpL_nil, ↓wpL_go, ↓wpL_gd, slotOp_some, gateV_lit, List.getElem?_toArray, List.getElem?_cons_succ, List.getElem?_cons_zero, if_tt, if_ff, if_tf, if_ft, ↓wpO_eq, ↓wpK_eq, ↓wpOp_move, ↓wpOp_assign, wpOp_pick, wpOp_alloc, wpOp_box, wpOp_load, wpOp_store, wpOp_nil, wpOp_faddr, wpOp_iaddr, wpOp_field, wpOp_index, wpOp_extract, wpOp_build, wpOp_bslice, wpOp_mslice, wpOp_bin, wpOp_un, wpOp_conv, wpOp_append, wpOp_len, wpOp_copy, wpOp_slice, wpOp_mfunc, wpOp_call, setD_some, setD_none, ρof_tmp, ρof_const, ρof_global, ρof_func, slotV_set, setCells, ↓seqQ_normal, ↓seqQ_exit, ↓seqQ_ret, ↓blockQ_normal, ↓blockQ_exit, ↓blockQ_ret, ↓retQ_ret, ↓retQ_normal, resV_tmp, resV_tmp2, bindP_some, fnP'_func, evBin_int, evUn_not, evUn_neg, evUn_xor, binI_add, binI_sub, binI_mul, binI_eql, binI_neq, binI_lss, binI_leq, binI_gtr, binI_geq, Nat.reduceEqDiff, reduceIte, Option.bind_some, List.map_nil, List.map_cons, List.nil_append, List.append_nil, condP_dec, condP_true, condP_false, h8, h9, h10, h14, h15, h16, shl_u16L, shr_u16L, Nat.reduceLeDiff, tab_idx (half_lt z), tab_load ht (half_lt z)]
      rw [xor_u16 _ _ (Nat.mod_lt _ (by decide)) (tab_lt _), hh2]
      simp only [↓wpKC_eq, ↓wpC_skip, ↓wpC_reg, ↓wpC_draw, ↓wpC_seq, ↓wpC_cond, ↓wpC_block, ↓wpC_loop, ↓wpC_exit, ↓wpC_ret, ↓wpL_nil, ↓wpL_go, ↓wpL_gd, slotOp_some, gateV_lit, List.getElem?_toArray, List.getElem?_cons_succ, List.getElem?_cons_zero, if_tt, if_ff, if_tf, if_ft, ↓wpO_eq, ↓wpK_eq, ↓wpOp_move, ↓wpOp_assign, wpOp_pick, wpOp_alloc, wpOp_box, wpOp_load, wpOp_store, wpOp_nil, wpOp_faddr, wpOp_iaddr, wpOp_field, wpOp_index, wpOp_extract, wpOp_build, wpOp_bslice, wpOp_mslice, wpOp_bin, wpOp_un, wpOp_conv, wpOp_append, wpOp_len, wpOp_copy, wpOp_slice, wpOp_mfunc, wpOp_call, setD_some, setD_none, ρof_tmp, ρof_const, ρof_global, ρof_func, slotV_set, setCells, ↓seqQ_normal, ↓seqQ_exit, ↓seqQ_ret, ↓blockQ_normal, ↓blockQ_exit, ↓blockQ_ret, ↓retQ_ret, ↓retQ_normal, resV_tmp, resV_tmp2, bindP_some, fnP'_func, evBin_int, evUn_not, evUn_neg, evUn_xor, binI_add, binI_sub, binI_mul, binI_eql, binI_neq, binI_lss, binI_leq, binI_gtr, binI_geq, Nat.reduceEqDiff, reduceIte, Option.bind_some, List.map_nil, List.map_cons, List.nil_append, List.append_nil, condP_dec, condP_true, condP_false, h8, h9, h10, h14, h15, h16]
      refine ⟨l.length - (j + 1), by omega, j + 1, stepT y b, rfl, hlt2', trivial, trivial, trivial, trivial, trivial, trivial, ?_, by rw [stepT, hze], ?_⟩
      · rw [wrap_i64 (by omega) (by omega)]; rfl
      · rw [hy, List.take_add_one, hjb]; rw [sumT_append]; rfl
    · have hj' : j = l.length := by omega
      subst hj'
      have hl1 : (i : Int) + 1 < 9000000000000 := by omega
      refine ⟨ls.length - (i + 1), by omega, i + 1, y, rfl, hlt', trivial, trivial, trivial, ?_, rfl, ?_⟩
      · rw [wrap_i64 (by omega) (by omega)]; rfl
      · rw [hy, hx, List.take_add_one, hil]; simp [sumT_append]
  · have hi' : i = ls.length := by omega
    subst hi'
    refine ⟨trivial, ?_⟩
    rw [hx, List.take_length]
end Go.Proofs.YtkbclhkcceennaaDoor.oc
