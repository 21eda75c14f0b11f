import Derived.Test.YtkbclhkcceennaaDoorOcS
set_option linter.unusedVariables false
set_option linter.unusedSimpArgs false
/-! The document's Sum. -/
namespace Go.Proofs.YtkbclhkcceennaaDoor.oc
open Go Go.AE

theorem bitS_if {x : Nat} (hx : x < 65536) : bitS x = if 32768 ≤ x then x * 2 % 65536 ^^^ 4129 else x * 2 % 65536 := by
  unfold bitS
  by_cases h : 32768 ≤ x
  · have : x.testBit 15 = true := by rw [Nat.testBit, Nat.shiftRight_eq_div_pow, show x / 2 ^ 15 = 1 from by omega]; rfl
    rw [this, if_pos h]; simp
  · have : x.testBit 15 = false := Nat.testBit_lt_two_pow (by omega)
    rw [this, if_neg h]; simp
theorem mul_u16 (x n : Nat) (h : x < 65536) : binI .mul .u16 .u16 (x : Int) (no_index (OfNat.ofNat n)) = some (.int .u16 ((x * n % 65536 : Nat) : Int)) := by
  rw [binI_mul, show ((x : Int) * OfNat.ofNat n) = ((x * n : Nat) : Int) from by rw [Int.natCast_mul]; rfl, wrap_u16m]

theorem refSum_ok (v : Value) (ls : List (List UInt8)) (s : St) (hr : RowsB s v ls) (hl : ls.length ≤ 1000) (hl2 : ∀ l ∈ ls, l.length ≤ 1099511627776) : CallT Tryd.prog 22 [v] s fun r s' => s' = s ∧ r = .int .u16 ((sumT 65535 ls.flatten : Nat) : Int) := by
  have hr0 := hr
  obtain ⟨a, c, vs, rfl, h2, h3, h4⟩ := hr
  refine callT_wp Tryd.func22 rfl (by kernel_rfl) (by kernel_rfl) (by kernel_rfl) ?_
  unfold Tryd.f22
  simp only [↓wpKC_eq, ↓wpC_skip, ↓wpC_reg, ↓wpC_draw, ↓wpC_seq, ↓wpC_cond, ↓wpC_block, ↓wpC_loop, ↓wpC_exit, ↓wpC_ret, ↓wpL_nil, ↓wpL_go, ↓wpL_gd, slotOp_some, gateV_lit, List.getElem?_toArray, List.getElem?_cons_succ, List.getElem?_cons_zero, if_tt, if_ff, if_tf, if_ft, ↓wpO_eq, ↓wpK_eq, ↓wpOp_move, ↓wpOp_assign, wpOp_pick, wpOp_alloc, wpOp_box, wpOp_load, wpOp_store, wpOp_nil, wpOp_faddr, wpOp_iaddr, wpOp_field, wpOp_index, wpOp_extract, wpOp_build, wpOp_bslice, wpOp_mslice, wpOp_bin, wpOp_un, wpOp_conv, wpOp_append, wpOp_len, wpOp_copy, wpOp_slice, wpOp_mfunc, wpOp_call, setD_some, setD_none, ρof_tmp, ρof_const, ρof_global, ρof_func, slotV_set, setCells, ↓seqQ_normal, ↓seqQ_exit, ↓seqQ_ret, ↓blockQ_normal, ↓blockQ_exit, ↓blockQ_ret, ↓retQ_ret, ↓retQ_normal, resV_tmp, resV_tmp2, bindP_some, fnP'_func, evBin_int, evUn_not, evUn_neg, evUn_xor, binI_add, binI_sub, binI_mul, binI_eql, binI_neq, binI_lss, binI_leq, binI_gtr, binI_geq, Nat.reduceEqDiff, reduceIte, Option.bind_some, List.map_nil, List.map_cons, List.nil_append, List.append_nil, condP_dec, condP_true, condP_false]
  refine loopT (fun n t s' => ∃ (i x : Nat), n = ls.length - i ∧ i ≤ ls.length ∧ s' = s ∧ slotV t 0 = .slice (some a) ls.length c ∧ slotV t 4 = .int .i64 i ∧ slotV t 3 = .int .u16 x ∧ x = sumT 65535 (ls.take i).flatten) ?_ ls.length _ _
    ⟨0, 65535, by simp, Nat.zero_le _, rfl, by simp [slotV_set], by simp [slotV_set], by simp [slotV_set], by simp [sumT]⟩
  rintro n t s1 ⟨i, x, rfl, hi, rfl, h0, h4', h3', hx⟩
  refine wpC_sound _ _ _ _ (by kernel_rfl) ?_
  simp only [↓wpKC_eq, ↓wpC_skip, ↓wpC_reg, ↓wpC_draw, ↓wpC_seq, ↓wpC_cond, ↓wpC_block, ↓wpC_loop, ↓wpC_exit, ↓wpC_ret, ↓wpL_nil, ↓wpL_go, ↓wpL_gd, slotOp_some, gateV_lit, List.getElem?_toArray, List.getElem?_cons_succ, List.getElem?_cons_zero, if_tt, if_ff, if_tf, if_ft, ↓wpO_eq, ↓wpK_eq, ↓wpOp_move, ↓wpOp_assign, wpOp_pick, wpOp_alloc, wpOp_box, wpOp_load, wpOp_store, wpOp_nil, wpOp_faddr, wpOp_iaddr, wpOp_field, wpOp_index, wpOp_extract, wpOp_build, wpOp_bslice, wpOp_mslice, wpOp_bin, wpOp_un, wpOp_conv, wpOp_append, wpOp_len, wpOp_copy, wpOp_slice, wpOp_mfunc, wpOp_call, setD_some, setD_none, ρof_tmp, ρof_const, ρof_global, ρof_func, slotV_set, setCells, ↓seqQ_normal, ↓seqQ_exit, ↓seqQ_ret, ↓blockQ_normal, ↓blockQ_exit, ↓blockQ_ret, ↓retQ_ret, ↓retQ_normal, resV_tmp, resV_tmp2, bindP_some, fnP'_func, evBin_int, evUn_not, evUn_neg, evUn_xor, binI_add, binI_sub, binI_mul, binI_eql, binI_neq, binI_lss, binI_leq, binI_gtr, binI_geq, Nat.reduceEqDiff, reduceIte, Option.bind_some, List.map_nil, List.map_cons, List.nil_append, List.append_nil, condP_dec, condP_true, condP_false, h0, h4', h3', len_slice Tryd.underlying43]
  have hx65 : x < 65536 := by rw [hx]; exact sumT_lt _ (by decide)
  split
  · rename_i hlt
    have hlt' : i < ls.length := by omega
    obtain ⟨l, hil⟩ : ∃ l, ls[i]? = some l := ⟨ls[i], List.getElem?_eq_getElem hlt'⟩
    obtain ⟨u, hu, hub⟩ := hr0.at hil
    have hl2i := hl2 l (List.mem_of_getElem? hil)
    have hidx := fun k => idx_slice (P := Tryd.prog) Tryd.underlying43 sz22 (c := c) hlt' a k s1
    refine loopT (fun n t s' => ∃ (j y : Nat), n = l.length - j ∧ j ≤ l.length ∧ s' = s1 ∧ slotV t 0 = .slice (some a) ls.length c ∧ slotV t 4 = .int .i64 i ∧ slotV t 5 = .int .i64 j ∧ slotV t 3 = .int .u16 y ∧ y = sumT x (l.take j)) ?_ l.length _ _
      ⟨0, x, by simp, Nat.zero_le _, rfl, by simp [slotV_set, h0], by simp [slotV_set, h4'], by simp [slotV_set], by simp [slotV_set, h3'], by simp [sumT]⟩
    rintro n t s2 ⟨j, y, rfl, hj, rfl, h0, h4', h5, h3', hy⟩
    refine wpC_sound _ _ _ _ (by kernel_rfl) ?_
    simp only [↓wpKC_eq, ↓wpC_skip, ↓wpC_reg, ↓wpC_draw, ↓wpC_seq, ↓wpC_cond, ↓wpC_block, ↓wpC_loop, ↓wpC_exit, ↓wpC_ret, ↓wpL_nil, ↓wpL_go, ↓wpL_gd, slotOp_some, gateV_lit, List.getElem?_toArray, List.getElem?_cons_succ, List.getElem?_cons_zero, if_tt, if_ff, if_tf, if_ft, ↓wpO_eq, ↓wpK_eq, ↓wpOp_move, ↓wpOp_assign, wpOp_pick, wpOp_alloc, wpOp_box, wpOp_load, wpOp_store, wpOp_nil, wpOp_faddr, wpOp_iaddr, wpOp_field, wpOp_index, wpOp_extract, wpOp_build, wpOp_bslice, wpOp_mslice, wpOp_bin, wpOp_un, wpOp_conv, wpOp_append, wpOp_len, wpOp_copy, wpOp_slice, wpOp_mfunc, wpOp_call, setD_some, setD_none, ρof_tmp, ρof_const, ρof_global, ρof_func, slotV_set, setCells, ↓seqQ_normal, ↓seqQ_exit, ↓seqQ_ret, ↓blockQ_normal, ↓blockQ_exit, ↓blockQ_ret, ↓retQ_ret, ↓retQ_normal, resV_tmp, resV_tmp2, bindP_some, fnP'_func, evBin_int, evUn_not, evUn_neg, evUn_xor, binI_add, binI_sub, binI_mul, binI_eql, binI_neq, binI_lss, binI_leq, binI_gtr, binI_geq, Nat.reduceEqDiff, reduceIte, Option.bind_some, List.map_nil, List.map_cons, List.nil_append, List.append_nil, condP_dec, condP_true, condP_false, h0, h4', h3', h5, hidx, load_one agg43 hu, len_bytes u8T hub]
    have hy65 : y < 65536 := by rw [hy]; exact sumT_lt _ hx65
    split
    · rename_i hlt2
      have hlt2' : j < l.length := by omega
      obtain ⟨b, hjb⟩ : ∃ b, l[j]? = some b := ⟨l[j], List.getElem?_eq_getElem hlt2'⟩
      obtain ⟨bu, bn, bc, rfl⟩ : ∃ a n c, u = .slice (some a) n c := by
        rcases hub with ⟨_, rfl⟩ | ⟨a', c', hv, _⟩
        · cases hjb
        · exact ⟨_, _, _, hv⟩
      rw [idx_slice Tryd.underlying22 sz5 (by have := hub.len; omega)]
      simp only [↓wpKC_eq, ↓wpC_skip, ↓wpC_reg, ↓wpC_draw, ↓wpC_seq, ↓wpC_cond, ↓wpC_block, ↓wpC_loop, ↓wpC_exit, ↓wpC_ret, ↓wpL_nil, ↓wpL_go, ↓wpL_gd, slotOp_some, gateV_lit, List.getElem?_toArray, List.getElem?_cons_succ, List.getElem?_cons_zero, if_tt, if_ff, if_tf, if_ft, ↓wpO_eq, ↓wpK_eq, ↓wpOp_move, ↓wpOp_assign, wpOp_pick, wpOp_alloc, wpOp_box, wpOp_load, wpOp_store, wpOp_nil, wpOp_faddr, wpOp_iaddr, wpOp_field, wpOp_index, wpOp_extract, wpOp_build, wpOp_bslice, wpOp_mslice, wpOp_bin, wpOp_un, wpOp_conv, wpOp_append, wpOp_len, wpOp_copy, wpOp_slice, wpOp_mfunc, wpOp_call, setD_some, setD_none, ρof_tmp, ρof_const, ρof_global, ρof_func, slotV_set, setCells, ↓seqQ_normal, ↓seqQ_exit, ↓seqQ_ret, ↓blockQ_normal, ↓blockQ_exit, ↓blockQ_ret, ↓retQ_ret, ↓retQ_normal, resV_tmp, resV_tmp2, bindP_some, fnP'_func, evBin_int, evUn_not, evUn_neg, evUn_xor, binI_add, binI_sub, binI_mul, binI_eql, binI_neq, binI_lss, binI_leq, binI_gtr, binI_geq, Nat.reduceEqDiff, reduceIte, Option.bind_some, List.map_nil, List.map_cons, List.nil_append, List.append_nil, condP_dec, condP_true, condP_false, load_one agg5 (hub.at hjb), h0, h4', h3', h5, u8v, mul_u16 b.toNat 256 (by have := b.toNat_lt; omega), evConv_int Tryd.underlying5 Tryd.underlying23, u8_u16]
      rw [xor_u16 _ _ hy65 (Nat.mod_lt _ (by decide))]
      simp only [↓wpKC_eq, ↓wpC_skip, ↓wpC_reg, ↓wpC_draw, ↓wpC_seq, ↓wpC_cond, ↓wpC_block, ↓wpC_loop, ↓wpC_exit, ↓wpC_ret, ↓wpL_nil, ↓wpL_go, ↓wpL_gd, slotOp_some, gateV_lit, List.getElem?_toArray, List.getElem?_cons_succ, List.getElem?_cons_zero, if_tt, if_ff, if_tf, if_ft, ↓wpO_eq, ↓wpK_eq, ↓wpOp_move, ↓wpOp_assign, wpOp_pick, wpOp_alloc, wpOp_box, wpOp_load, wpOp_store, wpOp_nil, wpOp_faddr, wpOp_iaddr, wpOp_field, wpOp_index, wpOp_extract, wpOp_build, wpOp_bslice, wpOp_mslice, wpOp_bin, wpOp_un, wpOp_conv, wpOp_append, wpOp_len, wpOp_copy, wpOp_slice, wpOp_mfunc, wpOp_call, setD_some, setD_none, ρof_tmp, ρof_const, ρof_global, ρof_func, slotV_set, setCells, ↓seqQ_normal, ↓seqQ_exit, ↓seqQ_ret, ↓blockQ_normal, ↓blockQ_exit, ↓blockQ_ret, ↓retQ_ret, ↓retQ_normal, resV_tmp, resV_tmp2, bindP_some, fnP'_func, evBin_int, evUn_not, evUn_neg, evUn_xor, binI_add, binI_sub, binI_mul, binI_eql, binI_neq, binI_lss, binI_leq, binI_gtr, binI_geq, Nat.reduceEqDiff, reduceIte, Option.bind_some, List.map_nil, List.map_cons, List.nil_append, List.append_nil, condP_dec, condP_true, condP_false, h0, h4', h3', h5]
      have hz : y ^^^ (b.toNat * 256 % 65536) < 65536 := Nat.xor_lt_two_pow (n := 16) hy65 (Nat.mod_lt _ (by decide))
      have hst : stepT y b = bitN 8 (y ^^^ (b.toNat * 256 % 65536)) := stepT_bits hy65 b
      generalize y ^^^ (b.toNat * 256 % 65536) = z at hz hst
      refine loopT (fun n t s' => ∃ (k w : Nat), n = 8 - k ∧ k ≤ 8 ∧ s' = s2 ∧ slotV t 0 = .slice (some a) ls.length c ∧ slotV t 4 = .int .i64 i ∧ slotV t 5 = .int .i64 j ∧ slotV t 6 = .int .i64 k ∧ slotV t 3 = .int .u16 w ∧ w < 65536 ∧ bitN (8 - k) w = stepT y b) ?_ 8 _ _
        ⟨0, z, by simp, Nat.zero_le _, rfl, by simp [slotV_set, h0], by simp [slotV_set, h4'], by simp [slotV_set, h5], by simp [slotV_set], by simp [slotV_set], hz, hst.symm⟩
      rintro n t s3 ⟨k, w, rfl, hk, rfl, h0, h4', h5, h6, h3', hw, hbw⟩
      refine wpC_sound _ _ _ _ (by kernel_rfl) ?_
      simp only [↓wpKC_eq, ↓wpC_skip, ↓wpC_reg, ↓wpC_draw, ↓wpC_seq, ↓wpC_cond, ↓wpC_block, ↓wpC_loop, ↓wpC_exit, ↓wpC_ret, ↓wpL_nil, ↓wpL_go, ↓wpL_gd, slotOp_some, gateV_lit, List.getElem?_toArray, List.getElem?_cons_succ, List.getElem?_cons_zero, if_tt, if_ff, if_tf, if_ft, ↓wpO_eq, ↓wpK_eq, ↓wpOp_move, ↓wpOp_assign, wpOp_pick, wpOp_alloc, wpOp_box, wpOp_load, wpOp_store, wpOp_nil, wpOp_faddr, wpOp_iaddr, wpOp_field, wpOp_index, wpOp_extract, wpOp_build, wpOp_bslice, wpOp_mslice, wpOp_bin, wpOp_un, wpOp_conv, wpOp_append, wpOp_len, wpOp_copy, wpOp_slice, wpOp_mfunc, wpOp_call, setD_some, setD_none, ρof_tmp, ρof_const, ρof_global, ρof_func, slotV_set, setCells, ↓seqQ_normal, ↓seqQ_exit, ↓seqQ_ret, ↓blockQ_normal, ↓blockQ_exit, ↓blockQ_ret, ↓retQ_ret, ↓retQ_normal, resV_tmp, resV_tmp2, bindP_some, fnP'_func, evBin_int, evUn_not, evUn_neg, evUn_xor, binI_add, binI_sub, binI_mul, binI_eql, binI_neq, binI_lss, binI_leq, binI_gtr, binI_geq, Nat.reduceEqDiff, reduceIte, Option.bind_some, List.map_nil, List.map_cons, List.nil_append, List.append_nil, condP_dec, condP_true, condP_false, h0, h4', h3', h5, h6, mul_u16 w 2 hw]
      have hbs := bitS_if hw
      split
      · rename_i hlt3
        have hlt3' : k < 8 := by omega
        have hnext : bitN (8 - (k + 1)) (bitS w) = stepT y b := by rw [← hbw, show 8 - k = 8 - (k + 1) + 1 from by omega]; rfl
        split
        · rename_i hge
          have hge' : 32768 ≤ w := by omega
          rw [if_pos hge'] at hbs
          have h41 : binI .xor .u16 .u16 ((w * 2 % 65536 : Nat) : Int) 4129 = some (.int .u16 ((w * 2 % 65536 ^^^ 4129 : Nat) : Int)) := xor_u16 _ 4129 (Nat.mod_lt _ (by decide)) (by decide)
          rw [h41]
          simp only [↓wpKC_eq, ↓wpC_skip, ↓wpC_reg, ↓wpC_draw, ↓wpC_seq, ↓wpC_cond, ↓wpC_block, ↓wpC_loop, ↓wpC_exit, ↓wpC_ret, ↓wpL_nil, ↓wpL_go, ↓wpL_gd, slotOp_some, gateV_lit, List.getElem?_toArray, List.getElem?_cons_succ, List.getElem?_cons_zero, if_tt, if_ff, if_tf, if_ft, ↓wpO_eq, ↓wpK_eq, ↓wpOp_move, ↓wpOp_assign, wpOp_pick, wpOp_alloc, wpOp_box, wpOp_load, wpOp_store, wpOp_nil, wpOp_faddr, wpOp_iaddr, wpOp_field, wpOp_index, wpOp_extract, wpOp_build, wpOp_bslice, wpOp_mslice, wpOp_bin, wpOp_un, wpOp_conv, wpOp_append, wpOp_len, wpOp_copy, wpOp_slice, wpOp_mfunc, wpOp_call, setD_some, setD_none, ρof_tmp, ρof_const, ρof_global, ρof_func, slotV_set, setCells, ↓seqQ_normal, ↓seqQ_exit, ↓seqQ_ret, ↓blockQ_normal, ↓blockQ_exit, ↓blockQ_ret, ↓retQ_ret, ↓retQ_normal, resV_tmp, resV_tmp2, bindP_some, fnP'_func, evBin_int, evUn_not, evUn_neg, evUn_xor, binI_add, binI_sub, binI_mul, binI_eql, binI_neq, binI_lss, binI_leq, binI_gtr, binI_geq, Nat.reduceEqDiff, reduceIte, Option.bind_some, List.map_nil, List.map_cons, List.nil_append, List.append_nil, condP_dec, condP_true, condP_false, h0, h4', h3', h5, h6]
          refine ⟨8 - (k + 1), by omega, k + 1, bitS w, rfl, hlt3', trivial, trivial, trivial, trivial, ?_, by rw [hbs], bitS_lt _, hnext⟩
          rw [wrap_i64 (by omega) (by omega)]; rfl
        · rename_i hge
          have hge' : ¬ 32768 ≤ w := by omega
          rw [if_neg hge'] at hbs
          refine ⟨8 - (k + 1), by omega, k + 1, bitS w, rfl, hlt3', trivial, trivial, trivial, trivial, ?_, by rw [hbs], bitS_lt _, hnext⟩
          rw [wrap_i64 (by omega) (by omega)]; rfl
      · have hk8 : k = 8 := by omega
        subst hk8
        refine ⟨l.length - (j + 1), by omega, j + 1, stepT y b, rfl, hlt2', trivial, trivial, trivial, ?_, by rw [← hbw]; rfl, ?_⟩
        · rw [wrap_i64 (by omega) (by omega)]; rfl
        · rw [hy, List.take_add_one, hjb]; rw [sumT_append]; rfl
    · have hj' : j = l.length := by omega
      subst hj'
      refine ⟨ls.length - (i + 1), by omega, i + 1, y, rfl, hlt', trivial, trivial, ?_, rfl, ?_⟩
      · rw [wrap_i64 (by omega) (by omega)]; rfl
      · rw [hy, hx, List.take_add_one, hil]; simp [sumT_append]
  · have hi' : i = ls.length := by omega
    subst hi'
    refine ⟨trivial, ?_⟩
    rw [hx, List.take_length]
end Go.Proofs.YtkbclhkcceennaaDoor.oc
