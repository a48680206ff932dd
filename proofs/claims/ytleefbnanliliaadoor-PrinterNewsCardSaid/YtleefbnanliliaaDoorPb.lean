/- PrinterNews: the law. Own work. -/
import Derived.Test.YtleefbnanliliaaDoorPa
namespace Go.AM.X
open Go Go.AM Go.Proofs Go.AM.Sx
set_option maxHeartbeats 800000
set_option maxRecDepth 100000
set_option linter.unusedSimpArgs false
set_option linter.unusedVariables false
theorem first11 : isT (call F noI T 60 11 [] e0) = true := by kernel_rfl
noncomputable def g11 : List AV → Option AV
  | [] => some (.bool true)
  | _ => none
noncomputable def I1 := addI noI 11 (pureG g11)
theorem A1 : IAgree Tryd.prog I1 := by
  obtain ⟨fi, hfi⟩ : ∃ fi, F 11 = some fi := Option.isSome_iff_exists.1 (by kernel_rfl)
  refine pure_agree hT hmix hF (noI_agree _) (by decide) fi hfi fun args v hg _ => ?_
  unfold g11 at hg
  split at hg
  · cases hg
    obtain ⟨h', hc⟩ := isT_some first11
    exact ⟨[], 60, 3, h', .bool true, .bool true, WkL.nil, hc, by simp [frzF, AV.flat], Wk.refl _⟩
  · cases hg
theorem K11 {I : Nat → Option (List AV → AH → Rs)} (h11 : I 11 = some (pureG g11)) (m : Nat) (h : AH) : call F I T (m + 1) 11 [] h = some (.bool true, h) := by
  rw [call_I (by decide) h11]; simp [pureG, flatL, g11]
theorem law4 (q w r : Int) : ∃ h', call F I1 T 60 4 [.agg [.int .i64 q, .int .i64 w, .int .i64 r]] e0 = some (.bool true, h') := by
  have h4 : I1 4 = none := rfl
  have h11 : I1 11 = some (pureG g11) := rfl
  by_cases hk : okQ q = true ∧ okQ w = true ∧ okR r = true
  · have c17 := run17ok (I := I1) rfl rfl rfl rfl rfl rfl 55 q w r hk.1 hk.2
    simp only [bx] at c17
    rw [call_code (by decide) h4 F4 rfl]; simp only [Tryd.f4, Option.getD]
    simp +contextual (maxSteps := 3000000) only [↓code_skip, ↓code_seq, ↓code_region, ↓code_cond, ↓code_block, ↓code_loop, ↓code_exit, ↓code_ret, aCond_bool, ↓ops_nil, ↓ops_cons, run_none, run_someT, run_someF, run_tup, ↓run0_v, ↓run0_h, ↓run0_r, ↓seqK_normal, ↓seqK_exit, ↓seqK_ret, ↓blkK_normal, ↓blkK_ret, ↓blkK_exit, ↓retK_normal, ↓retK_ret, put_same, put_ne, put_none, env0_at, ev_tmp, ev_const, ev_func, oc_int, oc_bool, oc_str, oc_nils, oc_nilp, oc_nilf, oc_nilm, o_move, o_assign, o_pick, o_bin, o_call, o_len, o_alloc, o_box, o_build, o_buildSlice, o_load, o_store, o_nilCheck, o_un, o_convert, o_makeFunc, o_makeSlice, o_slice, o_fieldAddr, o_field, o_indexAddr, o_index, o_extract, o_append, o_min, o_max, g_none, g_some, pick_bool, bin_add, bin_sub, bin_mul, bin_quo, bin_rem, bin_eql, bin_neq, bin_or, bin_and, bin_lss, bin_leq, bin_gtr, bin_geq, bin_shr, bin_shl, str_add, str_eql, str_neq, un_not, extract_tup, nil_ptr, nil_fp, part_1, part_A, next_e0, next_one, get_e0, resultsOf, oneOrAll, Option.bind_some, Option.map_some, Option.map_none, Option.getD_some, decide_eq_true_eq, ↓reduceIte, Nat.reduceEqDiff, not_false_eq_true, not_true_eq_false, Nat.reduceAdd, Nat.reduceMul, reduceCtorEq, if_true, if_false, Nat.succ_ne_self, List.getElem?_cons_zero, List.getElem?_cons_succ, List.getElem?_toArray, Bool.false_eq_true, Bool.true_eq_false, List.map_cons, List.map_nil, List.append_nil, List.nil_append, List.cons_append, AH.get_alloc, AH.get_put, AH.next_alloc, AH.next_put, ite_self, true_and, and_true, Nat.reduceLeDiff, Nat.le_refl, gt_iff_lt, ge_iff_le, Bool.not_eq_true', Bool.not_eq_eq_eq_not, Bool.not_true, Bool.not_false, Bool.not_eq_false', Bool.not_not, beq_iff_eq, bne_iff_ne, ne_eq, decide_eq_false_iff_not, ↓cd_skip, ↓cd_seq, ↓cd_region, ↓cd_cond, ↓cd_block, ↓cd_exit, ↓cd_ret, o_makeMap, box_str, box_int, box_bool, box_agg, box_lst, box_nils, box_sl, box_ptr, box_fn, load_fpA T36 a36, load_pA T36 a36, s36, loadn_def, pn_eql T37 d37, pn_neq T37 d37, nn_eql T37 d37, nn_neq T37 d37, fa_ptr T43 p43_0 (by decide), fa_fp T43 p43_0 (by decide), load_fp1 T23 a23, load_p1 T23 a23, loadc_def, fa_ptr T43 p43_1 (by decide), fa_fp T43 p43_1 (by decide), callV_fn (g := 11) (by decide), K11 h11, callV_fn (g := 17) (by decide), callV_fn (g := 18) (by decide), callV_fn (g := 19) (by decide), c17, List.length_cons, List.length_nil, List.drop_zero, List.take_succ_cons, List.take_zero, List.take_nil]
    obtain ⟨hq, hw, hr⟩ := hk
    simp only [okQ, okR, within, Bool.and_eq_true, decide_eq_true_eq] at hq hw hr
    obtain ⟨k, rfl⟩ : ∃ k : Nat, q = Int.ofNat (k + 1) := ⟨(q - 1).toNat, by simp only [Int.ofNat_eq_natCast]; omega⟩
    obtain ⟨k2, rfl⟩ : ∃ k : Nat, w = Int.ofNat (k + 1) := ⟨(w - 1).toNat, by simp only [Int.ofNat_eq_natCast]; omega⟩
    have hr20 : r = 1 ∨ r = 2 ∨ r = 3 ∨ r = 4 ∨ r = 5 ∨ r = 6 ∨ r = 7 ∨ r = 8 ∨ r = 9 ∨ r = 10 ∨ r = 11 ∨ r = 12 ∨ r = 13 ∨ r = 14 ∨ r = 15 ∨ r = 16 ∨ r = 17 ∨ r = 18 ∨ r = 19 ∨ r = 20 := by omega
    clear hq hw hr c17
    rcases hr20 with rfl | rfl | rfl | rfl | rfl | rfl | rfl | rfl | rfl | rfl | rfl | rfl | rfl | rfl | rfl | rfl | rfl | rfl | rfl | rfl <;> exact isT_some (by kernel_rfl)
  · obtain ⟨h1, c17⟩ := run17no (I := I1) rfl rfl rfl rfl rfl rfl 55 q w r hk
    simp only [bx] at c17
    rw [call_code (by decide) h4 F4 rfl]; simp only [Tryd.f4, Option.getD]
    simp +contextual (maxSteps := 3000000) only [↓code_skip, ↓code_seq, ↓code_region, ↓code_cond, ↓code_block, ↓code_loop, ↓code_exit, ↓code_ret, aCond_bool, ↓ops_nil, ↓ops_cons, run_none, run_someT, run_someF, run_tup, ↓run0_v, ↓run0_h, ↓run0_r, ↓seqK_normal, ↓seqK_exit, ↓seqK_ret, ↓blkK_normal, ↓blkK_ret, ↓blkK_exit, ↓retK_normal, ↓retK_ret, put_same, put_ne, put_none, env0_at, ev_tmp, ev_const, ev_func, oc_int, oc_bool, oc_str, oc_nils, oc_nilp, oc_nilf, oc_nilm, o_move, o_assign, o_pick, o_bin, o_call, o_len, o_alloc, o_box, o_build, o_buildSlice, o_load, o_store, o_nilCheck, o_un, o_convert, o_makeFunc, o_makeSlice, o_slice, o_fieldAddr, o_field, o_indexAddr, o_index, o_extract, o_append, o_min, o_max, g_none, g_some, pick_bool, bin_add, bin_sub, bin_mul, bin_quo, bin_rem, bin_eql, bin_neq, bin_or, bin_and, bin_lss, bin_leq, bin_gtr, bin_geq, bin_shr, bin_shl, str_add, str_eql, str_neq, un_not, extract_tup, nil_ptr, nil_fp, part_1, part_A, next_e0, next_one, get_e0, resultsOf, oneOrAll, Option.bind_some, Option.map_some, Option.map_none, Option.getD_some, decide_eq_true_eq, ↓reduceIte, Nat.reduceEqDiff, not_false_eq_true, not_true_eq_false, Nat.reduceAdd, Nat.reduceMul, reduceCtorEq, if_true, if_false, Nat.succ_ne_self, List.getElem?_cons_zero, List.getElem?_cons_succ, List.getElem?_toArray, Bool.false_eq_true, Bool.true_eq_false, List.map_cons, List.map_nil, List.append_nil, List.nil_append, List.cons_append, AH.get_alloc, AH.get_put, AH.next_alloc, AH.next_put, ite_self, true_and, and_true, Nat.reduceLeDiff, Nat.le_refl, gt_iff_lt, ge_iff_le, Bool.not_eq_true', Bool.not_eq_eq_eq_not, Bool.not_true, Bool.not_false, Bool.not_eq_false', Bool.not_not, beq_iff_eq, bne_iff_ne, ne_eq, decide_eq_false_iff_not, ↓cd_skip, ↓cd_seq, ↓cd_region, ↓cd_cond, ↓cd_block, ↓cd_exit, ↓cd_ret, o_makeMap, box_str, box_int, box_bool, box_agg, box_lst, box_nils, box_sl, box_ptr, box_fn, load_fpA T36 a36, load_pA T36 a36, s36, loadn_def, pn_eql T37 d37, pn_neq T37 d37, nn_eql T37 d37, nn_neq T37 d37, fa_ptr T43 p43_0 (by decide), fa_fp T43 p43_0 (by decide), load_fp1 T23 a23, load_p1 T23 a23, loadc_def, fa_ptr T43 p43_1 (by decide), fa_fp T43 p43_1 (by decide), callV_fn (g := 11) (by decide), K11 h11, callV_fn (g := 17) (by decide), callV_fn (g := 18) (by decide), callV_fn (g := 19) (by decide), c17, List.length_cons, List.length_nil, List.drop_zero, List.take_succ_cons, List.take_zero, List.take_nil]
    exact ⟨_, rfl⟩
end Go.AM.X
