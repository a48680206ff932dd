/- Sums, and groups of zones. Own work. -/
import Derived.Test.YtdehanhonfbdpaaNptA
namespace Go.AM.X
open Go Go.AM Go.Proofs Go.AM.Sx
set_option maxHeartbeats 400000
set_option maxRecDepth 100000
set_option linter.unusedSimpArgs false
set_option linter.unusedVariables false
theorem F62 : F 62 = some { body := (Try.f62.body.getD .skip), results := Try.f62.results.toList, rf := false } := by kernel_rfl
theorem R62 : regsOk T (Try.f62.body.getD .skip) = true := by kernel_rfl
theorem F64 : F 64 = some { body := (Try.f64.body.getD .skip), results := Try.f64.results.toList, rf := false } := by kernel_rfl
theorem R64 : regsOk T (Try.f64.body.getD .skip) = true := by kernel_rfl
theorem F20 : F 20 = some { body := (Try.f20.body.getD .skip), results := Try.f20.results.toList, rf := false } := by kernel_rfl
theorem R20 : regsOk T (Try.f20.body.getD .skip) = true := by kernel_rfl
theorem F21 : F 21 = some { body := (Try.f21.body.getD .skip), results := Try.f21.results.toList, rf := false } := by kernel_rfl
theorem R21 : regsOk T (Try.f21.body.getD .skip) = true := by kernel_rfl
/-- One byte more. -/
def sumStep (s : Nat) (c : UInt8) : Nat := (2 * ((s + c.toNat) % 65536)) % 65536 + ((s + c.toNat) % 65536) / 32768
def sumS (l : List UInt8) : Nat := l.foldl sumStep 0
def sumR (l : List UInt8) : Int := if sumS l = 0 then 65535 else (sumS l : Nat)
theorem sumStep_lt (s : Nat) (c : UInt8) : sumStep s c < 65536 := by unfold sumStep; omega
theorem sumS_lt (l : List UInt8) : sumS l < 65536 := by
  rcases List.eq_nil_or_concat l with rfl | ⟨a, c, rfl⟩
  · decide
  · simp only [sumS, List.concat_eq_append, List.foldl_append, List.foldl_cons, List.foldl_nil]; exact sumStep_lt _ _
theorem sumS_snoc (l : List UInt8) (c : UInt8) : sumS (l ++ [c]) = sumStep (sumS l) c := by simp [sumS]
theorem wrap_u16 {x : Int} (h1 : 0 ≤ x) : IntKind.u16.wrap x = x % 65536 := by
  simp only [IntKind.wrap, IntKind.bits, IntKind.signed]
  simp
theorem or16 (y : Nat) (hy : y < 65536) : IntKind.u16.wrap (BitVec.ofInt IntKind.u16.bits (IntKind.u16.wrap ((y : Int) * 2 ^ min (Int.toNat 1) IntKind.u16.bits)) ||| BitVec.ofInt IntKind.u16.bits ((y : Int).fdiv (2 ^ min (Int.toNat 15) IntKind.u16.bits))).toNat =
    (((2 * y) % 65536 + y / 32768 : Nat) : Int) := by
  have h1 : IntKind.u16.wrap ((y : Int) * 2 ^ min (Int.toNat 1) IntKind.u16.bits) = (((2 * y) % 65536 : Nat) : Int) := by
    have : (2 : Int) ^ min (Int.toNat 1) IntKind.u16.bits = 2 := rfl
    rw [this, wrap_u16 (by omega)]; omega
  have h2 : (y : Int).fdiv (2 ^ min (Int.toNat 15) IntKind.u16.bits) = ((y / 32768 : Nat) : Int) := by
    have : (2 : Int) ^ min (Int.toNat 15) IntKind.u16.bits = 32768 := rfl
    rw [this, Int.fdiv_eq_ediv_of_nonneg _ (by omega)]; omega
  rw [h1, h2]
  have h3 : ∀ a : Nat, a < 65536 → (BitVec.ofInt IntKind.u16.bits (a : Int)).toNat = a := by
    intro a ha
    show (BitVec.ofInt 16 (a : Int)).toNat = a
    rw [BitVec.toNat_ofInt]
    omega
  rw [BitVec.toNat_or, h3 _ (by omega), h3 _ (by omega)]
  have h4 : (2 * y) % 65536 ||| y / 32768 = (2 * y) % 65536 + y / 32768 := by
    have h5 : (2 * y) % 65536 = 2 ^ 1 * (y % 32768) := by omega
    rw [h5]
    exact (Nat.two_pow_add_eq_or_of_lt (by omega) _).symm
  rw [h4, wrap_u16 (by omega)]
  omega
noncomputable def g62 := G1 (vList vByte) fun l => if l.length < 140737488355328 then some (.int .i64 (sumR l)) else none
theorem byte_lt (c : UInt8) : c.toNat < 256 := c.toNat_lt
theorem run62 {I : Nat → Option (List AV → AH → Rs)}  (h62 : I 62 = none) (l : List UInt8) (m : Nat) (hl : l.length < 140737488355328) : ∃ h', call F I T (l.length + m + 3) 62 [.lst false 1 l.length (l.map vByte.enc)] e0 = some (.int .i64 (sumR l), h') := by
  rw [call_F (by decide) h62 F62 rfl R62]; simp only [Try.f62, Option.getD]
  simp +contextual only [↓code_skip, ↓code_seq, ↓code_region, ↓code_cond, ↓code_block, ↓code_loop, ↓code_exit, ↓code_ret, aCond_bool, ↓ops_nil, ↓ops_cons, run_none, run_someT, run_someF, run_tup, ↓run0_v, ↓run0_h, ↓run0_r, ↓seqK_normal, ↓seqK_exit, ↓seqK_ret, ↓blkK_normal, ↓blkK_ret, ↓blkK_exit, ↓retK_normal, ↓retK_ret, put_same, put_ne, put_none, env0_at, ev_tmp, ev_const, ev_func, oc_int, oc_bool, oc_str, oc_nils, oc_nilp, oc_nilf, oc_nilm, o_move, o_assign, o_pick, o_bin, o_call, o_len, o_alloc, o_box, o_build, o_buildSlice, o_load, o_store, o_nilCheck, o_un, o_convert, o_makeFunc, o_makeSlice, o_slice, o_fieldAddr, o_field, o_indexAddr, o_index, o_extract, o_append, o_min, o_max, g_none, g_some, pick_bool, bin_add, bin_sub, bin_mul, bin_quo, bin_rem, bin_eql, bin_neq, bin_or, bin_and, bin_lss, bin_leq, bin_gtr, bin_geq, bin_shr, bin_shl, str_add, str_eql, str_neq, un_not, extract_tup, nil_ptr, nil_fp, part_1, part_A, next_e0, next_one, get_e0, resultsOf, oneOrAll, Option.bind_some, Option.map_some, Option.map_none, Option.getD_some, decide_eq_true_eq, ↓reduceIte, Nat.reduceEqDiff, not_false_eq_true, not_true_eq_false, Nat.reduceAdd, Nat.reduceMul, reduceCtorEq, if_true, if_false, Nat.succ_ne_self, List.getElem?_cons_zero, List.getElem?_cons_succ, List.getElem?_toArray, Bool.false_eq_true, Bool.true_eq_false, List.map_cons, List.map_nil, List.append_nil, List.nil_append, List.cons_append, AH.get_alloc, AH.get_put, AH.next_alloc, AH.next_put, ite_self, true_and, and_true, Nat.reduceLeDiff, Nat.le_refl, gt_iff_lt, ge_iff_le, Bool.not_eq_true', Bool.not_eq_eq_eq_not, Bool.not_true, Bool.not_false, Bool.not_eq_false', Bool.not_not, beq_iff_eq, bne_iff_ne, ne_eq, decide_eq_false_iff_not, len_lst T25 d25, len_sl T25 d25, len_nils T25 d25, ia_lst T25 d25 T5 s5, ia_sl T25 d25 T5 s5, load_fp1 T5 a5, load_p1 T5 a5, loadc_def, conv_int T5 T117 d117, conv_int T117 T3 d3]
  refine iterL_wp (Q := fun r => ∃ h', r = some (.int .i64 (sumR l), h')) (N := l.length) (Inv := fun k e h' => ∃ i, k + i = l.length ∧ i ≤ l.length ∧ e 3 = .int .u16 (sumS (l.take i) : Nat) ∧ e 6 = .lst false 1 l.length (l.map vByte.enc) ∧ e 7 = .int .i64 l.length ∧ e 8 = .int .i64 (i : Nat)) ?_ ?_ (by omega)
  · rintro k e h' K' ⟨i, hk, hil, e3, e6, e7, e8⟩ hnext hexit
    have hs := sumS_lt (l.take i)
    by_cases hi : i < l.length
    · have c1 : (i : Int) < (l.length : Int) := by omega
      have c3 := drop_map_0 (f := vByte.enc) (List.getElem?_eq_getElem hi)
      have hb := byte_lt l[i]
      have c4 : vByte.enc l[i] = .int .u8 (l[i].toNat : Nat) := rfl
      have c5 : IntKind.u16.wrap ((sumS (l.take i) : Nat) + IntKind.u16.wrap ((l[i].toNat : Nat) : Int)) = ((((sumS (l.take i) + l[i].toNat) % 65536 : Nat)) : Int) := by
        rw [wrap_u16 (x := ((l[i].toNat : Nat) : Int)) (by omega), wrap_u16 (by omega)]; omega
      have c6 := or16 ((sumS (l.take i) + l[i].toNat) % 65536) (by omega)
      simp +contextual only [↓code_skip, ↓code_seq, ↓code_region, ↓code_cond, ↓code_block, ↓code_loop, ↓code_exit, ↓code_ret, aCond_bool, ↓ops_nil, ↓ops_cons, run_none, run_someT, run_someF, run_tup, ↓run0_v, ↓run0_h, ↓run0_r, ↓seqK_normal, ↓seqK_exit, ↓seqK_ret, ↓blkK_normal, ↓blkK_ret, ↓blkK_exit, ↓retK_normal, ↓retK_ret, put_same, put_ne, put_none, env0_at, ev_tmp, ev_const, ev_func, oc_int, oc_bool, oc_str, oc_nils, oc_nilp, oc_nilf, oc_nilm, o_move, o_assign, o_pick, o_bin, o_call, o_len, o_alloc, o_box, o_build, o_buildSlice, o_load, o_store, o_nilCheck, o_un, o_convert, o_makeFunc, o_makeSlice, o_slice, o_fieldAddr, o_field, o_indexAddr, o_index, o_extract, o_append, o_min, o_max, g_none, g_some, pick_bool, bin_add, bin_sub, bin_mul, bin_quo, bin_rem, bin_eql, bin_neq, bin_or, bin_and, bin_lss, bin_leq, bin_gtr, bin_geq, bin_shr, bin_shl, str_add, str_eql, str_neq, un_not, extract_tup, nil_ptr, nil_fp, part_1, part_A, next_e0, next_one, get_e0, resultsOf, oneOrAll, Option.bind_some, Option.map_some, Option.map_none, Option.getD_some, decide_eq_true_eq, ↓reduceIte, Nat.reduceEqDiff, not_false_eq_true, not_true_eq_false, Nat.reduceAdd, Nat.reduceMul, reduceCtorEq, if_true, if_false, Nat.succ_ne_self, List.getElem?_cons_zero, List.getElem?_cons_succ, List.getElem?_toArray, Bool.false_eq_true, Bool.true_eq_false, List.map_cons, List.map_nil, List.append_nil, List.nil_append, List.cons_append, AH.get_alloc, AH.get_put, AH.next_alloc, AH.next_put, ite_self, true_and, and_true, Nat.reduceLeDiff, Nat.le_refl, gt_iff_lt, ge_iff_le, Bool.not_eq_true', Bool.not_eq_eq_eq_not, Bool.not_true, Bool.not_false, Bool.not_eq_false', Bool.not_not, beq_iff_eq, bne_iff_ne, ne_eq, decide_eq_false_iff_not, len_lst T25 d25, len_sl T25 d25, len_nils T25 d25, ia_lst T25 d25 T5 s5, ia_sl T25 d25 T5 s5, load_fp1 T5 a5, load_p1 T5 a5, loadc_def, conv_int T5 T117 d117, conv_int T117 T3 d3, e3, e6, e7, e8, c1, c3, c4, c5, c6, cast_nonneg, toNat_cast, show ¬ ((1 : Int) < 0) by decide, show ¬ ((15 : Int) < 0) by decide]
      refine hnext (k - 1) _ _ (by omega) ⟨i + 1, by omega, ?_, ?_, ?_, ?_, ?_⟩
      · omega
      · simp only [↓code_skip, ↓code_seq, ↓code_region, ↓code_cond, ↓code_block, ↓code_loop, ↓code_exit, ↓code_ret, aCond_bool, ↓ops_nil, ↓ops_cons, run_none, run_someT, run_someF, run_tup, ↓run0_v, ↓run0_h, ↓run0_r, ↓seqK_normal, ↓seqK_exit, ↓seqK_ret, ↓blkK_normal, ↓blkK_ret, ↓blkK_exit, ↓retK_normal, ↓retK_ret, put_same, put_ne, put_none, env0_at, ev_tmp, ev_const, ev_func, oc_int, oc_bool, oc_str, oc_nils, oc_nilp, oc_nilf, oc_nilm, o_move, o_assign, o_pick, o_bin, o_call, o_len, o_alloc, o_box, o_build, o_buildSlice, o_load, o_store, o_nilCheck, o_un, o_convert, o_makeFunc, o_makeSlice, o_slice, o_fieldAddr, o_field, o_indexAddr, o_index, o_extract, o_append, o_min, o_max, g_none, g_some, pick_bool, bin_add, bin_sub, bin_mul, bin_quo, bin_rem, bin_eql, bin_neq, bin_or, bin_and, bin_lss, bin_leq, bin_gtr, bin_geq, bin_shr, bin_shl, str_add, str_eql, str_neq, un_not, extract_tup, nil_ptr, nil_fp, part_1, part_A, next_e0, next_one, get_e0, resultsOf, oneOrAll, Option.bind_some, Option.map_some, Option.map_none, Option.getD_some, decide_eq_true_eq, ↓reduceIte, Nat.reduceEqDiff, not_false_eq_true, not_true_eq_false, Nat.reduceAdd, Nat.reduceMul, reduceCtorEq, if_true, if_false, Nat.succ_ne_self, List.getElem?_cons_zero, List.getElem?_cons_succ, List.getElem?_toArray, Bool.false_eq_true, Bool.true_eq_false, List.map_cons, List.map_nil, List.append_nil, List.nil_append, List.cons_append, AH.get_alloc, AH.get_put, AH.next_alloc, AH.next_put, ite_self, true_and, and_true, Nat.reduceLeDiff, Nat.le_refl, gt_iff_lt, ge_iff_le, Bool.not_eq_true', Bool.not_eq_eq_eq_not, Bool.not_true, Bool.not_false, Bool.not_eq_false', Bool.not_not, beq_iff_eq, bne_iff_ne, ne_eq, decide_eq_false_iff_not, len_lst T25 d25, len_sl T25 d25, len_nils T25 d25, ia_lst T25 d25 T5 s5, ia_sl T25 d25 T5 s5, load_fp1 T5 a5, load_p1 T5 a5, loadc_def, conv_int T5 T117 d117, conv_int T117 T3 d3, e3]; rw [take_snoc hi, sumS_snoc]; rfl
      · simp only [↓code_skip, ↓code_seq, ↓code_region, ↓code_cond, ↓code_block, ↓code_loop, ↓code_exit, ↓code_ret, aCond_bool, ↓ops_nil, ↓ops_cons, run_none, run_someT, run_someF, run_tup, ↓run0_v, ↓run0_h, ↓run0_r, ↓seqK_normal, ↓seqK_exit, ↓seqK_ret, ↓blkK_normal, ↓blkK_ret, ↓blkK_exit, ↓retK_normal, ↓retK_ret, put_same, put_ne, put_none, env0_at, ev_tmp, ev_const, ev_func, oc_int, oc_bool, oc_str, oc_nils, oc_nilp, oc_nilf, oc_nilm, o_move, o_assign, o_pick, o_bin, o_call, o_len, o_alloc, o_box, o_build, o_buildSlice, o_load, o_store, o_nilCheck, o_un, o_convert, o_makeFunc, o_makeSlice, o_slice, o_fieldAddr, o_field, o_indexAddr, o_index, o_extract, o_append, o_min, o_max, g_none, g_some, pick_bool, bin_add, bin_sub, bin_mul, bin_quo, bin_rem, bin_eql, bin_neq, bin_or, bin_and, bin_lss, bin_leq, bin_gtr, bin_geq, bin_shr, bin_shl, str_add, str_eql, str_neq, un_not, extract_tup, nil_ptr, nil_fp, part_1, part_A, next_e0, next_one, get_e0, resultsOf, oneOrAll, Option.bind_some, Option.map_some, Option.map_none, Option.getD_some, decide_eq_true_eq, ↓reduceIte, Nat.reduceEqDiff, not_false_eq_true, not_true_eq_false, Nat.reduceAdd, Nat.reduceMul, reduceCtorEq, if_true, if_false, Nat.succ_ne_self, List.getElem?_cons_zero, List.getElem?_cons_succ, List.getElem?_toArray, Bool.false_eq_true, Bool.true_eq_false, List.map_cons, List.map_nil, List.append_nil, List.nil_append, List.cons_append, AH.get_alloc, AH.get_put, AH.next_alloc, AH.next_put, ite_self, true_and, and_true, Nat.reduceLeDiff, Nat.le_refl, gt_iff_lt, ge_iff_le, Bool.not_eq_true', Bool.not_eq_eq_eq_not, Bool.not_true, Bool.not_false, Bool.not_eq_false', Bool.not_not, beq_iff_eq, bne_iff_ne, ne_eq, decide_eq_false_iff_not, len_lst T25 d25, len_sl T25 d25, len_nils T25 d25, ia_lst T25 d25 T5 s5, ia_sl T25 d25 T5 s5, load_fp1 T5 a5, load_p1 T5 a5, loadc_def, conv_int T5 T117 d117, conv_int T117 T3 d3, e6]
      · simp only [↓code_skip, ↓code_seq, ↓code_region, ↓code_cond, ↓code_block, ↓code_loop, ↓code_exit, ↓code_ret, aCond_bool, ↓ops_nil, ↓ops_cons, run_none, run_someT, run_someF, run_tup, ↓run0_v, ↓run0_h, ↓run0_r, ↓seqK_normal, ↓seqK_exit, ↓seqK_ret, ↓blkK_normal, ↓blkK_ret, ↓blkK_exit, ↓retK_normal, ↓retK_ret, put_same, put_ne, put_none, env0_at, ev_tmp, ev_const, ev_func, oc_int, oc_bool, oc_str, oc_nils, oc_nilp, oc_nilf, oc_nilm, o_move, o_assign, o_pick, o_bin, o_call, o_len, o_alloc, o_box, o_build, o_buildSlice, o_load, o_store, o_nilCheck, o_un, o_convert, o_makeFunc, o_makeSlice, o_slice, o_fieldAddr, o_field, o_indexAddr, o_index, o_extract, o_append, o_min, o_max, g_none, g_some, pick_bool, bin_add, bin_sub, bin_mul, bin_quo, bin_rem, bin_eql, bin_neq, bin_or, bin_and, bin_lss, bin_leq, bin_gtr, bin_geq, bin_shr, bin_shl, str_add, str_eql, str_neq, un_not, extract_tup, nil_ptr, nil_fp, part_1, part_A, next_e0, next_one, get_e0, resultsOf, oneOrAll, Option.bind_some, Option.map_some, Option.map_none, Option.getD_some, decide_eq_true_eq, ↓reduceIte, Nat.reduceEqDiff, not_false_eq_true, not_true_eq_false, Nat.reduceAdd, Nat.reduceMul, reduceCtorEq, if_true, if_false, Nat.succ_ne_self, List.getElem?_cons_zero, List.getElem?_cons_succ, List.getElem?_toArray, Bool.false_eq_true, Bool.true_eq_false, List.map_cons, List.map_nil, List.append_nil, List.nil_append, List.cons_append, AH.get_alloc, AH.get_put, AH.next_alloc, AH.next_put, ite_self, true_and, and_true, Nat.reduceLeDiff, Nat.le_refl, gt_iff_lt, ge_iff_le, Bool.not_eq_true', Bool.not_eq_eq_eq_not, Bool.not_true, Bool.not_false, Bool.not_eq_false', Bool.not_not, beq_iff_eq, bne_iff_ne, ne_eq, decide_eq_false_iff_not, len_lst T25 d25, len_sl T25 d25, len_nils T25 d25, ia_lst T25 d25 T5 s5, ia_sl T25 d25 T5 s5, load_fp1 T5 a5, load_p1 T5 a5, loadc_def, conv_int T5 T117 d117, conv_int T117 T3 d3, e7]
      · simp only [↓code_skip, ↓code_seq, ↓code_region, ↓code_cond, ↓code_block, ↓code_loop, ↓code_exit, ↓code_ret, aCond_bool, ↓ops_nil, ↓ops_cons, run_none, run_someT, run_someF, run_tup, ↓run0_v, ↓run0_h, ↓run0_r, ↓seqK_normal, ↓seqK_exit, ↓seqK_ret, ↓blkK_normal, ↓blkK_ret, ↓blkK_exit, ↓retK_normal, ↓retK_ret, put_same, put_ne, put_none, env0_at, ev_tmp, ev_const, ev_func, oc_int, oc_bool, oc_str, oc_nils, oc_nilp, oc_nilf, oc_nilm, o_move, o_assign, o_pick, o_bin, o_call, o_len, o_alloc, o_box, o_build, o_buildSlice, o_load, o_store, o_nilCheck, o_un, o_convert, o_makeFunc, o_makeSlice, o_slice, o_fieldAddr, o_field, o_indexAddr, o_index, o_extract, o_append, o_min, o_max, g_none, g_some, pick_bool, bin_add, bin_sub, bin_mul, bin_quo, bin_rem, bin_eql, bin_neq, bin_or, bin_and, bin_lss, bin_leq, bin_gtr, bin_geq, bin_shr, bin_shl, str_add, str_eql, str_neq, un_not, extract_tup, nil_ptr, nil_fp, part_1, part_A, next_e0, next_one, get_e0, resultsOf, oneOrAll, Option.bind_some, Option.map_some, Option.map_none, Option.getD_some, decide_eq_true_eq, ↓reduceIte, Nat.reduceEqDiff, not_false_eq_true, not_true_eq_false, Nat.reduceAdd, Nat.reduceMul, reduceCtorEq, if_true, if_false, Nat.succ_ne_self, List.getElem?_cons_zero, List.getElem?_cons_succ, List.getElem?_toArray, Bool.false_eq_true, Bool.true_eq_false, List.map_cons, List.map_nil, List.append_nil, List.nil_append, List.cons_append, AH.get_alloc, AH.get_put, AH.next_alloc, AH.next_put, ite_self, true_and, and_true, Nat.reduceLeDiff, Nat.le_refl, gt_iff_lt, ge_iff_le, Bool.not_eq_true', Bool.not_eq_eq_eq_not, Bool.not_true, Bool.not_false, Bool.not_eq_false', Bool.not_not, beq_iff_eq, bne_iff_ne, ne_eq, decide_eq_false_iff_not, len_lst T25 d25, len_sl T25 d25, len_nils T25 d25, ia_lst T25 d25 T5 s5, ia_sl T25 d25 T5 s5, load_fp1 T5 a5, load_p1 T5 a5, loadc_def, conv_int T5 T117 d117, conv_int T117 T3 d3, e8]; rw [wrap_i64 (by omega) (by omega)]; rfl
    · have c1 : ¬ (i : Int) < (l.length : Int) := by omega
      rw [take_end (show i = l.length by omega)] at e3 hs
      have c2 : (((sumS l : Nat) : Int) = 0) = (sumS l = 0) := by simp
      have c3 : IntKind.i64.wrap ((sumS l : Nat) : Int) = (sumS l : Nat) := wrap_i64 (by omega) (by omega)
      simp +contextual only [↓code_skip, ↓code_seq, ↓code_region, ↓code_cond, ↓code_block, ↓code_loop, ↓code_exit, ↓code_ret, aCond_bool, ↓ops_nil, ↓ops_cons, run_none, run_someT, run_someF, run_tup, ↓run0_v, ↓run0_h, ↓run0_r, ↓seqK_normal, ↓seqK_exit, ↓seqK_ret, ↓blkK_normal, ↓blkK_ret, ↓blkK_exit, ↓retK_normal, ↓retK_ret, put_same, put_ne, put_none, env0_at, ev_tmp, ev_const, ev_func, oc_int, oc_bool, oc_str, oc_nils, oc_nilp, oc_nilf, oc_nilm, o_move, o_assign, o_pick, o_bin, o_call, o_len, o_alloc, o_box, o_build, o_buildSlice, o_load, o_store, o_nilCheck, o_un, o_convert, o_makeFunc, o_makeSlice, o_slice, o_fieldAddr, o_field, o_indexAddr, o_index, o_extract, o_append, o_min, o_max, g_none, g_some, pick_bool, bin_add, bin_sub, bin_mul, bin_quo, bin_rem, bin_eql, bin_neq, bin_or, bin_and, bin_lss, bin_leq, bin_gtr, bin_geq, bin_shr, bin_shl, str_add, str_eql, str_neq, un_not, extract_tup, nil_ptr, nil_fp, part_1, part_A, next_e0, next_one, get_e0, resultsOf, oneOrAll, Option.bind_some, Option.map_some, Option.map_none, Option.getD_some, decide_eq_true_eq, ↓reduceIte, Nat.reduceEqDiff, not_false_eq_true, not_true_eq_false, Nat.reduceAdd, Nat.reduceMul, reduceCtorEq, if_true, if_false, Nat.succ_ne_self, List.getElem?_cons_zero, List.getElem?_cons_succ, List.getElem?_toArray, Bool.false_eq_true, Bool.true_eq_false, List.map_cons, List.map_nil, List.append_nil, List.nil_append, List.cons_append, AH.get_alloc, AH.get_put, AH.next_alloc, AH.next_put, ite_self, true_and, and_true, Nat.reduceLeDiff, Nat.le_refl, gt_iff_lt, ge_iff_le, Bool.not_eq_true', Bool.not_eq_eq_eq_not, Bool.not_true, Bool.not_false, Bool.not_eq_false', Bool.not_not, beq_iff_eq, bne_iff_ne, ne_eq, decide_eq_false_iff_not, len_lst T25 d25, len_sl T25 d25, len_nils T25 d25, ia_lst T25 d25 T5 s5, ia_sl T25 d25 T5 s5, load_fp1 T5 a5, load_p1 T5 a5, loadc_def, conv_int T5 T117 d117, conv_int T117 T3 d3, e3, e6, e7, e8, c1]
      refine hexit _ _ _ (by simp) ⟨h', ?_⟩
      simp +contextual only [↓code_skip, ↓code_seq, ↓code_region, ↓code_cond, ↓code_block, ↓code_loop, ↓code_exit, ↓code_ret, aCond_bool, ↓ops_nil, ↓ops_cons, run_none, run_someT, run_someF, run_tup, ↓run0_v, ↓run0_h, ↓run0_r, ↓seqK_normal, ↓seqK_exit, ↓seqK_ret, ↓blkK_normal, ↓blkK_ret, ↓blkK_exit, ↓retK_normal, ↓retK_ret, put_same, put_ne, put_none, env0_at, ev_tmp, ev_const, ev_func, oc_int, oc_bool, oc_str, oc_nils, oc_nilp, oc_nilf, oc_nilm, o_move, o_assign, o_pick, o_bin, o_call, o_len, o_alloc, o_box, o_build, o_buildSlice, o_load, o_store, o_nilCheck, o_un, o_convert, o_makeFunc, o_makeSlice, o_slice, o_fieldAddr, o_field, o_indexAddr, o_index, o_extract, o_append, o_min, o_max, g_none, g_some, pick_bool, bin_add, bin_sub, bin_mul, bin_quo, bin_rem, bin_eql, bin_neq, bin_or, bin_and, bin_lss, bin_leq, bin_gtr, bin_geq, bin_shr, bin_shl, str_add, str_eql, str_neq, un_not, extract_tup, nil_ptr, nil_fp, part_1, part_A, next_e0, next_one, get_e0, resultsOf, oneOrAll, Option.bind_some, Option.map_some, Option.map_none, Option.getD_some, decide_eq_true_eq, ↓reduceIte, Nat.reduceEqDiff, not_false_eq_true, not_true_eq_false, Nat.reduceAdd, Nat.reduceMul, reduceCtorEq, if_true, if_false, Nat.succ_ne_self, List.getElem?_cons_zero, List.getElem?_cons_succ, List.getElem?_toArray, Bool.false_eq_true, Bool.true_eq_false, List.map_cons, List.map_nil, List.append_nil, List.nil_append, List.cons_append, AH.get_alloc, AH.get_put, AH.next_alloc, AH.next_put, ite_self, true_and, and_true, Nat.reduceLeDiff, Nat.le_refl, gt_iff_lt, ge_iff_le, Bool.not_eq_true', Bool.not_eq_eq_eq_not, Bool.not_true, Bool.not_false, Bool.not_eq_false', Bool.not_not, beq_iff_eq, bne_iff_ne, ne_eq, decide_eq_false_iff_not, len_lst T25 d25, len_sl T25 d25, len_nils T25 d25, ia_lst T25 d25 T5 s5, ia_sl T25 d25 T5 s5, load_fp1 T5 a5, load_p1 T5 a5, loadc_def, conv_int T5 T117 d117, conv_int T117 T3 d3, e3, e6, e7, e8, c2, c3, sumR]
      split <;> rfl
  · refine ⟨0, by omega, ?_, ?_, ?_, ?_, ?_⟩
    · omega
    · simp only [↓code_skip, ↓code_seq, ↓code_region, ↓code_cond, ↓code_block, ↓code_loop, ↓code_exit, ↓code_ret, aCond_bool, ↓ops_nil, ↓ops_cons, run_none, run_someT, run_someF, run_tup, ↓run0_v, ↓run0_h, ↓run0_r, ↓seqK_normal, ↓seqK_exit, ↓seqK_ret, ↓blkK_normal, ↓blkK_ret, ↓blkK_exit, ↓retK_normal, ↓retK_ret, put_same, put_ne, put_none, env0_at, ev_tmp, ev_const, ev_func, oc_int, oc_bool, oc_str, oc_nils, oc_nilp, oc_nilf, oc_nilm, o_move, o_assign, o_pick, o_bin, o_call, o_len, o_alloc, o_box, o_build, o_buildSlice, o_load, o_store, o_nilCheck, o_un, o_convert, o_makeFunc, o_makeSlice, o_slice, o_fieldAddr, o_field, o_indexAddr, o_index, o_extract, o_append, o_min, o_max, g_none, g_some, pick_bool, bin_add, bin_sub, bin_mul, bin_quo, bin_rem, bin_eql, bin_neq, bin_or, bin_and, bin_lss, bin_leq, bin_gtr, bin_geq, bin_shr, bin_shl, str_add, str_eql, str_neq, un_not, extract_tup, nil_ptr, nil_fp, part_1, part_A, next_e0, next_one, get_e0, resultsOf, oneOrAll, Option.bind_some, Option.map_some, Option.map_none, Option.getD_some, decide_eq_true_eq, ↓reduceIte, Nat.reduceEqDiff, not_false_eq_true, not_true_eq_false, Nat.reduceAdd, Nat.reduceMul, reduceCtorEq, if_true, if_false, Nat.succ_ne_self, List.getElem?_cons_zero, List.getElem?_cons_succ, List.getElem?_toArray, Bool.false_eq_true, Bool.true_eq_false, List.map_cons, List.map_nil, List.append_nil, List.nil_append, List.cons_append, AH.get_alloc, AH.get_put, AH.next_alloc, AH.next_put, ite_self, true_and, and_true, Nat.reduceLeDiff, Nat.le_refl, gt_iff_lt, ge_iff_le, Bool.not_eq_true', Bool.not_eq_eq_eq_not, Bool.not_true, Bool.not_false, Bool.not_eq_false', Bool.not_not, beq_iff_eq, bne_iff_ne, ne_eq, decide_eq_false_iff_not, len_lst T25 d25, len_sl T25 d25, len_nils T25 d25, ia_lst T25 d25 T5 s5, ia_sl T25 d25 T5 s5, load_fp1 T5 a5, load_p1 T5 a5, loadc_def, conv_int T5 T117 d117, conv_int T117 T3 d3]; rfl
    · simp only [↓code_skip, ↓code_seq, ↓code_region, ↓code_cond, ↓code_block, ↓code_loop, ↓code_exit, ↓code_ret, aCond_bool, ↓ops_nil, ↓ops_cons, run_none, run_someT, run_someF, run_tup, ↓run0_v, ↓run0_h, ↓run0_r, ↓seqK_normal, ↓seqK_exit, ↓seqK_ret, ↓blkK_normal, ↓blkK_ret, ↓blkK_exit, ↓retK_normal, ↓retK_ret, put_same, put_ne, put_none, env0_at, ev_tmp, ev_const, ev_func, oc_int, oc_bool, oc_str, oc_nils, oc_nilp, oc_nilf, oc_nilm, o_move, o_assign, o_pick, o_bin, o_call, o_len, o_alloc, o_box, o_build, o_buildSlice, o_load, o_store, o_nilCheck, o_un, o_convert, o_makeFunc, o_makeSlice, o_slice, o_fieldAddr, o_field, o_indexAddr, o_index, o_extract, o_append, o_min, o_max, g_none, g_some, pick_bool, bin_add, bin_sub, bin_mul, bin_quo, bin_rem, bin_eql, bin_neq, bin_or, bin_and, bin_lss, bin_leq, bin_gtr, bin_geq, bin_shr, bin_shl, str_add, str_eql, str_neq, un_not, extract_tup, nil_ptr, nil_fp, part_1, part_A, next_e0, next_one, get_e0, resultsOf, oneOrAll, Option.bind_some, Option.map_some, Option.map_none, Option.getD_some, decide_eq_true_eq, ↓reduceIte, Nat.reduceEqDiff, not_false_eq_true, not_true_eq_false, Nat.reduceAdd, Nat.reduceMul, reduceCtorEq, if_true, if_false, Nat.succ_ne_self, List.getElem?_cons_zero, List.getElem?_cons_succ, List.getElem?_toArray, Bool.false_eq_true, Bool.true_eq_false, List.map_cons, List.map_nil, List.append_nil, List.nil_append, List.cons_append, AH.get_alloc, AH.get_put, AH.next_alloc, AH.next_put, ite_self, true_and, and_true, Nat.reduceLeDiff, Nat.le_refl, gt_iff_lt, ge_iff_le, Bool.not_eq_true', Bool.not_eq_eq_eq_not, Bool.not_true, Bool.not_false, Bool.not_eq_false', Bool.not_not, beq_iff_eq, bne_iff_ne, ne_eq, decide_eq_false_iff_not, len_lst T25 d25, len_sl T25 d25, len_nils T25 d25, ia_lst T25 d25 T5 s5, ia_sl T25 d25 T5 s5, load_fp1 T5 a5, load_p1 T5 a5, loadc_def, conv_int T5 T117 d117, conv_int T117 T3 d3]
    · simp only [↓code_skip, ↓code_seq, ↓code_region, ↓code_cond, ↓code_block, ↓code_loop, ↓code_exit, ↓code_ret, aCond_bool, ↓ops_nil, ↓ops_cons, run_none, run_someT, run_someF, run_tup, ↓run0_v, ↓run0_h, ↓run0_r, ↓seqK_normal, ↓seqK_exit, ↓seqK_ret, ↓blkK_normal, ↓blkK_ret, ↓blkK_exit, ↓retK_normal, ↓retK_ret, put_same, put_ne, put_none, env0_at, ev_tmp, ev_const, ev_func, oc_int, oc_bool, oc_str, oc_nils, oc_nilp, oc_nilf, oc_nilm, o_move, o_assign, o_pick, o_bin, o_call, o_len, o_alloc, o_box, o_build, o_buildSlice, o_load, o_store, o_nilCheck, o_un, o_convert, o_makeFunc, o_makeSlice, o_slice, o_fieldAddr, o_field, o_indexAddr, o_index, o_extract, o_append, o_min, o_max, g_none, g_some, pick_bool, bin_add, bin_sub, bin_mul, bin_quo, bin_rem, bin_eql, bin_neq, bin_or, bin_and, bin_lss, bin_leq, bin_gtr, bin_geq, bin_shr, bin_shl, str_add, str_eql, str_neq, un_not, extract_tup, nil_ptr, nil_fp, part_1, part_A, next_e0, next_one, get_e0, resultsOf, oneOrAll, Option.bind_some, Option.map_some, Option.map_none, Option.getD_some, decide_eq_true_eq, ↓reduceIte, Nat.reduceEqDiff, not_false_eq_true, not_true_eq_false, Nat.reduceAdd, Nat.reduceMul, reduceCtorEq, if_true, if_false, Nat.succ_ne_self, List.getElem?_cons_zero, List.getElem?_cons_succ, List.getElem?_toArray, Bool.false_eq_true, Bool.true_eq_false, List.map_cons, List.map_nil, List.append_nil, List.nil_append, List.cons_append, AH.get_alloc, AH.get_put, AH.next_alloc, AH.next_put, ite_self, true_and, and_true, Nat.reduceLeDiff, Nat.le_refl, gt_iff_lt, ge_iff_le, Bool.not_eq_true', Bool.not_eq_eq_eq_not, Bool.not_true, Bool.not_false, Bool.not_eq_false', Bool.not_not, beq_iff_eq, bne_iff_ne, ne_eq, decide_eq_false_iff_not, len_lst T25 d25, len_sl T25 d25, len_nils T25 d25, ia_lst T25 d25 T5 s5, ia_sl T25 d25 T5 s5, load_fp1 T5 a5, load_p1 T5 a5, loadc_def, conv_int T5 T117 d117, conv_int T117 T3 d3]
    · simp only [↓code_skip, ↓code_seq, ↓code_region, ↓code_cond, ↓code_block, ↓code_loop, ↓code_exit, ↓code_ret, aCond_bool, ↓ops_nil, ↓ops_cons, run_none, run_someT, run_someF, run_tup, ↓run0_v, ↓run0_h, ↓run0_r, ↓seqK_normal, ↓seqK_exit, ↓seqK_ret, ↓blkK_normal, ↓blkK_ret, ↓blkK_exit, ↓retK_normal, ↓retK_ret, put_same, put_ne, put_none, env0_at, ev_tmp, ev_const, ev_func, oc_int, oc_bool, oc_str, oc_nils, oc_nilp, oc_nilf, oc_nilm, o_move, o_assign, o_pick, o_bin, o_call, o_len, o_alloc, o_box, o_build, o_buildSlice, o_load, o_store, o_nilCheck, o_un, o_convert, o_makeFunc, o_makeSlice, o_slice, o_fieldAddr, o_field, o_indexAddr, o_index, o_extract, o_append, o_min, o_max, g_none, g_some, pick_bool, bin_add, bin_sub, bin_mul, bin_quo, bin_rem, bin_eql, bin_neq, bin_or, bin_and, bin_lss, bin_leq, bin_gtr, bin_geq, bin_shr, bin_shl, str_add, str_eql, str_neq, un_not, extract_tup, nil_ptr, nil_fp, part_1, part_A, next_e0, next_one, get_e0, resultsOf, oneOrAll, Option.bind_some, Option.map_some, Option.map_none, Option.getD_some, decide_eq_true_eq, ↓reduceIte, Nat.reduceEqDiff, not_false_eq_true, not_true_eq_false, Nat.reduceAdd, Nat.reduceMul, reduceCtorEq, if_true, if_false, Nat.succ_ne_self, List.getElem?_cons_zero, List.getElem?_cons_succ, List.getElem?_toArray, Bool.false_eq_true, Bool.true_eq_false, List.map_cons, List.map_nil, List.append_nil, List.nil_append, List.cons_append, AH.get_alloc, AH.get_put, AH.next_alloc, AH.next_put, ite_self, true_and, and_true, Nat.reduceLeDiff, Nat.le_refl, gt_iff_lt, ge_iff_le, Bool.not_eq_true', Bool.not_eq_eq_eq_not, Bool.not_true, Bool.not_false, Bool.not_eq_false', Bool.not_not, beq_iff_eq, bne_iff_ne, ne_eq, decide_eq_false_iff_not, len_lst T25 d25, len_sl T25 d25, len_nils T25 d25, ia_lst T25 d25 T5 s5, ia_sl T25 d25 T5 s5, load_fp1 T5 a5, load_p1 T5 a5, loadc_def, conv_int T5 T117 d117, conv_int T117 T3 d3]; rfl
theorem dByte_enc' (x : UInt8) : vByte.dec (vByte.enc x) = some x := dByte_enc x
theorem K62 {I : Nat → Option (List AV → AH → Rs)} (h62 : I 62 = some (pureG g62)) (m : Nat) (s : List UInt8) (ex : Bool) (h : AH) (hl : s.length < 140737488355328) : call F I T (m + 1) 62 [.lst ex 1 s.length (s.map vByte.enc)] h = some (.int .i64 (sumR s), h) := by
  rw [call_I (by decide) h62]
  refine pureG_flat (by have h1 : flatL (s.map vByte.enc) = true := flatL_map (fun _ => rfl) s; simp [flatL, AV.flat, h1]) ?_
  have := vList_dec dByte_enc' ex s
  show ((vList vByte).dec (.lst ex 1 s.length (s.map vByte.enc))).bind _ = _
  rw [this]
  simp [hl]
theorem K62s {I : Nat → Option (List AV → AH → Rs)} (h62 : I 62 = some (pureG g62)) (m : Nat) (s : List UInt8) (b : Nat) (ex : Bool) (k : BK) (h : AH) (hl : s.length < 140737488355328) (hb : h.get b = some (.cells (ofBytes s) k)) : call F I T (m + 1) 62 [.sl b 0 s.length s.length 1 ex] h = some (.int .i64 (sumR s), h) := by
  rw [call_I (by decide) h62]
  refine pureG_view (bs := [.lst (ex && true) 1 s.length (ofBytes s)]) (by simp [flatL, AV.flat]) ?_ ?_ rfl
  · exact frzMap_cons (by rw [frz_sl (k := 8) hb (by rw [ofBytes_len]; omega) (frz_bytes _)]; simp) frzMap_nil
  · have := vList_dec dByte_enc' (ex && true) s
    show ((vList vByte).dec (.lst (ex && true) 1 s.length (s.map vByte.enc))).bind _ = _
    rw [this]
    simp [hl]
noncomputable def g64 := G1 (vList vByte) fun l => if l.length < 140737488355328 then some (.int .i64 (sumR l)) else none
theorem run64 {I : Nat → Option (List AV → AH → Rs)}  (h64 : I 64 = none) (l : List UInt8) (m : Nat) (hl : l.length < 140737488355328) : ∃ h', call F I T (l.length + m + 3) 64 [.lst false 1 l.length (l.map vByte.enc)] e0 = some (.int .i64 (sumR l), h') := by
  rw [call_F (by decide) h64 F64 rfl R64]; simp only [Try.f64, Option.getD]
  simp +contextual only [↓code_skip, ↓code_seq, ↓code_region, ↓code_cond, ↓code_block, ↓code_loop, ↓code_exit, ↓code_ret, aCond_bool, ↓ops_nil, ↓ops_cons, run_none, run_someT, run_someF, run_tup, ↓run0_v, ↓run0_h, ↓run0_r, ↓seqK_normal, ↓seqK_exit, ↓seqK_ret, ↓blkK_normal, ↓blkK_ret, ↓blkK_exit, ↓retK_normal, ↓retK_ret, put_same, put_ne, put_none, env0_at, ev_tmp, ev_const, ev_func, oc_int, oc_bool, oc_str, oc_nils, oc_nilp, oc_nilf, oc_nilm, o_move, o_assign, o_pick, o_bin, o_call, o_len, o_alloc, o_box, o_build, o_buildSlice, o_load, o_store, o_nilCheck, o_un, o_convert, o_makeFunc, o_makeSlice, o_slice, o_fieldAddr, o_field, o_indexAddr, o_index, o_extract, o_append, o_min, o_max, g_none, g_some, pick_bool, bin_add, bin_sub, bin_mul, bin_quo, bin_rem, bin_eql, bin_neq, bin_or, bin_and, bin_lss, bin_leq, bin_gtr, bin_geq, bin_shr, bin_shl, str_add, str_eql, str_neq, un_not, extract_tup, nil_ptr, nil_fp, part_1, part_A, next_e0, next_one, get_e0, resultsOf, oneOrAll, Option.bind_some, Option.map_some, Option.map_none, Option.getD_some, decide_eq_true_eq, ↓reduceIte, Nat.reduceEqDiff, not_false_eq_true, not_true_eq_false, Nat.reduceAdd, Nat.reduceMul, reduceCtorEq, if_true, if_false, Nat.succ_ne_self, List.getElem?_cons_zero, List.getElem?_cons_succ, List.getElem?_toArray, Bool.false_eq_true, Bool.true_eq_false, List.map_cons, List.map_nil, List.append_nil, List.nil_append, List.cons_append, AH.get_alloc, AH.get_put, AH.next_alloc, AH.next_put, ite_self, true_and, and_true, Nat.reduceLeDiff, Nat.le_refl, gt_iff_lt, ge_iff_le, Bool.not_eq_true', Bool.not_eq_eq_eq_not, Bool.not_true, Bool.not_false, Bool.not_eq_false', Bool.not_not, beq_iff_eq, bne_iff_ne, ne_eq, decide_eq_false_iff_not, len_lst T25 d25, len_sl T25 d25, len_nils T25 d25, ia_lst T25 d25 T5 s5, ia_sl T25 d25 T5 s5, load_fp1 T5 a5, load_p1 T5 a5, loadc_def, conv_int T5 T3 d3]
  refine iterL_wp (Q := fun r => ∃ h', r = some (.int .i64 (sumR l), h')) (N := l.length) (Inv := fun k e h' => ∃ i, k + i = l.length ∧ i ≤ l.length ∧ e 0 = .lst false 1 l.length (l.map vByte.enc) ∧ e 3 = .int .i64 (sumS (l.take i) : Nat) ∧ e 4 = .int .i64 (i : Nat)) ?_ ?_ (by omega)
  · rintro k e h' K' ⟨i, hk, hil, e0, e3, e4⟩ hnext hexit
    have hs := sumS_lt (l.take i)
    by_cases hi : i < l.length
    · have c1 : (i : Int) < (l.length : Int) := by omega
      have c3 := drop_map_0 (f := vByte.enc) (List.getElem?_eq_getElem hi)
      have hb := byte_lt l[i]
      have c4 : vByte.enc l[i] = .int .u8 (l[i].toNat : Nat) := rfl
      have w1 : IntKind.i64.wrap ((l[i].toNat : Nat) : Int) = (l[i].toNat : Nat) := wrap_i64 (by omega) (by omega)
      have w2 : IntKind.i64.wrap ((sumS (l.take i) : Nat) + ((l[i].toNat : Nat) : Int)) = ((sumS (l.take i) + l[i].toNat : Nat) : Int) := by rw [wrap_i64 (by omega) (by omega)]; omega
      have w3 : (((sumS (l.take i) + l[i].toNat : Nat) : Int)).tmod 65536 = (((sumS (l.take i) + l[i].toNat) % 65536 : Nat) : Int) := by rw [Int.tmod_eq_emod_of_nonneg (by omega)]; omega
      have w4 : IntKind.i64.wrap ((((sumS (l.take i) + l[i].toNat) % 65536 : Nat) : Int) * 2) = ((2 * ((sumS (l.take i) + l[i].toNat) % 65536) : Nat) : Int) := by rw [wrap_i64 (by omega) (by omega)]; omega
      have w5 : (((2 * ((sumS (l.take i) + l[i].toNat) % 65536) : Nat) : Int)).tmod 65536 = (((2 * ((sumS (l.take i) + l[i].toNat) % 65536)) % 65536 : Nat) : Int) := by rw [Int.tmod_eq_emod_of_nonneg (by omega)]; omega
      have w6 : IntKind.i64.wrap ((((sumS (l.take i) + l[i].toNat) % 65536 : Nat) : Int).tdiv 32768) = ((((sumS (l.take i) + l[i].toNat) % 65536) / 32768 : Nat) : Int) := by rw [Int.tdiv_eq_ediv_of_nonneg (by omega), wrap_i64 (by omega) (by omega)]; omega
      have w7 : IntKind.i64.wrap ((((2 * ((sumS (l.take i) + l[i].toNat) % 65536)) % 65536 : Nat) : Int) + ((((sumS (l.take i) + l[i].toNat) % 65536) / 32768 : Nat) : Int)) = ((sumStep (sumS (l.take i)) l[i] : Nat) : Int) := by rw [wrap_i64 (by omega) (by omega)]; unfold sumStep; omega
      simp +contextual only [↓code_skip, ↓code_seq, ↓code_region, ↓code_cond, ↓code_block, ↓code_loop, ↓code_exit, ↓code_ret, aCond_bool, ↓ops_nil, ↓ops_cons, run_none, run_someT, run_someF, run_tup, ↓run0_v, ↓run0_h, ↓run0_r, ↓seqK_normal, ↓seqK_exit, ↓seqK_ret, ↓blkK_normal, ↓blkK_ret, ↓blkK_exit, ↓retK_normal, ↓retK_ret, put_same, put_ne, put_none, env0_at, ev_tmp, ev_const, ev_func, oc_int, oc_bool, oc_str, oc_nils, oc_nilp, oc_nilf, oc_nilm, o_move, o_assign, o_pick, o_bin, o_call, o_len, o_alloc, o_box, o_build, o_buildSlice, o_load, o_store, o_nilCheck, o_un, o_convert, o_makeFunc, o_makeSlice, o_slice, o_fieldAddr, o_field, o_indexAddr, o_index, o_extract, o_append, o_min, o_max, g_none, g_some, pick_bool, bin_add, bin_sub, bin_mul, bin_quo, bin_rem, bin_eql, bin_neq, bin_or, bin_and, bin_lss, bin_leq, bin_gtr, bin_geq, bin_shr, bin_shl, str_add, str_eql, str_neq, un_not, extract_tup, nil_ptr, nil_fp, part_1, part_A, next_e0, next_one, get_e0, resultsOf, oneOrAll, Option.bind_some, Option.map_some, Option.map_none, Option.getD_some, decide_eq_true_eq, ↓reduceIte, Nat.reduceEqDiff, not_false_eq_true, not_true_eq_false, Nat.reduceAdd, Nat.reduceMul, reduceCtorEq, if_true, if_false, Nat.succ_ne_self, List.getElem?_cons_zero, List.getElem?_cons_succ, List.getElem?_toArray, Bool.false_eq_true, Bool.true_eq_false, List.map_cons, List.map_nil, List.append_nil, List.nil_append, List.cons_append, AH.get_alloc, AH.get_put, AH.next_alloc, AH.next_put, ite_self, true_and, and_true, Nat.reduceLeDiff, Nat.le_refl, gt_iff_lt, ge_iff_le, Bool.not_eq_true', Bool.not_eq_eq_eq_not, Bool.not_true, Bool.not_false, Bool.not_eq_false', Bool.not_not, beq_iff_eq, bne_iff_ne, ne_eq, decide_eq_false_iff_not, len_lst T25 d25, len_sl T25 d25, len_nils T25 d25, ia_lst T25 d25 T5 s5, ia_sl T25 d25 T5 s5, load_fp1 T5 a5, load_p1 T5 a5, loadc_def, conv_int T5 T3 d3, e0, e3, e4, c1, c3, c4, w1, w2, w3, w4, w5, w6, w7, cast_nonneg, toNat_cast, show ¬ ((65536 : Int) = 0) by decide, show ¬ ((32768 : Int) = 0) by decide]
      refine hnext (k - 1) _ _ (by omega) ⟨i + 1, by omega, ?_, ?_, ?_, ?_⟩
      · omega
      · simp only [↓code_skip, ↓code_seq, ↓code_region, ↓code_cond, ↓code_block, ↓code_loop, ↓code_exit, ↓code_ret, aCond_bool, ↓ops_nil, ↓ops_cons, run_none, run_someT, run_someF, run_tup, ↓run0_v, ↓run0_h, ↓run0_r, ↓seqK_normal, ↓seqK_exit, ↓seqK_ret, ↓blkK_normal, ↓blkK_ret, ↓blkK_exit, ↓retK_normal, ↓retK_ret, put_same, put_ne, put_none, env0_at, ev_tmp, ev_const, ev_func, oc_int, oc_bool, oc_str, oc_nils, oc_nilp, oc_nilf, oc_nilm, o_move, o_assign, o_pick, o_bin, o_call, o_len, o_alloc, o_box, o_build, o_buildSlice, o_load, o_store, o_nilCheck, o_un, o_convert, o_makeFunc, o_makeSlice, o_slice, o_fieldAddr, o_field, o_indexAddr, o_index, o_extract, o_append, o_min, o_max, g_none, g_some, pick_bool, bin_add, bin_sub, bin_mul, bin_quo, bin_rem, bin_eql, bin_neq, bin_or, bin_and, bin_lss, bin_leq, bin_gtr, bin_geq, bin_shr, bin_shl, str_add, str_eql, str_neq, un_not, extract_tup, nil_ptr, nil_fp, part_1, part_A, next_e0, next_one, get_e0, resultsOf, oneOrAll, Option.bind_some, Option.map_some, Option.map_none, Option.getD_some, decide_eq_true_eq, ↓reduceIte, Nat.reduceEqDiff, not_false_eq_true, not_true_eq_false, Nat.reduceAdd, Nat.reduceMul, reduceCtorEq, if_true, if_false, Nat.succ_ne_self, List.getElem?_cons_zero, List.getElem?_cons_succ, List.getElem?_toArray, Bool.false_eq_true, Bool.true_eq_false, List.map_cons, List.map_nil, List.append_nil, List.nil_append, List.cons_append, AH.get_alloc, AH.get_put, AH.next_alloc, AH.next_put, ite_self, true_and, and_true, Nat.reduceLeDiff, Nat.le_refl, gt_iff_lt, ge_iff_le, Bool.not_eq_true', Bool.not_eq_eq_eq_not, Bool.not_true, Bool.not_false, Bool.not_eq_false', Bool.not_not, beq_iff_eq, bne_iff_ne, ne_eq, decide_eq_false_iff_not, len_lst T25 d25, len_sl T25 d25, len_nils T25 d25, ia_lst T25 d25 T5 s5, ia_sl T25 d25 T5 s5, load_fp1 T5 a5, load_p1 T5 a5, loadc_def, conv_int T5 T3 d3, e0]
      · simp only [↓code_skip, ↓code_seq, ↓code_region, ↓code_cond, ↓code_block, ↓code_loop, ↓code_exit, ↓code_ret, aCond_bool, ↓ops_nil, ↓ops_cons, run_none, run_someT, run_someF, run_tup, ↓run0_v, ↓run0_h, ↓run0_r, ↓seqK_normal, ↓seqK_exit, ↓seqK_ret, ↓blkK_normal, ↓blkK_ret, ↓blkK_exit, ↓retK_normal, ↓retK_ret, put_same, put_ne, put_none, env0_at, ev_tmp, ev_const, ev_func, oc_int, oc_bool, oc_str, oc_nils, oc_nilp, oc_nilf, oc_nilm, o_move, o_assign, o_pick, o_bin, o_call, o_len, o_alloc, o_box, o_build, o_buildSlice, o_load, o_store, o_nilCheck, o_un, o_convert, o_makeFunc, o_makeSlice, o_slice, o_fieldAddr, o_field, o_indexAddr, o_index, o_extract, o_append, o_min, o_max, g_none, g_some, pick_bool, bin_add, bin_sub, bin_mul, bin_quo, bin_rem, bin_eql, bin_neq, bin_or, bin_and, bin_lss, bin_leq, bin_gtr, bin_geq, bin_shr, bin_shl, str_add, str_eql, str_neq, un_not, extract_tup, nil_ptr, nil_fp, part_1, part_A, next_e0, next_one, get_e0, resultsOf, oneOrAll, Option.bind_some, Option.map_some, Option.map_none, Option.getD_some, decide_eq_true_eq, ↓reduceIte, Nat.reduceEqDiff, not_false_eq_true, not_true_eq_false, Nat.reduceAdd, Nat.reduceMul, reduceCtorEq, if_true, if_false, Nat.succ_ne_self, List.getElem?_cons_zero, List.getElem?_cons_succ, List.getElem?_toArray, Bool.false_eq_true, Bool.true_eq_false, List.map_cons, List.map_nil, List.append_nil, List.nil_append, List.cons_append, AH.get_alloc, AH.get_put, AH.next_alloc, AH.next_put, ite_self, true_and, and_true, Nat.reduceLeDiff, Nat.le_refl, gt_iff_lt, ge_iff_le, Bool.not_eq_true', Bool.not_eq_eq_eq_not, Bool.not_true, Bool.not_false, Bool.not_eq_false', Bool.not_not, beq_iff_eq, bne_iff_ne, ne_eq, decide_eq_false_iff_not, len_lst T25 d25, len_sl T25 d25, len_nils T25 d25, ia_lst T25 d25 T5 s5, ia_sl T25 d25 T5 s5, load_fp1 T5 a5, load_p1 T5 a5, loadc_def, conv_int T5 T3 d3, e3]; rw [take_snoc hi, sumS_snoc]
      · simp only [↓code_skip, ↓code_seq, ↓code_region, ↓code_cond, ↓code_block, ↓code_loop, ↓code_exit, ↓code_ret, aCond_bool, ↓ops_nil, ↓ops_cons, run_none, run_someT, run_someF, run_tup, ↓run0_v, ↓run0_h, ↓run0_r, ↓seqK_normal, ↓seqK_exit, ↓seqK_ret, ↓blkK_normal, ↓blkK_ret, ↓blkK_exit, ↓retK_normal, ↓retK_ret, put_same, put_ne, put_none, env0_at, ev_tmp, ev_const, ev_func, oc_int, oc_bool, oc_str, oc_nils, oc_nilp, oc_nilf, oc_nilm, o_move, o_assign, o_pick, o_bin, o_call, o_len, o_alloc, o_box, o_build, o_buildSlice, o_load, o_store, o_nilCheck, o_un, o_convert, o_makeFunc, o_makeSlice, o_slice, o_fieldAddr, o_field, o_indexAddr, o_index, o_extract, o_append, o_min, o_max, g_none, g_some, pick_bool, bin_add, bin_sub, bin_mul, bin_quo, bin_rem, bin_eql, bin_neq, bin_or, bin_and, bin_lss, bin_leq, bin_gtr, bin_geq, bin_shr, bin_shl, str_add, str_eql, str_neq, un_not, extract_tup, nil_ptr, nil_fp, part_1, part_A, next_e0, next_one, get_e0, resultsOf, oneOrAll, Option.bind_some, Option.map_some, Option.map_none, Option.getD_some, decide_eq_true_eq, ↓reduceIte, Nat.reduceEqDiff, not_false_eq_true, not_true_eq_false, Nat.reduceAdd, Nat.reduceMul, reduceCtorEq, if_true, if_false, Nat.succ_ne_self, List.getElem?_cons_zero, List.getElem?_cons_succ, List.getElem?_toArray, Bool.false_eq_true, Bool.true_eq_false, List.map_cons, List.map_nil, List.append_nil, List.nil_append, List.cons_append, AH.get_alloc, AH.get_put, AH.next_alloc, AH.next_put, ite_self, true_and, and_true, Nat.reduceLeDiff, Nat.le_refl, gt_iff_lt, ge_iff_le, Bool.not_eq_true', Bool.not_eq_eq_eq_not, Bool.not_true, Bool.not_false, Bool.not_eq_false', Bool.not_not, beq_iff_eq, bne_iff_ne, ne_eq, decide_eq_false_iff_not, len_lst T25 d25, len_sl T25 d25, len_nils T25 d25, ia_lst T25 d25 T5 s5, ia_sl T25 d25 T5 s5, load_fp1 T5 a5, load_p1 T5 a5, loadc_def, conv_int T5 T3 d3, e4]; rw [wrap_i64 (by omega) (by omega)]; rfl
    · have c1 : ¬ (i : Int) < (l.length : Int) := by omega
      rw [take_end (show i = l.length by omega)] at e3 hs
      have c2 : (((sumS l : Nat) : Int) = 0) = (sumS l = 0) := by simp
      simp +contextual only [↓code_skip, ↓code_seq, ↓code_region, ↓code_cond, ↓code_block, ↓code_loop, ↓code_exit, ↓code_ret, aCond_bool, ↓ops_nil, ↓ops_cons, run_none, run_someT, run_someF, run_tup, ↓run0_v, ↓run0_h, ↓run0_r, ↓seqK_normal, ↓seqK_exit, ↓seqK_ret, ↓blkK_normal, ↓blkK_ret, ↓blkK_exit, ↓retK_normal, ↓retK_ret, put_same, put_ne, put_none, env0_at, ev_tmp, ev_const, ev_func, oc_int, oc_bool, oc_str, oc_nils, oc_nilp, oc_nilf, oc_nilm, o_move, o_assign, o_pick, o_bin, o_call, o_len, o_alloc, o_box, o_build, o_buildSlice, o_load, o_store, o_nilCheck, o_un, o_convert, o_makeFunc, o_makeSlice, o_slice, o_fieldAddr, o_field, o_indexAddr, o_index, o_extract, o_append, o_min, o_max, g_none, g_some, pick_bool, bin_add, bin_sub, bin_mul, bin_quo, bin_rem, bin_eql, bin_neq, bin_or, bin_and, bin_lss, bin_leq, bin_gtr, bin_geq, bin_shr, bin_shl, str_add, str_eql, str_neq, un_not, extract_tup, nil_ptr, nil_fp, part_1, part_A, next_e0, next_one, get_e0, resultsOf, oneOrAll, Option.bind_some, Option.map_some, Option.map_none, Option.getD_some, decide_eq_true_eq, ↓reduceIte, Nat.reduceEqDiff, not_false_eq_true, not_true_eq_false, Nat.reduceAdd, Nat.reduceMul, reduceCtorEq, if_true, if_false, Nat.succ_ne_self, List.getElem?_cons_zero, List.getElem?_cons_succ, List.getElem?_toArray, Bool.false_eq_true, Bool.true_eq_false, List.map_cons, List.map_nil, List.append_nil, List.nil_append, List.cons_append, AH.get_alloc, AH.get_put, AH.next_alloc, AH.next_put, ite_self, true_and, and_true, Nat.reduceLeDiff, Nat.le_refl, gt_iff_lt, ge_iff_le, Bool.not_eq_true', Bool.not_eq_eq_eq_not, Bool.not_true, Bool.not_false, Bool.not_eq_false', Bool.not_not, beq_iff_eq, bne_iff_ne, ne_eq, decide_eq_false_iff_not, len_lst T25 d25, len_sl T25 d25, len_nils T25 d25, ia_lst T25 d25 T5 s5, ia_sl T25 d25 T5 s5, load_fp1 T5 a5, load_p1 T5 a5, loadc_def, conv_int T5 T3 d3, e0, e3, e4, c1]
      refine hexit _ _ _ (by simp) ⟨h', ?_⟩
      simp +contextual only [↓code_skip, ↓code_seq, ↓code_region, ↓code_cond, ↓code_block, ↓code_loop, ↓code_exit, ↓code_ret, aCond_bool, ↓ops_nil, ↓ops_cons, run_none, run_someT, run_someF, run_tup, ↓run0_v, ↓run0_h, ↓run0_r, ↓seqK_normal, ↓seqK_exit, ↓seqK_ret, ↓blkK_normal, ↓blkK_ret, ↓blkK_exit, ↓retK_normal, ↓retK_ret, put_same, put_ne, put_none, env0_at, ev_tmp, ev_const, ev_func, oc_int, oc_bool, oc_str, oc_nils, oc_nilp, oc_nilf, oc_nilm, o_move, o_assign, o_pick, o_bin, o_call, o_len, o_alloc, o_box, o_build, o_buildSlice, o_load, o_store, o_nilCheck, o_un, o_convert, o_makeFunc, o_makeSlice, o_slice, o_fieldAddr, o_field, o_indexAddr, o_index, o_extract, o_append, o_min, o_max, g_none, g_some, pick_bool, bin_add, bin_sub, bin_mul, bin_quo, bin_rem, bin_eql, bin_neq, bin_or, bin_and, bin_lss, bin_leq, bin_gtr, bin_geq, bin_shr, bin_shl, str_add, str_eql, str_neq, un_not, extract_tup, nil_ptr, nil_fp, part_1, part_A, next_e0, next_one, get_e0, resultsOf, oneOrAll, Option.bind_some, Option.map_some, Option.map_none, Option.getD_some, decide_eq_true_eq, ↓reduceIte, Nat.reduceEqDiff, not_false_eq_true, not_true_eq_false, Nat.reduceAdd, Nat.reduceMul, reduceCtorEq, if_true, if_false, Nat.succ_ne_self, List.getElem?_cons_zero, List.getElem?_cons_succ, List.getElem?_toArray, Bool.false_eq_true, Bool.true_eq_false, List.map_cons, List.map_nil, List.append_nil, List.nil_append, List.cons_append, AH.get_alloc, AH.get_put, AH.next_alloc, AH.next_put, ite_self, true_and, and_true, Nat.reduceLeDiff, Nat.le_refl, gt_iff_lt, ge_iff_le, Bool.not_eq_true', Bool.not_eq_eq_eq_not, Bool.not_true, Bool.not_false, Bool.not_eq_false', Bool.not_not, beq_iff_eq, bne_iff_ne, ne_eq, decide_eq_false_iff_not, len_lst T25 d25, len_sl T25 d25, len_nils T25 d25, ia_lst T25 d25 T5 s5, ia_sl T25 d25 T5 s5, load_fp1 T5 a5, load_p1 T5 a5, loadc_def, conv_int T5 T3 d3, e0, e3, e4, c2, sumR]
      split <;> rfl
  · refine ⟨0, by omega, ?_, ?_, ?_, ?_⟩
    · omega
    · simp only [↓code_skip, ↓code_seq, ↓code_region, ↓code_cond, ↓code_block, ↓code_loop, ↓code_exit, ↓code_ret, aCond_bool, ↓ops_nil, ↓ops_cons, run_none, run_someT, run_someF, run_tup, ↓run0_v, ↓run0_h, ↓run0_r, ↓seqK_normal, ↓seqK_exit, ↓seqK_ret, ↓blkK_normal, ↓blkK_ret, ↓blkK_exit, ↓retK_normal, ↓retK_ret, put_same, put_ne, put_none, env0_at, ev_tmp, ev_const, ev_func, oc_int, oc_bool, oc_str, oc_nils, oc_nilp, oc_nilf, oc_nilm, o_move, o_assign, o_pick, o_bin, o_call, o_len, o_alloc, o_box, o_build, o_buildSlice, o_load, o_store, o_nilCheck, o_un, o_convert, o_makeFunc, o_makeSlice, o_slice, o_fieldAddr, o_field, o_indexAddr, o_index, o_extract, o_append, o_min, o_max, g_none, g_some, pick_bool, bin_add, bin_sub, bin_mul, bin_quo, bin_rem, bin_eql, bin_neq, bin_or, bin_and, bin_lss, bin_leq, bin_gtr, bin_geq, bin_shr, bin_shl, str_add, str_eql, str_neq, un_not, extract_tup, nil_ptr, nil_fp, part_1, part_A, next_e0, next_one, get_e0, resultsOf, oneOrAll, Option.bind_some, Option.map_some, Option.map_none, Option.getD_some, decide_eq_true_eq, ↓reduceIte, Nat.reduceEqDiff, not_false_eq_true, not_true_eq_false, Nat.reduceAdd, Nat.reduceMul, reduceCtorEq, if_true, if_false, Nat.succ_ne_self, List.getElem?_cons_zero, List.getElem?_cons_succ, List.getElem?_toArray, Bool.false_eq_true, Bool.true_eq_false, List.map_cons, List.map_nil, List.append_nil, List.nil_append, List.cons_append, AH.get_alloc, AH.get_put, AH.next_alloc, AH.next_put, ite_self, true_and, and_true, Nat.reduceLeDiff, Nat.le_refl, gt_iff_lt, ge_iff_le, Bool.not_eq_true', Bool.not_eq_eq_eq_not, Bool.not_true, Bool.not_false, Bool.not_eq_false', Bool.not_not, beq_iff_eq, bne_iff_ne, ne_eq, decide_eq_false_iff_not, len_lst T25 d25, len_sl T25 d25, len_nils T25 d25, ia_lst T25 d25 T5 s5, ia_sl T25 d25 T5 s5, load_fp1 T5 a5, load_p1 T5 a5, loadc_def, conv_int T5 T3 d3]
    · simp only [↓code_skip, ↓code_seq, ↓code_region, ↓code_cond, ↓code_block, ↓code_loop, ↓code_exit, ↓code_ret, aCond_bool, ↓ops_nil, ↓ops_cons, run_none, run_someT, run_someF, run_tup, ↓run0_v, ↓run0_h, ↓run0_r, ↓seqK_normal, ↓seqK_exit, ↓seqK_ret, ↓blkK_normal, ↓blkK_ret, ↓blkK_exit, ↓retK_normal, ↓retK_ret, put_same, put_ne, put_none, env0_at, ev_tmp, ev_const, ev_func, oc_int, oc_bool, oc_str, oc_nils, oc_nilp, oc_nilf, oc_nilm, o_move, o_assign, o_pick, o_bin, o_call, o_len, o_alloc, o_box, o_build, o_buildSlice, o_load, o_store, o_nilCheck, o_un, o_convert, o_makeFunc, o_makeSlice, o_slice, o_fieldAddr, o_field, o_indexAddr, o_index, o_extract, o_append, o_min, o_max, g_none, g_some, pick_bool, bin_add, bin_sub, bin_mul, bin_quo, bin_rem, bin_eql, bin_neq, bin_or, bin_and, bin_lss, bin_leq, bin_gtr, bin_geq, bin_shr, bin_shl, str_add, str_eql, str_neq, un_not, extract_tup, nil_ptr, nil_fp, part_1, part_A, next_e0, next_one, get_e0, resultsOf, oneOrAll, Option.bind_some, Option.map_some, Option.map_none, Option.getD_some, decide_eq_true_eq, ↓reduceIte, Nat.reduceEqDiff, not_false_eq_true, not_true_eq_false, Nat.reduceAdd, Nat.reduceMul, reduceCtorEq, if_true, if_false, Nat.succ_ne_self, List.getElem?_cons_zero, List.getElem?_cons_succ, List.getElem?_toArray, Bool.false_eq_true, Bool.true_eq_false, List.map_cons, List.map_nil, List.append_nil, List.nil_append, List.cons_append, AH.get_alloc, AH.get_put, AH.next_alloc, AH.next_put, ite_self, true_and, and_true, Nat.reduceLeDiff, Nat.le_refl, gt_iff_lt, ge_iff_le, Bool.not_eq_true', Bool.not_eq_eq_eq_not, Bool.not_true, Bool.not_false, Bool.not_eq_false', Bool.not_not, beq_iff_eq, bne_iff_ne, ne_eq, decide_eq_false_iff_not, len_lst T25 d25, len_sl T25 d25, len_nils T25 d25, ia_lst T25 d25 T5 s5, ia_sl T25 d25 T5 s5, load_fp1 T5 a5, load_p1 T5 a5, loadc_def, conv_int T5 T3 d3]; rfl
    · simp only [↓code_skip, ↓code_seq, ↓code_region, ↓code_cond, ↓code_block, ↓code_loop, ↓code_exit, ↓code_ret, aCond_bool, ↓ops_nil, ↓ops_cons, run_none, run_someT, run_someF, run_tup, ↓run0_v, ↓run0_h, ↓run0_r, ↓seqK_normal, ↓seqK_exit, ↓seqK_ret, ↓blkK_normal, ↓blkK_ret, ↓blkK_exit, ↓retK_normal, ↓retK_ret, put_same, put_ne, put_none, env0_at, ev_tmp, ev_const, ev_func, oc_int, oc_bool, oc_str, oc_nils, oc_nilp, oc_nilf, oc_nilm, o_move, o_assign, o_pick, o_bin, o_call, o_len, o_alloc, o_box, o_build, o_buildSlice, o_load, o_store, o_nilCheck, o_un, o_convert, o_makeFunc, o_makeSlice, o_slice, o_fieldAddr, o_field, o_indexAddr, o_index, o_extract, o_append, o_min, o_max, g_none, g_some, pick_bool, bin_add, bin_sub, bin_mul, bin_quo, bin_rem, bin_eql, bin_neq, bin_or, bin_and, bin_lss, bin_leq, bin_gtr, bin_geq, bin_shr, bin_shl, str_add, str_eql, str_neq, un_not, extract_tup, nil_ptr, nil_fp, part_1, part_A, next_e0, next_one, get_e0, resultsOf, oneOrAll, Option.bind_some, Option.map_some, Option.map_none, Option.getD_some, decide_eq_true_eq, ↓reduceIte, Nat.reduceEqDiff, not_false_eq_true, not_true_eq_false, Nat.reduceAdd, Nat.reduceMul, reduceCtorEq, if_true, if_false, Nat.succ_ne_self, List.getElem?_cons_zero, List.getElem?_cons_succ, List.getElem?_toArray, Bool.false_eq_true, Bool.true_eq_false, List.map_cons, List.map_nil, List.append_nil, List.nil_append, List.cons_append, AH.get_alloc, AH.get_put, AH.next_alloc, AH.next_put, ite_self, true_and, and_true, Nat.reduceLeDiff, Nat.le_refl, gt_iff_lt, ge_iff_le, Bool.not_eq_true', Bool.not_eq_eq_eq_not, Bool.not_true, Bool.not_false, Bool.not_eq_false', Bool.not_not, beq_iff_eq, bne_iff_ne, ne_eq, decide_eq_false_iff_not, len_lst T25 d25, len_sl T25 d25, len_nils T25 d25, ia_lst T25 d25 T5 s5, ia_sl T25 d25 T5 s5, load_fp1 T5 a5, load_p1 T5 a5, loadc_def, conv_int T5 T3 d3]; rfl
theorem K64 {I : Nat → Option (List AV → AH → Rs)} (h64 : I 64 = some (pureG g64)) (m : Nat) (s : List UInt8) (ex : Bool) (h : AH) (hl : s.length < 140737488355328) : call F I T (m + 1) 64 [.lst ex 1 s.length (s.map vByte.enc)] h = some (.int .i64 (sumR s), h) := by
  rw [call_I (by decide) h64]
  refine pureG_flat (by have h1 : flatL (s.map vByte.enc) = true := flatL_map (fun _ => rfl) s; simp [flatL, AV.flat, h1]) ?_
  have := vList_dec dByte_enc' ex s
  show ((vList vByte).dec (.lst ex 1 s.length (s.map vByte.enc))).bind _ = _
  rw [this]
  simp [hl]
theorem K64s {I : Nat → Option (List AV → AH → Rs)} (h64 : I 64 = some (pureG g64)) (m : Nat) (s : List UInt8) (b : Nat) (ex : Bool) (k : BK) (h : AH) (hl : s.length < 140737488355328) (hb : h.get b = some (.cells (ofBytes s) k)) : call F I T (m + 1) 64 [.sl b 0 s.length s.length 1 ex] h = some (.int .i64 (sumR s), h) := by
  rw [call_I (by decide) h64]
  refine pureG_view (bs := [.lst (ex && true) 1 s.length (ofBytes s)]) (by simp [flatL, AV.flat]) ?_ ?_ rfl
  · exact frzMap_cons (by rw [frz_sl (k := 8) hb (by rw [ofBytes_len]; omega) (frz_bytes _)]; simp) frzMap_nil
  · have := vList_dec dByte_enc' (ex && true) s
    show ((vList vByte).dec (.lst (ex && true) 1 s.length (s.map vByte.enc))).bind _ = _
    rw [this]
    simp [hl]
/-- Groups. -/
def group (s : List UInt8) : AV := if isZone s = true then .tup [.int .i64 ((sumR (fold s)).tmod 253), .int .i64 0] else .tup [.int .i64 0, .int .i64 2]
theorem fold_len (s : List UInt8) : (fold s).length = s.length := by simp [fold]
noncomputable def g20 := G1 vStr fun s => if s.length < 140737488355327 then some (group s) else none
theorem run20 {I : Nat → Option (List AV → AH → Rs)} (h22 : I 22 = none) (h62 : I 62 = some (pureG g62)) (h63 : I 63 = some (pureG g63)) (h20 : I 20 = none) (s : List UInt8) (m : Nat) (hl : s.length < 140737488355327) : ∃ h', call F I T (m + 3) 20 [.str s] e0 = some (group s, h') := by
  rw [call_F (by decide) h20 F20 rfl R20]; simp only [Try.f20, Option.getD]
  have hl1 : s.length < 140737488355328 := by omega
  have hl2 : (fold s).length < maxBytes := by rw [fold_len]; exact hl1
  have c1 := fun k => K62s h62 k (fold s) 0 false .byt (e0.alloc (.cells (ofBytes (fold s)) .byt)) (by rw [fold_len]; exact hl1) (by rw [AH.get_alloc]; rfl)
  simp +contextual only [↓code_skip, ↓code_seq, ↓code_region, ↓code_cond, ↓code_block, ↓code_loop, ↓code_exit, ↓code_ret, aCond_bool, ↓ops_nil, ↓ops_cons, run_none, run_someT, run_someF, run_tup, ↓run0_v, ↓run0_h, ↓run0_r, ↓seqK_normal, ↓seqK_exit, ↓seqK_ret, ↓blkK_normal, ↓blkK_ret, ↓blkK_exit, ↓retK_normal, ↓retK_ret, put_same, put_ne, put_none, env0_at, ev_tmp, ev_const, ev_func, oc_int, oc_bool, oc_str, oc_nils, oc_nilp, oc_nilf, oc_nilm, o_move, o_assign, o_pick, o_bin, o_call, o_len, o_alloc, o_box, o_build, o_buildSlice, o_load, o_store, o_nilCheck, o_un, o_convert, o_makeFunc, o_makeSlice, o_slice, o_fieldAddr, o_field, o_indexAddr, o_index, o_extract, o_append, o_min, o_max, g_none, g_some, pick_bool, bin_add, bin_sub, bin_mul, bin_quo, bin_rem, bin_eql, bin_neq, bin_or, bin_and, bin_lss, bin_leq, bin_gtr, bin_geq, bin_shr, bin_shl, str_add, str_eql, str_neq, un_not, extract_tup, nil_ptr, nil_fp, part_1, part_A, next_e0, next_one, get_e0, resultsOf, oneOrAll, Option.bind_some, Option.map_some, Option.map_none, Option.getD_some, decide_eq_true_eq, ↓reduceIte, Nat.reduceEqDiff, not_false_eq_true, not_true_eq_false, Nat.reduceAdd, Nat.reduceMul, reduceCtorEq, if_true, if_false, Nat.succ_ne_self, List.getElem?_cons_zero, List.getElem?_cons_succ, List.getElem?_toArray, Bool.false_eq_true, Bool.true_eq_false, List.map_cons, List.map_nil, List.append_nil, List.nil_append, List.cons_append, AH.get_alloc, AH.get_put, AH.next_alloc, AH.next_put, ite_self, true_and, and_true, Nat.reduceLeDiff, Nat.le_refl, gt_iff_lt, ge_iff_le, Bool.not_eq_true', Bool.not_eq_eq_eq_not, Bool.not_true, Bool.not_false, Bool.not_eq_false', Bool.not_not, beq_iff_eq, bne_iff_ne, ne_eq, decide_eq_false_iff_not, conv_bytes T9 T25 d25 d9 T5 d5 s5, callV_fn (g := 22) (by decide), K22 h22, callV_fn (g := 62) (by decide), K62 h62, callV_fn (g := 63) (by decide), K63 h63, hl1, hl2, c1, show ¬ ((253 : Int) = 0) by decide]
  unfold group
  cases hz : isZone s <;> simp <;> exact ⟨_, rfl⟩
noncomputable def g21 := G1 vStr fun s => if s.length < 140737488355327 then some (group s) else none
theorem run21 {I : Nat → Option (List AV → AH → Rs)} (h23 : I 23 = none) (h64 : I 64 = some (pureG g64)) (h65 : I 65 = some (pureG g65)) (h21 : I 21 = none) (s : List UInt8) (m : Nat) (hl : s.length < 140737488355327) : ∃ h', call F I T (m + 3) 21 [.str s] e0 = some (group s, h') := by
  rw [call_F (by decide) h21 F21 rfl R21]; simp only [Try.f21, Option.getD]
  have hl2 : (fold s).length < maxBytes := by rw [fold_len]; unfold maxBytes; omega
  have c1 := fun k => K64s h64 k (fold s) 0 false .byt (e0.alloc (.cells (ofBytes (fold s)) .byt)) (by rw [fold_len]; omega) (by rw [AH.get_alloc]; rfl)
  simp +contextual only [↓code_skip, ↓code_seq, ↓code_region, ↓code_cond, ↓code_block, ↓code_loop, ↓code_exit, ↓code_ret, aCond_bool, ↓ops_nil, ↓ops_cons, run_none, run_someT, run_someF, run_tup, ↓run0_v, ↓run0_h, ↓run0_r, ↓seqK_normal, ↓seqK_exit, ↓seqK_ret, ↓blkK_normal, ↓blkK_ret, ↓blkK_exit, ↓retK_normal, ↓retK_ret, put_same, put_ne, put_none, env0_at, ev_tmp, ev_const, ev_func, oc_int, oc_bool, oc_str, oc_nils, oc_nilp, oc_nilf, oc_nilm, o_move, o_assign, o_pick, o_bin, o_call, o_len, o_alloc, o_box, o_build, o_buildSlice, o_load, o_store, o_nilCheck, o_un, o_convert, o_makeFunc, o_makeSlice, o_slice, o_fieldAddr, o_field, o_indexAddr, o_index, o_extract, o_append, o_min, o_max, g_none, g_some, pick_bool, bin_add, bin_sub, bin_mul, bin_quo, bin_rem, bin_eql, bin_neq, bin_or, bin_and, bin_lss, bin_leq, bin_gtr, bin_geq, bin_shr, bin_shl, str_add, str_eql, str_neq, un_not, extract_tup, nil_ptr, nil_fp, part_1, part_A, next_e0, next_one, get_e0, resultsOf, oneOrAll, Option.bind_some, Option.map_some, Option.map_none, Option.getD_some, decide_eq_true_eq, ↓reduceIte, Nat.reduceEqDiff, not_false_eq_true, not_true_eq_false, Nat.reduceAdd, Nat.reduceMul, reduceCtorEq, if_true, if_false, Nat.succ_ne_self, List.getElem?_cons_zero, List.getElem?_cons_succ, List.getElem?_toArray, Bool.false_eq_true, Bool.true_eq_false, List.map_cons, List.map_nil, List.append_nil, List.nil_append, List.cons_append, AH.get_alloc, AH.get_put, AH.next_alloc, AH.next_put, ite_self, true_and, and_true, Nat.reduceLeDiff, Nat.le_refl, gt_iff_lt, ge_iff_le, Bool.not_eq_true', Bool.not_eq_eq_eq_not, Bool.not_true, Bool.not_false, Bool.not_eq_false', Bool.not_not, beq_iff_eq, bne_iff_ne, ne_eq, decide_eq_false_iff_not, conv_bytes T9 T25 d25 d9 T5 d5 s5, callV_fn (g := 23) (by decide), K23 h23, callV_fn (g := 64) (by decide), K64 h64, callV_fn (g := 65) (by decide), K65 h65, hl, hl2, c1, show ¬ ((253 : Int) = 0) by decide]
  unfold group
  cases hz : isZone s <;> simp <;> exact ⟨_, rfl⟩
end Go.AM.X
namespace Go.AM.X
open Go Go.AM Go.Proofs Go.AM.Sx
theorem first12 : isT (call F noI T 60 12 [] e0) = true := by kernel_rfl
end Go.AM.X
namespace Go.AM.X
open Go Go.AM Go.Proofs Go.AM.Sx
set_option maxHeartbeats 400000
set_option maxRecDepth 100000
set_option linter.unusedSimpArgs false
set_option linter.unusedVariables false
noncomputable def g12 : List AV → Option AV
  | [] => some (.bool true)
  | _ => none
theorem F12 : ∃ fi, F 12 = some fi := ⟨{ body := (Try.f12.body.getD .skip), results := Try.f12.results.toList, rf := false }, by kernel_rfl⟩
noncomputable def I0 : Nat → Option (List AV → AH → Rs) := noI
theorem A0 : IAgree Try.prog I0 := noI_agree _
noncomputable def I1 := addI I0 12 (pureG g12)
theorem A1 : IAgree Try.prog I1 := by
  obtain ⟨fi, hfi⟩ := F12
  refine pure_agree hT hmix hF A0 (by decide) fi hfi fun args v hg _ => ?_
  unfold g12 at hg
  split at hg
  · cases hg
    obtain ⟨h', hc⟩ := isT_some first12
    exact ⟨[], 60, 1, h', .bool true, .bool true, WkL.refl _, hc, by simp [frzF, AV.flat], Wk.refl _⟩
  · cases hg
noncomputable def I2 := addI I1 63 (pureG g63)
theorem A2 : IAgree Try.prog I2 := agree1 hT hmix hF A1 (by decide) F63 fun x r hs => by
  split at hs
  · rename_i hc; cases hs; exact fin (run63 rfl rfl x 0 hc) (fun h => by simp [frzF, AV.flat])
  · cases hs
noncomputable def I3 := addI I2 84 (pureG g84)
theorem A3 : IAgree Try.prog I3 := agree2 hT hmix hF A2 (by decide) F84 fun x y r hs => by
  split at hs
  · rename_i hc; cases hs; exact fin (run84 rfl rfl x y 0 hc.1 hc.2) (fun h => by simp [frzF, AV.flat])
  · cases hs
noncomputable def I4 := addI I3 86 (pureG g86)
theorem A4 : IAgree Try.prog I4 := agree2 hT hmix hF A3 (by decide) F86 fun x y r hs => by
  split at hs
  · rename_i hc; cases hs; exact fin (run86 rfl rfl rfl x y 0 hc.1 hc.2) (fun h => by simp [frzF, AV.flat])
  · cases hs
noncomputable def I5 := addI I4 65 (pureG g65)
theorem A5 : IAgree Try.prog I5 := agree1 hT hmix hF A4 (by decide) F65 fun x r hs => by
  split at hs
  · rename_i hc; cases hs; exact fin (run65 rfl rfl x 0 hc) (fun h => by simp [frzF, AV.flat])
  · cases hs
noncomputable def I6 := addI I5 62 (pureG g62)
theorem A6 : IAgree Try.prog I6 := agree1 hT hmix hF A5 (by decide) F62 fun x r hs => by
  split at hs
  · rename_i hc; cases hs; exact fin (run62  rfl x 0 hc) (fun h => by simp [frzF, AV.flat])
  · cases hs
noncomputable def I7 := addI I6 64 (pureG g64)
theorem A7 : IAgree Try.prog I7 := agree1 hT hmix hF A6 (by decide) F64 fun x r hs => by
  split at hs
  · rename_i hc; cases hs; exact fin (run64  rfl x 0 hc) (fun h => by simp [frzF, AV.flat])
  · cases hs
noncomputable def I8 := addI I7 55 (pureG g55)
theorem A8 : IAgree Try.prog I8 := agree2 hT hmix hF A7 (by decide) F55 fun x y r hs => by
  split at hs
  · rename_i hc; cases hs; exact fin (run55 rfl rfl (h101 := rfl) (h56 := rfl) (h22 := rfl) (h84 := rfl) x y 0 hc.1 hc.2) (fun h => by simp [frzF, AV.flat])
  · cases hs
noncomputable def I9 := addI I8 66 (pureG g66)
theorem A9 : IAgree Try.prog I9 := agree2 hT hmix hF A8 (by decide) F66 fun x y r hs => by
  split at hs
  · rename_i hc; cases hs; exact fin (run66 rfl rfl x y 0 hc.1 hc.2) (fun h => by simp [frzF, AV.flat])
  · cases hs
noncomputable def I10 := addI I9 67 (pureG g67)
theorem A10 : IAgree Try.prog I10 := agree2 hT hmix hF A9 (by decide) F67 fun x y r hs => by
  split at hs
  · rename_i hc; cases hs; exact fin (run67 rfl rfl x y 0 hc.1 hc.2) (fun h => by simp [frzF, AV.flat])
  · cases hs
noncomputable def I11 := addI I10 24 (pureG g24)
theorem A11 : IAgree Try.prog I11 := agree1 hT hmix hF A10 (by decide) F24 fun x r hs => by
  split at hs
  · rename_i hc; cases hs; exact fin (run24 rfl rfl rfl x 0 hc) (fun h => by simp [frzF, AV.flat])
  · cases hs
noncomputable def I12 := addI I11 25 (pureG g25)
theorem A12 : IAgree Try.prog I12 := agree1 hT hmix hF A11 (by decide) F25 fun x r hs => by
  split at hs
  · rename_i hc; cases hs; exact fin (run25 rfl rfl rfl x 0 hc) (fun h => by simp [frzF, AV.flat])
  · cases hs
noncomputable def I13 := addI I12 20 (pureG g20)
theorem frz_group (s : List UInt8) (h : AH) : frzF false 3 h (group s) = some (group s) := by
  unfold group; split <;> simp [frzF, frzMap, AV.flat]
theorem A13 : IAgree Try.prog I13 := agree1 hT hmix hF A12 (by decide) F20 fun x r hs => by
  split at hs
  · rename_i hc; cases hs; exact fin (run20 rfl rfl rfl rfl x 0 hc) (frz_group x)
  · cases hs
noncomputable def I14 := addI I13 21 (pureG g21)
theorem A14 : IAgree Try.prog I14 := agree1 hT hmix hF A13 (by decide) F21 fun x r hs => by
  split at hs
  · rename_i hc; cases hs; exact fin (run21 rfl rfl rfl rfl x 0 hc) (frz_group x)
  · cases hs
end Go.AM.X
namespace Go.AM.X
open Go Go.AM Go.Proofs Go.AM.Sx
set_option maxHeartbeats 400000
set_option maxRecDepth 100000
set_option linter.unusedSimpArgs false
set_option linter.unusedVariables false
end Go.AM.X
namespace Go.AM.X
open Go Go.AM Go.Proofs Go.AM.Sx
set_option maxHeartbeats 400000
set_option maxRecDepth 100000
set_option linter.unusedSimpArgs false
set_option linter.unusedVariables false
theorem setF_setF {α : Type} : ∀ (k : Nat) (t : PT α) (n : Nat) (x y : α), PT.setF k (PT.setF k t n x) n y = PT.setF k t n y
  | 0, _, _, _, _ => rfl
  | k + 1, .leaf, n, x, y => by
    cases h0 : Nat.beq n 0 <;> cases h1 : Nat.beq (n % 2) 1 <;> simp only [PT.setF, h0, h1, setF_setF k]
  | k + 1, .node v l r, n, x, y => by
    cases h0 : Nat.beq n 0 <;> cases h1 : Nat.beq (n % 2) 1 <;> simp only [PT.setF, h0, h1, setF_setF k]
def ok (b : List UInt8) (p e : Int) : Prop := e = 0 → 0 ≤ p ∧ p ≤ b.length
/-! the reference's reader -/
end Go.AM.X
namespace Go.AM.X
open Go Go.AM Go.Proofs Go.AM.Sx
set_option maxHeartbeats 400000
set_option maxRecDepth 100000
set_option linter.unusedSimpArgs false
set_option linter.unusedVariables false
theorem frz_tup1 {k : Nat} {h : AH} {v v0 : AV} {n : Int} (hv : frzF false k h v = some v0) : frzF false (k + 1) h (.tup [v, .int .i64 n]) = some (.tup [v0, .int .i64 n]) := by
  cases k with
  | zero => simp [frzF] at hv
  | succ k =>
    show (frzMap (frzF false (k + 1) h) [v, .int .i64 n]).map AV.tup = _
    have h1 : frzF false (k + 1) h (.int .i64 n) = some (.int .i64 n) := rfl
    simp only [frzMap, hv, h1, Option.map_some]
end Go.AM.X
namespace Go.AM.X
open Go Go.AM Go.Proofs Go.AM.Sx
set_option maxHeartbeats 400000
set_option linter.unusedSimpArgs false
set_option linter.unusedVariables false
end Go.AM.X
namespace Go.AM.X
open Go Go.AM Go.Proofs Go.AM.Sx
set_option maxHeartbeats 400000
set_option maxRecDepth 100000
set_option linter.unusedSimpArgs false
set_option linter.unusedVariables false
end Go.AM.X
namespace Go.AM.X
open Go Go.AM Go.Proofs Go.AM.Sx
set_option maxHeartbeats 800000
set_option maxRecDepth 100000
set_option linter.unusedSimpArgs false
set_option linter.unusedVariables false
end Go.AM.X
namespace Go.AM.X
open Go Go.AM Go.Proofs Go.AM.Sx
set_option maxHeartbeats 800000
set_option maxRecDepth 100000
set_option linter.unusedSimpArgs false
set_option linter.unusedVariables false
end Go.AM.X
namespace Go.AM.Sx
open Go Go.AM
set_option linter.unusedSimpArgs false
set_option linter.unusedVariables false
theorem Row.lt {h : AH} {v : AV} {n : Nat} {cs : List AV} (hr : Row 1 h v n cs) {b o l k z : Nat} {x : Bool} (hv : v = .sl b o l k z x) : b < h.next := by
  rcases hr with ⟨rfl, _⟩ | ⟨b', rfl, _, _, h3, _⟩
  · cases hv
  · cases hv; exact h3
theorem Row.put {h : AH} {v : AV} {n : Nat} {cs : List AV} (hr : Row 1 h v n cs) {q : Nat} (hoff : offRow v q) (x : AB) : Row 1 (h.put q x) v n cs :=
  hr.keep (by simp) (fun bl hv => by rw [AH.get_put, if_neg (fun hq => hoff _ _ _ _ _ _ hv hq.symm)])
end Go.AM.Sx
namespace Go.AM.X
open Go Go.AM Go.Proofs Go.AM.Sx
set_option maxHeartbeats 800000
set_option maxRecDepth 100000
set_option linter.unusedSimpArgs false
set_option linter.unusedVariables false
end Go.AM.X
namespace Go.AM.X
open Go Go.AM Go.Proofs Go.AM.Sx
set_option maxHeartbeats 800000
set_option maxRecDepth 100000
set_option linter.unusedSimpArgs false
set_option linter.unusedVariables false
end Go.AM.X
namespace Go.AM.X
open Go Go.AM Go.Proofs Go.AM.Sx
set_option maxHeartbeats 400000
set_option maxRecDepth 100000
set_option linter.unusedSimpArgs false
set_option linter.unusedVariables false
end Go.AM.X
