/- Long names for short ones: contracts. Own work. -/
import Derived.Test.YtkaihcpnomdkkaaDoorLlgG
import Derived.Test.YtkaihcpnomdkkaaDoorAmLower
namespace Go.AM.X.G
open Go Go.AM Go.Proofs Go.AM.Sx Go.AM.X
set_option maxHeartbeats 3200000
set_option maxRecDepth 100000
set_option linter.unusedSimpArgs false
set_option linter.unusedVariables false
theorem F23 : F 23 = some { body := (Tryd.f23.body.getD .skip), results := Tryd.f23.results.toList, rf := false } := by kernel_rfl
theorem R23 : regsOk T (Tryd.f23.body.getD .skip) = true := by kernel_rfl
theorem F24 : F 24 = some { body := (Tryd.f24.body.getD .skip), results := Tryd.f24.results.toList, rf := false } := by kernel_rfl
theorem R24 : regsOk T (Tryd.f24.body.getD .skip) = true := by kernel_rfl
theorem F47 : F 47 = some { body := (Tryd.f47.body.getD .skip), results := Tryd.f47.results.toList, rf := false } := by kernel_rfl
theorem R47 : regsOk T (Tryd.f47.body.getD .skip) = true := by kernel_rfl
theorem F48 : F 48 = some { body := (Tryd.f48.body.getD .skip), results := Tryd.f48.results.toList, rf := false } := by kernel_rfl
theorem R48 : regsOk T (Tryd.f48.body.getD .skip) = true := by kernel_rfl
theorem K44 {I : Nat → Option (List AV → AH → Rs)} (h44 : I 44 = some lowG) (m : Nat) (s : List UInt8) (h : AH) (h0 : s.all (fun c => decide (c.toNat < 128)) = true) (hl : s.length < 140737488355328) : call F I T (m + 1) 44 [.str s] h = some (.str (Lib.toLowerA s), h) := by
  rw [call_I (by decide) h44]
  simp only [lowG]
  rw [if_pos ⟨h0, hl⟩]
theorem dig_sl : ∀ n : Fin 10, (([48, 49, 50, 51, 52, 53, 54, 55, 56, 57] : List UInt8).take (n.val + 1)).drop n.val = [UInt8.ofNat (48 + n.val)] := by decide
theorem run48 {I : Nat → Option (List AV → AH → Rs)} (h48 : I 48 = none) : ∀ (n : Nat), n ≤ 1000000 → ∀ (m : Nat) (h : AH), call F I T (m + n + 2) 48 [.int .i64 ((n : Nat) : Int)] h = some (.str (Lib.decDigits n), h) := by
  intro n
  induction n using Nat.strongRecOn with
  | _ n ih =>
    intro hn m h
    rw [call_F (by decide) h48 F48 rfl R48]; simp only [Tryd.f48, Option.getD]
    by_cases q : (n : Int) < 10
    · have c1 : IntKind.i64.wrap ((n : Int) + 1) = ((n + 1 : Nat) : Int) := by rw [wrap_i64 (by omega) (by omega)]; rfl
      have c2 := str_slice (s := [48, 49, 50, 51, 52, 53, 54, 55, 56, 57]) (i := n) (j := n + 1) (by omega) (by simp; omega)
      have c3 := dig_sl ⟨n, by omega⟩
      simp only at c3
      rw [c3] at c2
      have hd : Lib.decDigits n = [UInt8.ofNat (48 + n)] := by rw [Lib.decDigits, dif_pos (by omega)]
      rw [hd]
      simp +contextual (maxSteps := 3000000) only [↓code_skip, ↓code_seq, ↓code_region, ↓code_cond, ↓code_block, ↓code_scope, ↓code_label, ↓code_loop, ↓code_exit, ↓code_ret, aCond_bool, ↓ops_nil, ↓ops_cons, run_none, run_someT, run_someF, run_tup, ↓run0_v, ↓run0_h, ↓run0_r, ↓seqK_normal, ↓seqK_exit, ↓seqK_ret, ↓blkK_normal, ↓blkK_ret, ↓blkK_exit, ↓retK_normal, ↓retK_ret, put_same, put_ne, put_none, env0_at, ev_tmp, ev_const, ev_func, oc_int, oc_bool, oc_str, oc_nils, oc_nilp, oc_nilf, oc_nilm, o_move, o_assign, o_pick, o_bin, o_call, o_len, o_alloc, o_box, o_build, o_buildSlice, o_load, o_store, o_nilCheck, o_un, o_convert, o_makeFunc, o_makeSlice, o_slice, o_fieldAddr, o_field, o_indexAddr, o_index, o_extract, o_append, o_min, o_max, g_none, g_some, pick_bool, bin_add, bin_sub, bin_mul, bin_quo, bin_rem, bin_eql, bin_neq, bin_or, bin_and, bin_lss, bin_leq, bin_gtr, bin_geq, bin_shr, bin_shl, str_add, str_eql, str_neq, un_not, extract_tup, nil_ptr, nil_fp, part_1, part_A, next_e0, next_one, get_e0, resultsOf, oneOrAll, Option.bind_some, Option.map_some, Option.map_none, Option.getD_some, decide_eq_true_eq, ↓reduceIte, Nat.reduceEqDiff, not_false_eq_true, not_true_eq_false, Nat.reduceAdd, Nat.reduceMul, reduceCtorEq, if_true, if_false, Nat.succ_ne_self, List.getElem?_cons_zero, List.getElem?_cons_succ, List.getElem?_toArray, Bool.false_eq_true, Bool.true_eq_false, List.map_cons, List.map_nil, List.append_nil, List.nil_append, List.cons_append, AH.get_alloc, AH.get_put, AH.next_alloc, AH.next_put, ite_self, true_and, and_true, Nat.reduceLeDiff, Nat.le_refl, gt_iff_lt, ge_iff_le, Bool.not_eq_true', Bool.not_eq_eq_eq_not, Bool.not_true, Bool.not_false, Bool.not_eq_false', Bool.not_not, beq_iff_eq, bne_iff_ne, ne_eq, decide_eq_false_iff_not, callV_fn (g := 48) (by decide), q, c1, c2]
    · have hd : Lib.decDigits n = Lib.decDigits (n / 10) ++ Lib.decDigits (n % 10) := by
        rw [Lib.decDigits, dif_neg (by omega)]
        congr 1
        rw [Lib.decDigits, dif_pos (by omega)]
      obtain ⟨m1, hm1⟩ : ∃ m1, m + n + 1 = m1 + n / 10 + 2 := ⟨m + n + 1 - (n / 10 + 2), by omega⟩
      obtain ⟨m2, hm2⟩ : ∃ m2, m + n + 1 = m2 + n % 10 + 2 := ⟨m + n + 1 - (n % 10 + 2), by omega⟩
      have k1 := fun h => ih (n / 10) (by omega) (by omega) m1 h
      have k2 := fun h => ih (n % 10) (by omega) (by omega) m2 h
      rw [← hm1] at k1
      rw [← hm2] at k2
      have c1 : IntKind.i64.wrap ((n : Int).tdiv 10) = ((n / 10 : Nat) : Int) := by
        rw [Int.tdiv_eq_ediv_of_nonneg (by omega), wrap_i64 (by omega) (by omega)]; omega
      have c2 : (n : Int).tmod 10 = ((n % 10 : Nat) : Int) := by rw [Int.tmod_eq_emod_of_nonneg (by omega)]; rfl
      obtain ⟨l1, l2⟩ := dec_len 6 (n / 10) (by show n / 10 < 10000000; omega)
      obtain ⟨l3, l4⟩ := dec_len 6 (n % 10) (by show n % 10 < 10000000; omega)
      have c3 : ∀ h : AH, aBin T .add 9 (.str (Lib.decDigits (n / 10))) (.str (Lib.decDigits (n % 10))) h = some (.str (Lib.decDigits n)) := fun h => by rw [sadd (by omega), hd]
      have c4 : ¬ ((10 : Int) = 0) := by decide
      simp +contextual (maxSteps := 3000000) only [↓code_skip, ↓code_seq, ↓code_region, ↓code_cond, ↓code_block, ↓code_scope, ↓code_label, ↓code_loop, ↓code_exit, ↓code_ret, aCond_bool, ↓ops_nil, ↓ops_cons, run_none, run_someT, run_someF, run_tup, ↓run0_v, ↓run0_h, ↓run0_r, ↓seqK_normal, ↓seqK_exit, ↓seqK_ret, ↓blkK_normal, ↓blkK_ret, ↓blkK_exit, ↓retK_normal, ↓retK_ret, put_same, put_ne, put_none, env0_at, ev_tmp, ev_const, ev_func, oc_int, oc_bool, oc_str, oc_nils, oc_nilp, oc_nilf, oc_nilm, o_move, o_assign, o_pick, o_bin, o_call, o_len, o_alloc, o_box, o_build, o_buildSlice, o_load, o_store, o_nilCheck, o_un, o_convert, o_makeFunc, o_makeSlice, o_slice, o_fieldAddr, o_field, o_indexAddr, o_index, o_extract, o_append, o_min, o_max, g_none, g_some, pick_bool, bin_add, bin_sub, bin_mul, bin_quo, bin_rem, bin_eql, bin_neq, bin_or, bin_and, bin_lss, bin_leq, bin_gtr, bin_geq, bin_shr, bin_shl, str_eql, str_neq, un_not, extract_tup, nil_ptr, nil_fp, part_1, part_A, next_e0, next_one, get_e0, resultsOf, oneOrAll, Option.bind_some, Option.map_some, Option.map_none, Option.getD_some, decide_eq_true_eq, ↓reduceIte, Nat.reduceEqDiff, not_false_eq_true, not_true_eq_false, Nat.reduceAdd, Nat.reduceMul, reduceCtorEq, if_true, if_false, Nat.succ_ne_self, List.getElem?_cons_zero, List.getElem?_cons_succ, List.getElem?_toArray, Bool.false_eq_true, Bool.true_eq_false, List.map_cons, List.map_nil, List.append_nil, List.nil_append, List.cons_append, AH.get_alloc, AH.get_put, AH.next_alloc, AH.next_put, ite_self, true_and, and_true, Nat.reduceLeDiff, Nat.le_refl, gt_iff_lt, ge_iff_le, Bool.not_eq_true', Bool.not_eq_eq_eq_not, Bool.not_true, Bool.not_false, Bool.not_eq_false', Bool.not_not, beq_iff_eq, bne_iff_ne, ne_eq, decide_eq_false_iff_not, callV_fn (g := 48) (by decide), q, c1, c2, c4, k1, k2, c3]
noncomputable def g48 := G1 (vInt .i64) fun n => if 0 ≤ n ∧ n ≤ 1000000 then some (.str (Lib.decDigits n.toNat)) else none
theorem K48 {I : Nat → Option (List AV → AH → Rs)} (h48 : I 48 = some (pureG g48)) (m : Nat) (n : Nat) (h : AH) (hn : n ≤ 1000000) : call F I T (m + 1) 48 [.int .i64 ((n : Nat) : Int)] h = some (.str (Lib.decDigits n), h) := by
  rw [call_I (by decide) h48]; exact pureG_flat rfl (by simp [g48, G1, vInt, dInt]; omega)
theorem any_dropE {l : List (List UInt8)} {i : Nat} {s : List UInt8} (hi : i < l.length) : (l.drop i).any (equal · s) = (equal l[i] s || (l.drop (i + 1)).any (equal · s)) := by rw [drop_cons hi]; rfl
noncomputable def g47 := open Classical in G2 (vList vStr) vStr fun l s => if small l ∧ s.length < 140737488355327 then some (.bool (l.any (equal · s))) else none
theorem run47 {I : Nat → Option (List AV → AH → Rs)} (h73 : I 73 = some (pureG g73)) (h47 : I 47 = none) (l : List (List UInt8)) (s : List UInt8) (m : Nat) (hs : small l) (hl : s.length < 140737488355327) : ∃ h', call F I T (l.length + m + 4) 47 [.lst false 1 l.length (l.map .str), .str s] e0 = some (.bool (l.any (equal · s)), h') := by
  have hll := hs.1
  have hl1 : s.length < 140737488355328 := by omega
  rw [call_F (by decide) h47 F47 rfl R47]; simp only [Tryd.f47, Option.getD]
  simp +contextual (maxSteps := 3000000) only [↓code_skip, ↓code_seq, ↓code_region, ↓code_cond, ↓code_block, ↓code_scope, ↓code_label, ↓code_loop, ↓code_exit, ↓code_ret, aCond_bool, ↓ops_nil, ↓ops_cons, run_none, run_someT, run_someF, run_tup, ↓run0_v, ↓run0_h, ↓run0_r, ↓seqK_normal, ↓seqK_exit, ↓seqK_ret, ↓blkK_normal, ↓blkK_ret, ↓blkK_exit, ↓retK_normal, ↓retK_ret, put_same, put_ne, put_none, env0_at, ev_tmp, ev_const, ev_func, oc_int, oc_bool, oc_str, oc_nils, oc_nilp, oc_nilf, oc_nilm, o_move, o_assign, o_pick, o_bin, o_call, o_len, o_alloc, o_box, o_build, o_buildSlice, o_load, o_store, o_nilCheck, o_un, o_convert, o_makeFunc, o_makeSlice, o_slice, o_fieldAddr, o_field, o_indexAddr, o_index, o_extract, o_append, o_min, o_max, g_none, g_some, pick_bool, bin_add, bin_sub, bin_mul, bin_quo, bin_rem, bin_eql, bin_neq, bin_or, bin_and, bin_lss, bin_leq, bin_gtr, bin_geq, bin_shr, bin_shl, str_add, str_eql, str_neq, un_not, extract_tup, nil_ptr, nil_fp, part_1, part_A, next_e0, next_one, get_e0, resultsOf, oneOrAll, Option.bind_some, Option.map_some, Option.map_none, Option.getD_some, decide_eq_true_eq, ↓reduceIte, Nat.reduceEqDiff, not_false_eq_true, not_true_eq_false, Nat.reduceAdd, Nat.reduceMul, reduceCtorEq, if_true, if_false, Nat.succ_ne_self, List.getElem?_cons_zero, List.getElem?_cons_succ, List.getElem?_toArray, Bool.false_eq_true, Bool.true_eq_false, List.map_cons, List.map_nil, List.append_nil, List.nil_append, List.cons_append, AH.get_alloc, AH.get_put, AH.next_alloc, AH.next_put, ite_self, true_and, and_true, Nat.reduceLeDiff, Nat.le_refl, gt_iff_lt, ge_iff_le, Bool.not_eq_true', Bool.not_eq_eq_eq_not, Bool.not_true, Bool.not_false, Bool.not_eq_false', Bool.not_not, beq_iff_eq, bne_iff_ne, ne_eq, decide_eq_false_iff_not, len_lst T23 d23, len_sl T23 d23, len_nils T23 d23, ia_lst T23 d23 T9 s9, ia_sl T23 d23 T9 s9, load_fp1 T9 a9, load_p1 T9 a9, loadc_def, callV_fn (g := 73) (by decide), K73 h73]
  refine iterL_wp (Q := fun r => ∃ h', r = some (.bool (l.any (equal · s)), h')) (N := l.length) (Inv := fun k e h' => ∃ i, k + i = l.length ∧ l.any (equal · s) = (l.drop i).any (equal · s) ∧ i ≤ l.length ∧ e 0 = .lst false 1 l.length (l.map .str) ∧ e 1 = .str s ∧ e 5 = .int .i64 (i : Nat)) ?_ ?_ (by omega)
  · rintro k e h' K' ⟨i, hk, hal, hil, e0, e1, e5⟩ hnext hexit
    by_cases hi : i < l.length
    · have c1 : (i : Int) < (l.length : Int) := by omega
      obtain ⟨y, hy⟩ : ∃ y, y = l[i] := ⟨_, rfl⟩
      have c2 : (List.drop (i * 1) (l.map AV.str))[0]? = some (.str y) := by rw [hy]; exact drop_map_0 (f := AV.str) (List.getElem?_eq_getElem hi)
      have hyl : y.length < 140737488355328 := by have := hs.2 y (by rw [hy]; exact List.getElem_mem hi); omega
      rw [any_dropE hi, ← hy] at hal
      cases hz : equal y s with
      | true =>
        rw [hz] at hal
        simp +contextual (maxSteps := 3000000) only [↓code_skip, ↓code_seq, ↓code_region, ↓code_cond, ↓code_block, ↓code_scope, ↓code_label, ↓code_loop, ↓code_exit, ↓code_ret, aCond_bool, ↓ops_nil, ↓ops_cons, run_none, run_someT, run_someF, run_tup, ↓run0_v, ↓run0_h, ↓run0_r, ↓seqK_normal, ↓seqK_exit, ↓seqK_ret, ↓blkK_normal, ↓blkK_ret, ↓blkK_exit, ↓retK_normal, ↓retK_ret, put_same, put_ne, put_none, env0_at, ev_tmp, ev_const, ev_func, oc_int, oc_bool, oc_str, oc_nils, oc_nilp, oc_nilf, oc_nilm, o_move, o_assign, o_pick, o_bin, o_call, o_len, o_alloc, o_box, o_build, o_buildSlice, o_load, o_store, o_nilCheck, o_un, o_convert, o_makeFunc, o_makeSlice, o_slice, o_fieldAddr, o_field, o_indexAddr, o_index, o_extract, o_append, o_min, o_max, g_none, g_some, pick_bool, bin_add, bin_sub, bin_mul, bin_quo, bin_rem, bin_eql, bin_neq, bin_or, bin_and, bin_lss, bin_leq, bin_gtr, bin_geq, bin_shr, bin_shl, str_add, str_eql, str_neq, un_not, extract_tup, nil_ptr, nil_fp, part_1, part_A, next_e0, next_one, get_e0, resultsOf, oneOrAll, Option.bind_some, Option.map_some, Option.map_none, Option.getD_some, decide_eq_true_eq, ↓reduceIte, Nat.reduceEqDiff, not_false_eq_true, not_true_eq_false, Nat.reduceAdd, Nat.reduceMul, reduceCtorEq, if_true, if_false, Nat.succ_ne_self, List.getElem?_cons_zero, List.getElem?_cons_succ, List.getElem?_toArray, Bool.false_eq_true, Bool.true_eq_false, List.map_cons, List.map_nil, List.append_nil, List.nil_append, List.cons_append, AH.get_alloc, AH.get_put, AH.next_alloc, AH.next_put, ite_self, true_and, and_true, Nat.reduceLeDiff, Nat.le_refl, gt_iff_lt, ge_iff_le, Bool.not_eq_true', Bool.not_eq_eq_eq_not, Bool.not_true, Bool.not_false, Bool.not_eq_false', Bool.not_not, beq_iff_eq, bne_iff_ne, ne_eq, decide_eq_false_iff_not, len_lst T23 d23, len_sl T23 d23, len_nils T23 d23, ia_lst T23 d23 T9 s9, ia_sl T23 d23 T9 s9, load_fp1 T9 a9, load_p1 T9 a9, loadc_def, callV_fn (g := 73) (by decide), K73 h73, e0, e1, e5, c1, c2, hyl, hl, hl1, hz, cast_nonneg, toNat_cast]
        refine hexit _ _ _ (by simp) ⟨h', ?_⟩
        simp +contextual (maxSteps := 3000000) only [↓code_skip, ↓code_seq, ↓code_region, ↓code_cond, ↓code_block, ↓code_scope, ↓code_label, ↓code_loop, ↓code_exit, ↓code_ret, aCond_bool, ↓ops_nil, ↓ops_cons, run_none, run_someT, run_someF, run_tup, ↓run0_v, ↓run0_h, ↓run0_r, ↓seqK_normal, ↓seqK_exit, ↓seqK_ret, ↓blkK_normal, ↓blkK_ret, ↓blkK_exit, ↓retK_normal, ↓retK_ret, put_same, put_ne, put_none, env0_at, ev_tmp, ev_const, ev_func, oc_int, oc_bool, oc_str, oc_nils, oc_nilp, oc_nilf, oc_nilm, o_move, o_assign, o_pick, o_bin, o_call, o_len, o_alloc, o_box, o_build, o_buildSlice, o_load, o_store, o_nilCheck, o_un, o_convert, o_makeFunc, o_makeSlice, o_slice, o_fieldAddr, o_field, o_indexAddr, o_index, o_extract, o_append, o_min, o_max, g_none, g_some, pick_bool, bin_add, bin_sub, bin_mul, bin_quo, bin_rem, bin_eql, bin_neq, bin_or, bin_and, bin_lss, bin_leq, bin_gtr, bin_geq, bin_shr, bin_shl, str_add, str_eql, str_neq, un_not, extract_tup, nil_ptr, nil_fp, part_1, part_A, next_e0, next_one, get_e0, resultsOf, oneOrAll, Option.bind_some, Option.map_some, Option.map_none, Option.getD_some, decide_eq_true_eq, ↓reduceIte, Nat.reduceEqDiff, not_false_eq_true, not_true_eq_false, Nat.reduceAdd, Nat.reduceMul, reduceCtorEq, if_true, if_false, Nat.succ_ne_self, List.getElem?_cons_zero, List.getElem?_cons_succ, List.getElem?_toArray, Bool.false_eq_true, Bool.true_eq_false, List.map_cons, List.map_nil, List.append_nil, List.nil_append, List.cons_append, AH.get_alloc, AH.get_put, AH.next_alloc, AH.next_put, ite_self, true_and, and_true, Nat.reduceLeDiff, Nat.le_refl, gt_iff_lt, ge_iff_le, Bool.not_eq_true', Bool.not_eq_eq_eq_not, Bool.not_true, Bool.not_false, Bool.not_eq_false', Bool.not_not, beq_iff_eq, bne_iff_ne, ne_eq, decide_eq_false_iff_not, len_lst T23 d23, len_sl T23 d23, len_nils T23 d23, ia_lst T23 d23 T9 s9, ia_sl T23 d23 T9 s9, load_fp1 T9 a9, load_p1 T9 a9, loadc_def, callV_fn (g := 73) (by decide), K73 h73, hal, Bool.true_or]
      | false =>
        rw [hz] at hal
        simp +contextual (maxSteps := 3000000) only [↓code_skip, ↓code_seq, ↓code_region, ↓code_cond, ↓code_block, ↓code_scope, ↓code_label, ↓code_loop, ↓code_exit, ↓code_ret, aCond_bool, ↓ops_nil, ↓ops_cons, run_none, run_someT, run_someF, run_tup, ↓run0_v, ↓run0_h, ↓run0_r, ↓seqK_normal, ↓seqK_exit, ↓seqK_ret, ↓blkK_normal, ↓blkK_ret, ↓blkK_exit, ↓retK_normal, ↓retK_ret, put_same, put_ne, put_none, env0_at, ev_tmp, ev_const, ev_func, oc_int, oc_bool, oc_str, oc_nils, oc_nilp, oc_nilf, oc_nilm, o_move, o_assign, o_pick, o_bin, o_call, o_len, o_alloc, o_box, o_build, o_buildSlice, o_load, o_store, o_nilCheck, o_un, o_convert, o_makeFunc, o_makeSlice, o_slice, o_fieldAddr, o_field, o_indexAddr, o_index, o_extract, o_append, o_min, o_max, g_none, g_some, pick_bool, bin_add, bin_sub, bin_mul, bin_quo, bin_rem, bin_eql, bin_neq, bin_or, bin_and, bin_lss, bin_leq, bin_gtr, bin_geq, bin_shr, bin_shl, str_add, str_eql, str_neq, un_not, extract_tup, nil_ptr, nil_fp, part_1, part_A, next_e0, next_one, get_e0, resultsOf, oneOrAll, Option.bind_some, Option.map_some, Option.map_none, Option.getD_some, decide_eq_true_eq, ↓reduceIte, Nat.reduceEqDiff, not_false_eq_true, not_true_eq_false, Nat.reduceAdd, Nat.reduceMul, reduceCtorEq, if_true, if_false, Nat.succ_ne_self, List.getElem?_cons_zero, List.getElem?_cons_succ, List.getElem?_toArray, Bool.false_eq_true, Bool.true_eq_false, List.map_cons, List.map_nil, List.append_nil, List.nil_append, List.cons_append, AH.get_alloc, AH.get_put, AH.next_alloc, AH.next_put, ite_self, true_and, and_true, Nat.reduceLeDiff, Nat.le_refl, gt_iff_lt, ge_iff_le, Bool.not_eq_true', Bool.not_eq_eq_eq_not, Bool.not_true, Bool.not_false, Bool.not_eq_false', Bool.not_not, beq_iff_eq, bne_iff_ne, ne_eq, decide_eq_false_iff_not, len_lst T23 d23, len_sl T23 d23, len_nils T23 d23, ia_lst T23 d23 T9 s9, ia_sl T23 d23 T9 s9, load_fp1 T9 a9, load_p1 T9 a9, loadc_def, callV_fn (g := 73) (by decide), K73 h73, e0, e1, e5, c1, c2, hyl, hl, hl1, hz, cast_nonneg, toNat_cast]
        refine hnext (k - 1) _ _ (by omega) ⟨i + 1, by omega, ?_, ?_, ?_, ?_, ?_⟩
        · simpa using hal
        · omega
        · simp only [↓code_skip, ↓code_seq, ↓code_region, ↓code_cond, ↓code_block, ↓code_scope, ↓code_label, ↓code_loop, ↓code_exit, ↓code_ret, aCond_bool, ↓ops_nil, ↓ops_cons, run_none, run_someT, run_someF, run_tup, ↓run0_v, ↓run0_h, ↓run0_r, ↓seqK_normal, ↓seqK_exit, ↓seqK_ret, ↓blkK_normal, ↓blkK_ret, ↓blkK_exit, ↓retK_normal, ↓retK_ret, put_same, put_ne, put_none, env0_at, ev_tmp, ev_const, ev_func, oc_int, oc_bool, oc_str, oc_nils, oc_nilp, oc_nilf, oc_nilm, o_move, o_assign, o_pick, o_bin, o_call, o_len, o_alloc, o_box, o_build, o_buildSlice, o_load, o_store, o_nilCheck, o_un, o_convert, o_makeFunc, o_makeSlice, o_slice, o_fieldAddr, o_field, o_indexAddr, o_index, o_extract, o_append, o_min, o_max, g_none, g_some, pick_bool, bin_add, bin_sub, bin_mul, bin_quo, bin_rem, bin_eql, bin_neq, bin_or, bin_and, bin_lss, bin_leq, bin_gtr, bin_geq, bin_shr, bin_shl, str_add, str_eql, str_neq, un_not, extract_tup, nil_ptr, nil_fp, part_1, part_A, next_e0, next_one, get_e0, resultsOf, oneOrAll, Option.bind_some, Option.map_some, Option.map_none, Option.getD_some, decide_eq_true_eq, ↓reduceIte, Nat.reduceEqDiff, not_false_eq_true, not_true_eq_false, Nat.reduceAdd, Nat.reduceMul, reduceCtorEq, if_true, if_false, Nat.succ_ne_self, List.getElem?_cons_zero, List.getElem?_cons_succ, List.getElem?_toArray, Bool.false_eq_true, Bool.true_eq_false, List.map_cons, List.map_nil, List.append_nil, List.nil_append, List.cons_append, AH.get_alloc, AH.get_put, AH.next_alloc, AH.next_put, ite_self, true_and, and_true, Nat.reduceLeDiff, Nat.le_refl, gt_iff_lt, ge_iff_le, Bool.not_eq_true', Bool.not_eq_eq_eq_not, Bool.not_true, Bool.not_false, Bool.not_eq_false', Bool.not_not, beq_iff_eq, bne_iff_ne, ne_eq, decide_eq_false_iff_not, len_lst T23 d23, len_sl T23 d23, len_nils T23 d23, ia_lst T23 d23 T9 s9, ia_sl T23 d23 T9 s9, load_fp1 T9 a9, load_p1 T9 a9, loadc_def, callV_fn (g := 73) (by decide), K73 h73, e0]
        · simp only [↓code_skip, ↓code_seq, ↓code_region, ↓code_cond, ↓code_block, ↓code_scope, ↓code_label, ↓code_loop, ↓code_exit, ↓code_ret, aCond_bool, ↓ops_nil, ↓ops_cons, run_none, run_someT, run_someF, run_tup, ↓run0_v, ↓run0_h, ↓run0_r, ↓seqK_normal, ↓seqK_exit, ↓seqK_ret, ↓blkK_normal, ↓blkK_ret, ↓blkK_exit, ↓retK_normal, ↓retK_ret, put_same, put_ne, put_none, env0_at, ev_tmp, ev_const, ev_func, oc_int, oc_bool, oc_str, oc_nils, oc_nilp, oc_nilf, oc_nilm, o_move, o_assign, o_pick, o_bin, o_call, o_len, o_alloc, o_box, o_build, o_buildSlice, o_load, o_store, o_nilCheck, o_un, o_convert, o_makeFunc, o_makeSlice, o_slice, o_fieldAddr, o_field, o_indexAddr, o_index, o_extract, o_append, o_min, o_max, g_none, g_some, pick_bool, bin_add, bin_sub, bin_mul, bin_quo, bin_rem, bin_eql, bin_neq, bin_or, bin_and, bin_lss, bin_leq, bin_gtr, bin_geq, bin_shr, bin_shl, str_add, str_eql, str_neq, un_not, extract_tup, nil_ptr, nil_fp, part_1, part_A, next_e0, next_one, get_e0, resultsOf, oneOrAll, Option.bind_some, Option.map_some, Option.map_none, Option.getD_some, decide_eq_true_eq, ↓reduceIte, Nat.reduceEqDiff, not_false_eq_true, not_true_eq_false, Nat.reduceAdd, Nat.reduceMul, reduceCtorEq, if_true, if_false, Nat.succ_ne_self, List.getElem?_cons_zero, List.getElem?_cons_succ, List.getElem?_toArray, Bool.false_eq_true, Bool.true_eq_false, List.map_cons, List.map_nil, List.append_nil, List.nil_append, List.cons_append, AH.get_alloc, AH.get_put, AH.next_alloc, AH.next_put, ite_self, true_and, and_true, Nat.reduceLeDiff, Nat.le_refl, gt_iff_lt, ge_iff_le, Bool.not_eq_true', Bool.not_eq_eq_eq_not, Bool.not_true, Bool.not_false, Bool.not_eq_false', Bool.not_not, beq_iff_eq, bne_iff_ne, ne_eq, decide_eq_false_iff_not, len_lst T23 d23, len_sl T23 d23, len_nils T23 d23, ia_lst T23 d23 T9 s9, ia_sl T23 d23 T9 s9, load_fp1 T9 a9, load_p1 T9 a9, loadc_def, callV_fn (g := 73) (by decide), K73 h73, e1]
        · simp only [↓code_skip, ↓code_seq, ↓code_region, ↓code_cond, ↓code_block, ↓code_scope, ↓code_label, ↓code_loop, ↓code_exit, ↓code_ret, aCond_bool, ↓ops_nil, ↓ops_cons, run_none, run_someT, run_someF, run_tup, ↓run0_v, ↓run0_h, ↓run0_r, ↓seqK_normal, ↓seqK_exit, ↓seqK_ret, ↓blkK_normal, ↓blkK_ret, ↓blkK_exit, ↓retK_normal, ↓retK_ret, put_same, put_ne, put_none, env0_at, ev_tmp, ev_const, ev_func, oc_int, oc_bool, oc_str, oc_nils, oc_nilp, oc_nilf, oc_nilm, o_move, o_assign, o_pick, o_bin, o_call, o_len, o_alloc, o_box, o_build, o_buildSlice, o_load, o_store, o_nilCheck, o_un, o_convert, o_makeFunc, o_makeSlice, o_slice, o_fieldAddr, o_field, o_indexAddr, o_index, o_extract, o_append, o_min, o_max, g_none, g_some, pick_bool, bin_add, bin_sub, bin_mul, bin_quo, bin_rem, bin_eql, bin_neq, bin_or, bin_and, bin_lss, bin_leq, bin_gtr, bin_geq, bin_shr, bin_shl, str_add, str_eql, str_neq, un_not, extract_tup, nil_ptr, nil_fp, part_1, part_A, next_e0, next_one, get_e0, resultsOf, oneOrAll, Option.bind_some, Option.map_some, Option.map_none, Option.getD_some, decide_eq_true_eq, ↓reduceIte, Nat.reduceEqDiff, not_false_eq_true, not_true_eq_false, Nat.reduceAdd, Nat.reduceMul, reduceCtorEq, if_true, if_false, Nat.succ_ne_self, List.getElem?_cons_zero, List.getElem?_cons_succ, List.getElem?_toArray, Bool.false_eq_true, Bool.true_eq_false, List.map_cons, List.map_nil, List.append_nil, List.nil_append, List.cons_append, AH.get_alloc, AH.get_put, AH.next_alloc, AH.next_put, ite_self, true_and, and_true, Nat.reduceLeDiff, Nat.le_refl, gt_iff_lt, ge_iff_le, Bool.not_eq_true', Bool.not_eq_eq_eq_not, Bool.not_true, Bool.not_false, Bool.not_eq_false', Bool.not_not, beq_iff_eq, bne_iff_ne, ne_eq, decide_eq_false_iff_not, len_lst T23 d23, len_sl T23 d23, len_nils T23 d23, ia_lst T23 d23 T9 s9, ia_sl T23 d23 T9 s9, load_fp1 T9 a9, load_p1 T9 a9, loadc_def, callV_fn (g := 73) (by decide), K73 h73, e5]; rw [wrap_i64 (by omega) (by omega)]; rfl
    · have c1 : ¬ (i : Int) < (l.length : Int) := by omega
      rw [drop_end hi] at hal
      simp +contextual (maxSteps := 3000000) only [↓code_skip, ↓code_seq, ↓code_region, ↓code_cond, ↓code_block, ↓code_scope, ↓code_label, ↓code_loop, ↓code_exit, ↓code_ret, aCond_bool, ↓ops_nil, ↓ops_cons, run_none, run_someT, run_someF, run_tup, ↓run0_v, ↓run0_h, ↓run0_r, ↓seqK_normal, ↓seqK_exit, ↓seqK_ret, ↓blkK_normal, ↓blkK_ret, ↓blkK_exit, ↓retK_normal, ↓retK_ret, put_same, put_ne, put_none, env0_at, ev_tmp, ev_const, ev_func, oc_int, oc_bool, oc_str, oc_nils, oc_nilp, oc_nilf, oc_nilm, o_move, o_assign, o_pick, o_bin, o_call, o_len, o_alloc, o_box, o_build, o_buildSlice, o_load, o_store, o_nilCheck, o_un, o_convert, o_makeFunc, o_makeSlice, o_slice, o_fieldAddr, o_field, o_indexAddr, o_index, o_extract, o_append, o_min, o_max, g_none, g_some, pick_bool, bin_add, bin_sub, bin_mul, bin_quo, bin_rem, bin_eql, bin_neq, bin_or, bin_and, bin_lss, bin_leq, bin_gtr, bin_geq, bin_shr, bin_shl, str_add, str_eql, str_neq, un_not, extract_tup, nil_ptr, nil_fp, part_1, part_A, next_e0, next_one, get_e0, resultsOf, oneOrAll, Option.bind_some, Option.map_some, Option.map_none, Option.getD_some, decide_eq_true_eq, ↓reduceIte, Nat.reduceEqDiff, not_false_eq_true, not_true_eq_false, Nat.reduceAdd, Nat.reduceMul, reduceCtorEq, if_true, if_false, Nat.succ_ne_self, List.getElem?_cons_zero, List.getElem?_cons_succ, List.getElem?_toArray, Bool.false_eq_true, Bool.true_eq_false, List.map_cons, List.map_nil, List.append_nil, List.nil_append, List.cons_append, AH.get_alloc, AH.get_put, AH.next_alloc, AH.next_put, ite_self, true_and, and_true, Nat.reduceLeDiff, Nat.le_refl, gt_iff_lt, ge_iff_le, Bool.not_eq_true', Bool.not_eq_eq_eq_not, Bool.not_true, Bool.not_false, Bool.not_eq_false', Bool.not_not, beq_iff_eq, bne_iff_ne, ne_eq, decide_eq_false_iff_not, len_lst T23 d23, len_sl T23 d23, len_nils T23 d23, ia_lst T23 d23 T9 s9, ia_sl T23 d23 T9 s9, load_fp1 T9 a9, load_p1 T9 a9, loadc_def, callV_fn (g := 73) (by decide), K73 h73, e0, e1, e5, c1]
      refine hexit _ _ _ (by simp) ⟨h', ?_⟩
      simp +contextual (maxSteps := 3000000) only [↓code_skip, ↓code_seq, ↓code_region, ↓code_cond, ↓code_block, ↓code_scope, ↓code_label, ↓code_loop, ↓code_exit, ↓code_ret, aCond_bool, ↓ops_nil, ↓ops_cons, run_none, run_someT, run_someF, run_tup, ↓run0_v, ↓run0_h, ↓run0_r, ↓seqK_normal, ↓seqK_exit, ↓seqK_ret, ↓blkK_normal, ↓blkK_ret, ↓blkK_exit, ↓retK_normal, ↓retK_ret, put_same, put_ne, put_none, env0_at, ev_tmp, ev_const, ev_func, oc_int, oc_bool, oc_str, oc_nils, oc_nilp, oc_nilf, oc_nilm, o_move, o_assign, o_pick, o_bin, o_call, o_len, o_alloc, o_box, o_build, o_buildSlice, o_load, o_store, o_nilCheck, o_un, o_convert, o_makeFunc, o_makeSlice, o_slice, o_fieldAddr, o_field, o_indexAddr, o_index, o_extract, o_append, o_min, o_max, g_none, g_some, pick_bool, bin_add, bin_sub, bin_mul, bin_quo, bin_rem, bin_eql, bin_neq, bin_or, bin_and, bin_lss, bin_leq, bin_gtr, bin_geq, bin_shr, bin_shl, str_add, str_eql, str_neq, un_not, extract_tup, nil_ptr, nil_fp, part_1, part_A, next_e0, next_one, get_e0, resultsOf, oneOrAll, Option.bind_some, Option.map_some, Option.map_none, Option.getD_some, decide_eq_true_eq, ↓reduceIte, Nat.reduceEqDiff, not_false_eq_true, not_true_eq_false, Nat.reduceAdd, Nat.reduceMul, reduceCtorEq, if_true, if_false, Nat.succ_ne_self, List.getElem?_cons_zero, List.getElem?_cons_succ, List.getElem?_toArray, Bool.false_eq_true, Bool.true_eq_false, List.map_cons, List.map_nil, List.append_nil, List.nil_append, List.cons_append, AH.get_alloc, AH.get_put, AH.next_alloc, AH.next_put, ite_self, true_and, and_true, Nat.reduceLeDiff, Nat.le_refl, gt_iff_lt, ge_iff_le, Bool.not_eq_true', Bool.not_eq_eq_eq_not, Bool.not_true, Bool.not_false, Bool.not_eq_false', Bool.not_not, beq_iff_eq, bne_iff_ne, ne_eq, decide_eq_false_iff_not, len_lst T23 d23, len_sl T23 d23, len_nils T23 d23, ia_lst T23 d23 T9 s9, ia_sl T23 d23 T9 s9, load_fp1 T9 a9, load_p1 T9 a9, loadc_def, callV_fn (g := 73) (by decide), K73 h73, e0, hal, List.any_nil]
  · refine ⟨0, by omega, ?_, ?_, ?_, ?_, ?_⟩
    · rfl
    · omega
    · simp only [↓code_skip, ↓code_seq, ↓code_region, ↓code_cond, ↓code_block, ↓code_scope, ↓code_label, ↓code_loop, ↓code_exit, ↓code_ret, aCond_bool, ↓ops_nil, ↓ops_cons, run_none, run_someT, run_someF, run_tup, ↓run0_v, ↓run0_h, ↓run0_r, ↓seqK_normal, ↓seqK_exit, ↓seqK_ret, ↓blkK_normal, ↓blkK_ret, ↓blkK_exit, ↓retK_normal, ↓retK_ret, put_same, put_ne, put_none, env0_at, ev_tmp, ev_const, ev_func, oc_int, oc_bool, oc_str, oc_nils, oc_nilp, oc_nilf, oc_nilm, o_move, o_assign, o_pick, o_bin, o_call, o_len, o_alloc, o_box, o_build, o_buildSlice, o_load, o_store, o_nilCheck, o_un, o_convert, o_makeFunc, o_makeSlice, o_slice, o_fieldAddr, o_field, o_indexAddr, o_index, o_extract, o_append, o_min, o_max, g_none, g_some, pick_bool, bin_add, bin_sub, bin_mul, bin_quo, bin_rem, bin_eql, bin_neq, bin_or, bin_and, bin_lss, bin_leq, bin_gtr, bin_geq, bin_shr, bin_shl, str_add, str_eql, str_neq, un_not, extract_tup, nil_ptr, nil_fp, part_1, part_A, next_e0, next_one, get_e0, resultsOf, oneOrAll, Option.bind_some, Option.map_some, Option.map_none, Option.getD_some, decide_eq_true_eq, ↓reduceIte, Nat.reduceEqDiff, not_false_eq_true, not_true_eq_false, Nat.reduceAdd, Nat.reduceMul, reduceCtorEq, if_true, if_false, Nat.succ_ne_self, List.getElem?_cons_zero, List.getElem?_cons_succ, List.getElem?_toArray, Bool.false_eq_true, Bool.true_eq_false, List.map_cons, List.map_nil, List.append_nil, List.nil_append, List.cons_append, AH.get_alloc, AH.get_put, AH.next_alloc, AH.next_put, ite_self, true_and, and_true, Nat.reduceLeDiff, Nat.le_refl, gt_iff_lt, ge_iff_le, Bool.not_eq_true', Bool.not_eq_eq_eq_not, Bool.not_true, Bool.not_false, Bool.not_eq_false', Bool.not_not, beq_iff_eq, bne_iff_ne, ne_eq, decide_eq_false_iff_not, len_lst T23 d23, len_sl T23 d23, len_nils T23 d23, ia_lst T23 d23 T9 s9, ia_sl T23 d23 T9 s9, load_fp1 T9 a9, load_p1 T9 a9, loadc_def, callV_fn (g := 73) (by decide), K73 h73]
    · simp only [↓code_skip, ↓code_seq, ↓code_region, ↓code_cond, ↓code_block, ↓code_scope, ↓code_label, ↓code_loop, ↓code_exit, ↓code_ret, aCond_bool, ↓ops_nil, ↓ops_cons, run_none, run_someT, run_someF, run_tup, ↓run0_v, ↓run0_h, ↓run0_r, ↓seqK_normal, ↓seqK_exit, ↓seqK_ret, ↓blkK_normal, ↓blkK_ret, ↓blkK_exit, ↓retK_normal, ↓retK_ret, put_same, put_ne, put_none, env0_at, ev_tmp, ev_const, ev_func, oc_int, oc_bool, oc_str, oc_nils, oc_nilp, oc_nilf, oc_nilm, o_move, o_assign, o_pick, o_bin, o_call, o_len, o_alloc, o_box, o_build, o_buildSlice, o_load, o_store, o_nilCheck, o_un, o_convert, o_makeFunc, o_makeSlice, o_slice, o_fieldAddr, o_field, o_indexAddr, o_index, o_extract, o_append, o_min, o_max, g_none, g_some, pick_bool, bin_add, bin_sub, bin_mul, bin_quo, bin_rem, bin_eql, bin_neq, bin_or, bin_and, bin_lss, bin_leq, bin_gtr, bin_geq, bin_shr, bin_shl, str_add, str_eql, str_neq, un_not, extract_tup, nil_ptr, nil_fp, part_1, part_A, next_e0, next_one, get_e0, resultsOf, oneOrAll, Option.bind_some, Option.map_some, Option.map_none, Option.getD_some, decide_eq_true_eq, ↓reduceIte, Nat.reduceEqDiff, not_false_eq_true, not_true_eq_false, Nat.reduceAdd, Nat.reduceMul, reduceCtorEq, if_true, if_false, Nat.succ_ne_self, List.getElem?_cons_zero, List.getElem?_cons_succ, List.getElem?_toArray, Bool.false_eq_true, Bool.true_eq_false, List.map_cons, List.map_nil, List.append_nil, List.nil_append, List.cons_append, AH.get_alloc, AH.get_put, AH.next_alloc, AH.next_put, ite_self, true_and, and_true, Nat.reduceLeDiff, Nat.le_refl, gt_iff_lt, ge_iff_le, Bool.not_eq_true', Bool.not_eq_eq_eq_not, Bool.not_true, Bool.not_false, Bool.not_eq_false', Bool.not_not, beq_iff_eq, bne_iff_ne, ne_eq, decide_eq_false_iff_not, len_lst T23 d23, len_sl T23 d23, len_nils T23 d23, ia_lst T23 d23 T9 s9, ia_sl T23 d23 T9 s9, load_fp1 T9 a9, load_p1 T9 a9, loadc_def, callV_fn (g := 73) (by decide), K73 h73]
    · simp only [↓code_skip, ↓code_seq, ↓code_region, ↓code_cond, ↓code_block, ↓code_scope, ↓code_label, ↓code_loop, ↓code_exit, ↓code_ret, aCond_bool, ↓ops_nil, ↓ops_cons, run_none, run_someT, run_someF, run_tup, ↓run0_v, ↓run0_h, ↓run0_r, ↓seqK_normal, ↓seqK_exit, ↓seqK_ret, ↓blkK_normal, ↓blkK_ret, ↓blkK_exit, ↓retK_normal, ↓retK_ret, put_same, put_ne, put_none, env0_at, ev_tmp, ev_const, ev_func, oc_int, oc_bool, oc_str, oc_nils, oc_nilp, oc_nilf, oc_nilm, o_move, o_assign, o_pick, o_bin, o_call, o_len, o_alloc, o_box, o_build, o_buildSlice, o_load, o_store, o_nilCheck, o_un, o_convert, o_makeFunc, o_makeSlice, o_slice, o_fieldAddr, o_field, o_indexAddr, o_index, o_extract, o_append, o_min, o_max, g_none, g_some, pick_bool, bin_add, bin_sub, bin_mul, bin_quo, bin_rem, bin_eql, bin_neq, bin_or, bin_and, bin_lss, bin_leq, bin_gtr, bin_geq, bin_shr, bin_shl, str_add, str_eql, str_neq, un_not, extract_tup, nil_ptr, nil_fp, part_1, part_A, next_e0, next_one, get_e0, resultsOf, oneOrAll, Option.bind_some, Option.map_some, Option.map_none, Option.getD_some, decide_eq_true_eq, ↓reduceIte, Nat.reduceEqDiff, not_false_eq_true, not_true_eq_false, Nat.reduceAdd, Nat.reduceMul, reduceCtorEq, if_true, if_false, Nat.succ_ne_self, List.getElem?_cons_zero, List.getElem?_cons_succ, List.getElem?_toArray, Bool.false_eq_true, Bool.true_eq_false, List.map_cons, List.map_nil, List.append_nil, List.nil_append, List.cons_append, AH.get_alloc, AH.get_put, AH.next_alloc, AH.next_put, ite_self, true_and, and_true, Nat.reduceLeDiff, Nat.le_refl, gt_iff_lt, ge_iff_le, Bool.not_eq_true', Bool.not_eq_eq_eq_not, Bool.not_true, Bool.not_false, Bool.not_eq_false', Bool.not_not, beq_iff_eq, bne_iff_ne, ne_eq, decide_eq_false_iff_not, len_lst T23 d23, len_sl T23 d23, len_nils T23 d23, ia_lst T23 d23 T9 s9, ia_sl T23 d23 T9 s9, load_fp1 T9 a9, load_p1 T9 a9, loadc_def, callV_fn (g := 73) (by decide), K73 h73]; rfl
theorem K47 {I : Nat → Option (List AV → AH → Rs)} (h47 : I 47 = some (pureG g47)) (m : Nat) (l : List (List UInt8)) (s : List UInt8) (ex : Bool) (h : AH) (hs : small l) (hl : s.length < 140737488355327) : call F I T (m + 1) 47 [.lst ex 1 l.length (l.map .str), .str s] h = some (.bool (l.any (equal · s)), h) := by
  rw [call_I (by decide) h47]
  refine pureG_flat (by have h1 : flatL (l.map AV.str) = true := flatL_map (fun _ => rfl) l; simp [flatL, AV.flat, h1]) ?_
  have := vList_dec dStr_enc ex l
  have h2 : vStr.dec (.str s) = some s := rfl
  show ((vList vStr).dec (.lst ex 1 l.length (l.map vStr.enc))).bind (fun x => (vStr.dec (.str s)).bind fun y => _) = _
  rw [this, h2]
  simp [hs, hl]
/-! The long name: plain. -/
def cL (a : List UInt8) (n : Nat) : List UInt8 := if n ≤ 1 then a else a ++ 32 :: Lib.decDigits n
def hit (a : List UInt8) (l : List (List UInt8)) (n : Nat) : Bool := l.any (equal · (cL a n))
def findL (a : List UInt8) (l : List (List UInt8)) : Nat → Nat → Option (List UInt8)
  | 0, _ => none
  | k + 1, n => if hit a l n = true then findL a l k (n + 1) else some (cL a n)
def val (l : List UInt8) : Nat := l.foldl (fun v c => v * 10 + (c.toNat - 48)) 0
theorem val_dec (n : Nat) : val (Lib.decDigits n) = n := by
  induction n using Nat.strongRecOn with
  | _ n ih =>
    have hd : ∀ u, u < 10 → (UInt8.ofNat (48 + u)).toNat - 48 = u := fun u hu => by
      have : (UInt8.ofNat (48 + u)).toNat = 48 + u := by simp; omega
      omega
    rw [Lib.decDigits]
    split
    · simp only [val, List.foldl_cons, List.foldl_nil]
      rw [hd n (by omega)]; omega
    · have h1 := ih (n / 10) (by omega)
      unfold val at h1 ⊢
      rw [List.foldl_append, h1]
      simp only [List.foldl_cons, List.foldl_nil]
      rw [hd (n % 10) (by omega)]; omega
theorem fold_dig : ∀ u, u < 10 → foldN (UInt8.ofNat (48 + u)) = UInt8.ofNat (48 + u) := by
  intro u hu
  have h1 : (UInt8.ofNat (48 + u)).toNat = 48 + u := by simp; omega
  unfold foldN
  rw [if_neg (by omega), if_neg (by omega)]
theorem fold_dec (n : Nat) : fold (Lib.decDigits n) = Lib.decDigits n := by
  induction n using Nat.strongRecOn with
  | _ n ih =>
    rw [Lib.decDigits]
    split
    · simp only [fold, List.map_cons, List.map_nil]; rw [fold_dig n (by omega)]
    · have h1 := ih (n / 10) (by omega)
      simp only [fold, List.map_append, List.map_cons, List.map_nil] at h1 ⊢
      rw [h1, fold_dig (n % 10) (by omega)]
theorem cL_inj {a : List UInt8} {n m : Nat} (hn : 1 ≤ n) (hm : 1 ≤ m) (h : fold (cL a n) = fold (cL a m)) : n = m := by
  have hl := congrArg List.length h
  rw [fold_len, fold_len] at hl
  unfold cL at h hl
  by_cases h1 : n ≤ 1 <;> by_cases h2 : m ≤ 1
  · omega
  · rw [if_pos h1, if_neg h2] at hl
    simp at hl
  · rw [if_neg h1, if_pos h2] at hl
    simp at hl
  · rw [if_neg h1, if_neg h2] at h
    simp only [fold, List.map_append, List.map_cons] at h
    have h3 := List.append_cancel_left h
    have h4 := (List.cons.inj h3).2
    have h5 : fold (Lib.decDigits n) = fold (Lib.decDigits m) := h4
    rw [fold_dec, fold_dec] at h5
    rw [← val_dec n, h5, val_dec]
/-- As many places as texts. -/
theorem pigeon : ∀ {l : List (List UInt8)} {i : Nat} {f : Nat → List UInt8}, (∀ j k, j < i → k < i → f j = f k → j = k) → (∀ j, j < i → f j ∈ l) → i ≤ l.length
  | l, 0, f, _, _ => Nat.zero_le _
  | l, i + 1, f, hinj, hm => by
    have h0 := hm i (by omega)
    have ih := pigeon (l := l.erase (f i)) (i := i) (f := f) (fun j k hj hk => hinj j k (by omega) (by omega)) (fun j hj => by
      refine (List.mem_erase_of_ne fun e => ?_).2 (hm j (by omega))
      have := hinj j i (by omega) (by omega) e
      omega)
    rw [List.length_erase_of_mem h0] at ih
    have := List.length_pos_of_mem h0
    omega
theorem hit_le {a : List UInt8} {l : List (List UInt8)} {i : Nat} (h : ∀ j, j < i → hit a l (j + 1) = true) : i ≤ l.length := by
  have := pigeon (l := l.map fold) (i := i) (f := fun j => fold (cL a (j + 1))) (fun j k hj hk he => by have := cL_inj (by omega) (by omega) he; omega) (fun j hj => by
    have h1 := h j hj
    unfold hit at h1
    obtain ⟨t, ht, he⟩ := List.any_eq_true.1 h1
    have he' : fold t = fold (cL a (j + 1)) := by simpa [equal] using he
    rw [← he']
    exact List.mem_map_of_mem ht)
  simpa using this
def okT (s : List UInt8) (l : List (List UInt8)) : Bool := isShort s && !(l.any (!isLong ·))
def tL : Option (List UInt8) → AV
  | some r => .tup [.str r, .int .i64 0]
  | none => .nils
def longR (s : List UInt8) (l : List (List UInt8)) : AV := if okT s l = true then tL (findL (Lib.toLowerA s) l (l.length + 1) 1) else .tup [.str [], .int .i64 2]
theorem isB_small : ∀ {c : UInt8}, isB c = true → c.toNat < 128 := fun h => by rw [isB_iff] at h; omega
theorem short_ascii {s : List UInt8} (h : isShort s = true) : s.all (fun c => decide (c.toNat < 128)) = true := by
  rw [List.all_eq_true]
  intro c hc
  rw [decide_eq_true_eq]
  unfold isShort at h
  split at h
  · rename_i hq
    obtain ⟨i, hi⟩ : ∃ i : Nat, Lib.indexByte s 46 = i := ⟨(Lib.indexByte s 46).toNat, by omega⟩
    obtain ⟨g1, _⟩ := Lib.indexByte_some hi
    rw [hi, toNat_cast, Bool.and_eq_true] at h
    obtain ⟨x1, _, _⟩ := part8.1 h.1
    obtain ⟨z1, _, _⟩ := part3.1 h.2
    have hil := (List.getElem?_eq_some_iff.1 g1).1
    have he : s[i] = 46 := (List.getElem?_eq_some_iff.1 g1).2
    have hs : s = s.take i ++ 46 :: s.drop (i + 1) := by
      rw [← he, ← List.drop_eq_getElem_cons hil, List.take_append_drop]
    rw [hs] at hc
    rcases List.mem_append.1 hc with hc | hc
    · exact isB_small (List.all_eq_true.1 x1 c hc)
    · rcases List.mem_cons.1 hc with rfl | hc
      · decide
      · exact isB_small (List.all_eq_true.1 z1 c hc)
  · obtain ⟨x1, _, _⟩ := part8.1 h
    exact isB_small (List.all_eq_true.1 x1 c hc)
theorem K31q {I : Nat → Option (List AV → AH → Rs)} (h31 : I 31 = some (pureG g31)) (m : Nat) (l : List (List UInt8)) (s : List UInt8) (b : Nat) (ex : Bool) (h : AH) (hl : small l) (hs : s.length < 140737488355328) (hb : h.get b = some (.cells [.str s] .own)) :
    call F I T (m + 1) 31 [.lst ex 1 l.length (l.map .str), .fn 45 [] [.ptr b 0]] h = some (.bool (l.any (equal · s)), h) := by
  rw [call_I (by decide) h31]
  refine pureG_view (bs := [.lst ex 1 l.length (l.map .str), vClo.enc (.eqB s)]) (by simp [flatL, AV.flat]) ?_ ?_ rfl
  · have h1 : flatL (l.map AV.str) = true := flatL_map (fun _ => rfl) l
    simp [frzMap, frzF, AV.flat, h1, hb, vClo]
  · have := vList_dec dStr_enc ex l
    show ((vList vStr).dec (.lst ex 1 l.length (l.map vStr.enc))).bind (fun x => (vClo.dec (vClo.enc (.eqB s))).bind fun y => _) = _
    rw [this, vClo_dec]
    simp [Clo.ok, hl, hs]
    rfl
end Go.AM.X.G
