/- Short names beside nothing; which long names are alike: the law on names. Own work. -/
import Derived.Test.YtkaihcpnomdkkaaDoorLnmF
namespace Go.AM.X.N
open Go Go.AM Go.Proofs Go.AM.Sx Go.AM.X
set_option maxHeartbeats 1600000
set_option maxRecDepth 100000
set_option linter.unusedSimpArgs false
set_option linter.unusedVariables false
theorem F33 : F 33 = some { body := (Tryd.f33.body.getD .skip), results := Tryd.f33.results.toList, rf := false } := by kernel_rfl
theorem R33 : regsOk T (Tryd.f33.body.getD .skip) = true := by kernel_rfl
theorem F30 : F 30 = some { body := (Tryd.f30.body.getD .skip), results := Tryd.f30.results.toList, rf := false } := by kernel_rfl
theorem R30 : regsOk T (Tryd.f30.body.getD .skip) = true := by kernel_rfl
theorem F16 : F 16 = some { body := (Tryd.f16.body.getD .skip), results := Tryd.f16.results.toList, rf := false } := by kernel_rfl
theorem R16 : regsOk T (Tryd.f16.body.getD .skip) = true := by kernel_rfl
theorem F14 : F 14 = some { body := (Tryd.f14.body.getD .skip), results := Tryd.f14.results.toList, rf := false } := by kernel_rfl
theorem R14 : regsOk T (Tryd.f14.body.getD .skip) = true := by kernel_rfl
theorem F15 : F 15 = some { body := (Tryd.f15.body.getD .skip), results := Tryd.f15.results.toList, rf := false } := by kernel_rfl
theorem R15 : regsOk T (Tryd.f15.body.getD .skip) = true := by kernel_rfl
theorem F3 : F 3 = some { body := (Tryd.f3.body.getD .skip), results := Tryd.f3.results.toList, rf := false } := by kernel_rfl
theorem R3 : regsOk T (Tryd.f3.body.getD .skip) = true := by kernel_rfl
noncomputable def g9 : List AV → Option AV
  | [] => some (.bool true)
  | _ => none
theorem K9 {I : Nat → Option (List AV → AH → Rs)} (h9 : I 9 = some (pureG g9)) (m : Nat) (h : AH) : call F I T (m + 1) 9 [] h = some (.bool true, h) := by
  rw [call_I (by decide) h9]; exact pureG_flat rfl rfl
noncomputable def g46 : List AV → Option AV
  | [.int .i64 n] => if n = 1 then some (.str [49]) else none
  | _ => none
theorem K46 {I : Nat → Option (List AV → AH → Rs)} (h46 : I 46 = some (pureG g46)) (m : Nat) (h : AH) : call F I T (m + 1) 46 [.int .i64 1] h = some (.str [49], h) := by
  rw [call_I (by decide) h46]; exact pureG_flat rfl rfl
noncomputable def g48 : List AV → Option AV
  | [.int .i64 n] => if n = 1 then some (.str [49]) else none
  | _ => none
theorem K48 {I : Nat → Option (List AV → AH → Rs)} (h48 : I 48 = some (pureG g48)) (m : Nat) (h : AH) : call F I T (m + 1) 48 [.int .i64 1] h = some (.str [49], h) := by
  rw [call_I (by decide) h48]; exact pureG_flat rfl rfl
/-- The short name beside nothing. -/
noncomputable def shortN (s : List UInt8) : List UInt8 :=
  if (front (fold s)).take 8 ++ backD (fold s) = fold s then (front (fold s)).take 8 ++ backD (fold s) else (front (fold s)).take 6 ++ 126 :: 49 :: backD (fold s)
noncomputable def g33 : List AV → Option AV
  | [.str s, .nils] => if s.length < 140737488355328 then some (.tup [.str (shortN s), .bool true]) else none
  | _ => none
theorem backD_len (f : List UInt8) : (backD f).length ≤ 4 := by unfold backD; split <;> simp; omega
theorem run33 {I : Nat → Option (List AV → AH → Rs)} (h42 : I 42 = some (pureG g42)) (h46 : I 46 = some (pureG g46)) (h59 : I 59 = some (pureG g59)) (h60 : I 60 = some (pureG g60)) (h33 : I 33 = none) (s : List UInt8) (m : Nat) (hl : s.length < 140737488355328) : ∃ h', call F I T (m + 20) 33 [.str s, .nils] e0 = some (.tup [.str (shortN s), .bool true], h') := by
  obtain ⟨f, hf⟩ : ∃ f, f = fold s := ⟨_, rfl⟩
  obtain ⟨A, hA⟩ : ∃ A, A = front f := ⟨_, rfl⟩
  obtain ⟨B, hB⟩ : ∃ B, B = backD f := ⟨_, rfl⟩
  obtain ⟨A8, hA8⟩ : ∃ A8, A8 = A.take 8 := ⟨_, rfl⟩
  have hBl := backD_len f
  have hA8l : A8.length ≤ 8 := by rw [hA8, List.length_take]; omega
  rw [← hB] at hBl
  have k59 := fun m h => K59 h59 m s h hl
  have k42 := fun m h => K42 h42 m s h hl
  rw [← hf, ← hB, ← hA, ← hA8] at k59
  rw [← hf] at k42
  have hS : shortN s = if A8 ++ B = f then A8 ++ B else A.take 6 ++ 126 :: 49 :: B := by unfold shortN; rw [← hf, ← hB, ← hA, ← hA8]
  have k60 := fun m h s => K60n h60 m s h
  have c1 := fun h => sadd (t := 9) (x := A8) (y := B) (h := h) (by omega)
  rw [call_F (by decide) h33 F33 rfl R33]; simp only [Tryd.f33, Option.getD]
  by_cases q : A8 ++ B = f
  · have hr : shortN s = A8 ++ B := by rw [hS, if_pos q]
    rw [hr]
    simp +contextual (maxSteps := 3000000) only [↓code_skip, ↓code_seq, ↓code_region, ↓code_cond, ↓code_block, ↓code_scope, ↓code_label, ↓code_loop, ↓code_exit, ↓code_ret, aCond_bool, ↓ops_nil, ↓ops_cons, run_none, run_someT, run_someF, run_tup, ↓run0_v, ↓run0_h, ↓run0_r, ↓seqK_normal, ↓seqK_exit, ↓seqK_ret, ↓blkK_normal, ↓blkK_ret, ↓blkK_exit, ↓retK_normal, ↓retK_ret, put_same, put_ne, put_none, env0_at, ev_tmp, ev_const, ev_func, oc_int, oc_bool, oc_str, oc_nils, oc_nilp, oc_nilf, oc_nilm, o_move, o_assign, o_pick, o_bin, o_call, o_len, o_alloc, o_box, o_build, o_buildSlice, o_load, o_store, o_nilCheck, o_un, o_convert, o_makeFunc, o_makeSlice, o_slice, o_fieldAddr, o_field, o_indexAddr, o_index, o_extract, o_append, o_min, o_max, g_none, g_some, pick_bool, bin_add, bin_sub, bin_mul, bin_quo, bin_rem, bin_eql, bin_neq, bin_or, bin_and, bin_lss, bin_leq, bin_gtr, bin_geq, bin_shr, bin_shl, str_eql, str_neq, un_not, extract_tup, nil_ptr, nil_fp, part_1, part_A, next_e0, next_one, get_e0, resultsOf, oneOrAll, Option.bind_some, Option.map_some, Option.map_none, Option.getD_some, decide_eq_true_eq, ↓reduceIte, Nat.reduceEqDiff, not_false_eq_true, not_true_eq_false, Nat.reduceAdd, Nat.reduceMul, reduceCtorEq, if_true, if_false, Nat.succ_ne_self, List.getElem?_cons_zero, List.getElem?_cons_succ, List.getElem?_toArray, Bool.false_eq_true, Bool.true_eq_false, List.map_cons, List.map_nil, List.append_nil, List.nil_append, List.cons_append, AH.get_alloc, AH.get_put, AH.next_alloc, AH.next_put, ite_self, true_and, and_true, Nat.reduceLeDiff, Nat.le_refl, gt_iff_lt, ge_iff_le, Bool.not_eq_true', Bool.not_eq_eq_eq_not, Bool.not_true, Bool.not_false, Bool.not_eq_false', Bool.not_not, beq_iff_eq, bne_iff_ne, ne_eq, decide_eq_false_iff_not, len_str T9 d9, callV_fn (g := 42) (by decide), K42 h42, callV_fn (g := 46) (by decide), K46 h46, callV_fn (g := 59) (by decide), K59 h59, callV_fn (g := 60) (by decide), K60 h60, k59, k42, k60, c1, eq_true q]
    exact ⟨_, rfl⟩
  · have hr : shortN s = A.take 6 ++ 126 :: 49 :: B := by rw [hS, if_neg q]
    rw [hr]
    obtain ⟨k, hk⟩ : ∃ k, k = min A8.length 6 := ⟨_, rfl⟩
    have c2 : ∀ h : AH, aBin T .add 9 (.str [126]) (.str [49]) h = some (.str [126, 49]) := fun h => sadd (by simp)
    have c3 : IntKind.i64.wrap (8 - ((([126, 49] : List UInt8).length : Nat) : Int)) = 6 := by decide
    have c4 : aMin (.int .i64 (A8.length : Nat)) (.int .i64 6) = some (.int .i64 (k : Nat)) := by
      simp only [aMin]
      split <;> (simp only [Option.some.injEq, AV.int.injEq, true_and]; omega)
    have c5 := str_front (s := A8) (j := k) (by omega)
    have hAk : A8.take k = A.take 6 := by
      rw [hA8, hk, hA8, List.take_take, List.length_take]
      by_cases h : A.length ≤ 6
      · rw [List.take_of_length_le (by omega), List.take_of_length_le (by omega)]
      · congr 1; omega
    rw [hAk] at c5
    have c6 : ∀ h : AH, aBin T .add 9 (.str (A.take 6)) (.str [126, 49]) h = some (.str (A.take 6 ++ [126, 49])) := fun h => sadd (by simp; omega)
    have c7 : ∀ h : AH, aBin T .add 9 (.str (A.take 6 ++ [126, 49])) (.str B) h = some (.str (A.take 6 ++ 126 :: 49 :: B)) := fun h => by rw [sadd (by simp; omega)]; simp
    have c8 : (1 : Int) ≤ 999999 := by decide
    simp +contextual (maxSteps := 3000000) only [↓code_skip, ↓code_seq, ↓code_region, ↓code_cond, ↓code_block, ↓code_scope, ↓code_label, ↓code_loop, ↓code_exit, ↓code_ret, aCond_bool, ↓ops_nil, ↓ops_cons, run_none, run_someT, run_someF, run_tup, ↓run0_v, ↓run0_h, ↓run0_r, ↓seqK_normal, ↓seqK_exit, ↓seqK_ret, ↓blkK_normal, ↓blkK_ret, ↓blkK_exit, ↓retK_normal, ↓retK_ret, put_same, put_ne, put_none, env0_at, ev_tmp, ev_const, ev_func, oc_int, oc_bool, oc_str, oc_nils, oc_nilp, oc_nilf, oc_nilm, o_move, o_assign, o_pick, o_bin, o_call, o_len, o_alloc, o_box, o_build, o_buildSlice, o_load, o_store, o_nilCheck, o_un, o_convert, o_makeFunc, o_makeSlice, o_slice, o_fieldAddr, o_field, o_indexAddr, o_index, o_extract, o_append, o_min, o_max, g_none, g_some, pick_bool, bin_add, bin_sub, bin_mul, bin_quo, bin_rem, bin_eql, bin_neq, bin_or, bin_and, bin_lss, bin_leq, bin_gtr, bin_geq, bin_shr, bin_shl, str_eql, str_neq, un_not, extract_tup, nil_ptr, nil_fp, part_1, part_A, next_e0, next_one, get_e0, resultsOf, oneOrAll, Option.bind_some, Option.map_some, Option.map_none, Option.getD_some, decide_eq_true_eq, ↓reduceIte, Nat.reduceEqDiff, not_false_eq_true, not_true_eq_false, Nat.reduceAdd, Nat.reduceMul, reduceCtorEq, if_true, if_false, Nat.succ_ne_self, List.getElem?_cons_zero, List.getElem?_cons_succ, List.getElem?_toArray, Bool.false_eq_true, Bool.true_eq_false, List.map_cons, List.map_nil, List.append_nil, List.nil_append, List.cons_append, AH.get_alloc, AH.get_put, AH.next_alloc, AH.next_put, ite_self, true_and, and_true, Nat.reduceLeDiff, Nat.le_refl, gt_iff_lt, ge_iff_le, Bool.not_eq_true', Bool.not_eq_eq_eq_not, Bool.not_true, Bool.not_false, Bool.not_eq_false', Bool.not_not, beq_iff_eq, bne_iff_ne, ne_eq, decide_eq_false_iff_not, len_str T9 d9, callV_fn (g := 42) (by decide), K42 h42, callV_fn (g := 46) (by decide), K46 h46, callV_fn (g := 59) (by decide), K59 h59, callV_fn (g := 60) (by decide), K60 h60, k59, k42, k60, c1, eq_false q, ↓iterL_u, ↓loopU_normal, ↓loopU_exit, ↓loopU_ret, c2, c3, c4, c5, c6, c7, c8]
    exact ⟨_, rfl⟩
theorem K33 {I : Nat → Option (List AV → AH → Rs)} (h33 : I 33 = some (pureG g33)) (m : Nat) (s : List UInt8) (h : AH) (hl : s.length < 140737488355328) : call F I T (m + 1) 33 [.str s, .nils] h = some (.tup [.str (shortN s), .bool true], h) := by
  rw [call_I (by decide) h33]; exact pureG_flat rfl (by simp [g33, hl])
noncomputable def g30 : List AV → Option AV
  | [.str s, .nils] => if s.length < 140737488355327 then some (.str (shortN s)) else none
  | _ => none
theorem run30 {I : Nat → Option (List AV → AH → Rs)} (h18 : I 18 = some (pureG g18)) (h48 : I 48 = some (pureG g48)) (h54 : I 54 = some (pureG g54)) (h55 : I 55 = none) (h56 : I 56 = none) (h57 : I 57 = some (pureG g57)) (h30 : I 30 = none) (s : List UInt8) (m : Nat) (hl : s.length < 140737488355327) : ∃ h', call F I T (m + 20) 30 [.str s, .nils] e0 = some (.str (shortN s), h') := by
  obtain ⟨f, hf⟩ : ∃ f, f = fold s := ⟨_, rfl⟩
  have hfl : f.length = s.length := by rw [hf, fold_len]
  obtain ⟨A, hA⟩ : ∃ A, A = front f := ⟨_, rfl⟩
  obtain ⟨B, hB⟩ : ∃ B, B = back0 f := ⟨_, rfl⟩
  have hAl := front_len f
  have hBl := back_len f
  rw [← hA] at hAl
  rw [← hB] at hBl
  have k18 := fun m h => K18 h18 m s h hl
  rw [← hf] at k18
  have k54 := fun m h => K54 h54 m f h (by omega)
  rw [← hA, ← hB] at k54
  have k55a : ∀ m (h : AH), call F I T (m + 1) 55 [.str B, .int .i64 3] h = some (.str (B.take 3), h) := fun m h => K55 h55 m B 3 h (by omega) (by omega)
  have k55b : ∀ m (h : AH), call F I T (m + 1) 55 [.str A, .int .i64 8] h = some (.str (A.take 8), h) := fun m h => K55 h55 m A 8 h (by omega) (by omega)
  have k55c : ∀ m (h : AH), call F I T (m + 1) 55 [.str A, .int .i64 6] h = some (.str (A.take 6), h) := fun m h => K55 h55 m A 6 h (by omega) (by omega)
  have k57 := fun m h s => K57n h57 m s h
  have j1 : joined (A.take 8) (B.take 3) = A.take 8 ++ backD f := by rw [hB]; exact joined_back _ f
  have j2 : joined (A.take 6 ++ [126, 49]) (B.take 3) = A.take 6 ++ 126 :: 49 :: backD f := by rw [hB, joined_back]; simp
  have l1 : (A.take 8).length < 140737488355328 := by simp; omega
  have l2 : (B.take 3).length < 140737488355328 := by simp; omega
  have l3 : (A.take 6 ++ [126, 49]).length < 140737488355328 := by simp; omega
  have k56a := fun m h => K56 h56 m (A.take 8) (B.take 3) h l1 l2
  have k56b := fun m h => K56 h56 m (A.take 6 ++ [126, 49]) (B.take 3) h l3 l2
  rw [j1] at k56a
  rw [j2] at k56b
  have hS : shortN s = if A.take 8 ++ backD f = f then A.take 8 ++ backD f else A.take 6 ++ 126 :: 49 :: backD f := by unfold shortN; rw [← hf, ← hA]
  rw [call_F (by decide) h30 F30 rfl R30]; simp only [Tryd.f30, Option.getD]
  by_cases q : A.take 8 ++ backD f = f
  · have hr : shortN s = A.take 8 ++ backD f := by rw [hS, if_pos q]
    rw [hr]
    simp +contextual (maxSteps := 3000000) only [↓code_skip, ↓code_seq, ↓code_region, ↓code_cond, ↓code_block, ↓code_scope, ↓code_label, ↓code_loop, ↓code_exit, ↓code_ret, aCond_bool, ↓ops_nil, ↓ops_cons, run_none, run_someT, run_someF, run_tup, ↓run0_v, ↓run0_h, ↓run0_r, ↓seqK_normal, ↓seqK_exit, ↓seqK_ret, ↓blkK_normal, ↓blkK_ret, ↓blkK_exit, ↓retK_normal, ↓retK_ret, put_same, put_ne, put_none, env0_at, ev_tmp, ev_const, ev_func, oc_int, oc_bool, oc_str, oc_nils, oc_nilp, oc_nilf, oc_nilm, o_move, o_assign, o_pick, o_bin, o_call, o_len, o_alloc, o_box, o_build, o_buildSlice, o_load, o_store, o_nilCheck, o_un, o_convert, o_makeFunc, o_makeSlice, o_slice, o_fieldAddr, o_field, o_indexAddr, o_index, o_extract, o_append, o_min, o_max, g_none, g_some, pick_bool, bin_add, bin_sub, bin_mul, bin_quo, bin_rem, bin_eql, bin_neq, bin_or, bin_and, bin_lss, bin_leq, bin_gtr, bin_geq, bin_shr, bin_shl, str_add, str_eql, str_neq, un_not, extract_tup, nil_ptr, nil_fp, part_1, part_A, next_e0, next_one, get_e0, resultsOf, oneOrAll, Option.bind_some, Option.map_some, Option.map_none, Option.getD_some, decide_eq_true_eq, ↓reduceIte, Nat.reduceEqDiff, not_false_eq_true, not_true_eq_false, Nat.reduceAdd, Nat.reduceMul, reduceCtorEq, if_true, if_false, Nat.succ_ne_self, List.getElem?_cons_zero, List.getElem?_cons_succ, List.getElem?_toArray, Bool.false_eq_true, Bool.true_eq_false, List.map_cons, List.map_nil, List.append_nil, List.nil_append, List.cons_append, AH.get_alloc, AH.get_put, AH.next_alloc, AH.next_put, ite_self, true_and, and_true, Nat.reduceLeDiff, Nat.le_refl, gt_iff_lt, ge_iff_le, Bool.not_eq_true', Bool.not_eq_eq_eq_not, Bool.not_true, Bool.not_false, Bool.not_eq_false', Bool.not_not, beq_iff_eq, bne_iff_ne, ne_eq, decide_eq_false_iff_not, len_str T9 d9, callV_fn (g := 18) (by decide), K18 h18, callV_fn (g := 48) (by decide), K48 h48, callV_fn (g := 54) (by decide), K54 h54, callV_fn (g := 55) (by decide), K55 h55, callV_fn (g := 56) (by decide), K56 h56, callV_fn (g := 57) (by decide), K57 h57, k18, k54, k55a, k55b, k56a, k57, eq_true q]
    exact ⟨_, rfl⟩
  · have hr : shortN s = A.take 6 ++ 126 :: 49 :: backD f := by rw [hS, if_neg q]
    rw [hr]
    have c2 : ∀ h : AH, aBin T .add 9 (.str [126]) (.str [49]) h = some (.str [126, 49]) := fun h => sadd (by simp)
    have c3 : IntKind.i64.wrap (8 - ((([126, 49] : List UInt8).length : Nat) : Int)) = 6 := by decide
    have c6 : ∀ h : AH, aBin T .add 9 (.str (A.take 6)) (.str [126, 49]) h = some (.str (A.take 6 ++ [126, 49])) := fun h => sadd (by simp; omega)
    have c8 : (1 : Int) ≤ 999999 := by decide
    simp +contextual (maxSteps := 3000000) only [↓code_skip, ↓code_seq, ↓code_region, ↓code_cond, ↓code_block, ↓code_scope, ↓code_label, ↓code_loop, ↓code_exit, ↓code_ret, aCond_bool, ↓ops_nil, ↓ops_cons, run_none, run_someT, run_someF, run_tup, ↓run0_v, ↓run0_h, ↓run0_r, ↓seqK_normal, ↓seqK_exit, ↓seqK_ret, ↓blkK_normal, ↓blkK_ret, ↓blkK_exit, ↓retK_normal, ↓retK_ret, put_same, put_ne, put_none, env0_at, ev_tmp, ev_const, ev_func, oc_int, oc_bool, oc_str, oc_nils, oc_nilp, oc_nilf, oc_nilm, o_move, o_assign, o_pick, o_bin, o_call, o_len, o_alloc, o_box, o_build, o_buildSlice, o_load, o_store, o_nilCheck, o_un, o_convert, o_makeFunc, o_makeSlice, o_slice, o_fieldAddr, o_field, o_indexAddr, o_index, o_extract, o_append, o_min, o_max, g_none, g_some, pick_bool, bin_add, bin_sub, bin_mul, bin_quo, bin_rem, bin_eql, bin_neq, bin_or, bin_and, bin_lss, bin_leq, bin_gtr, bin_geq, bin_shr, bin_shl, str_eql, str_neq, un_not, extract_tup, nil_ptr, nil_fp, part_1, part_A, next_e0, next_one, get_e0, resultsOf, oneOrAll, Option.bind_some, Option.map_some, Option.map_none, Option.getD_some, decide_eq_true_eq, ↓reduceIte, Nat.reduceEqDiff, not_false_eq_true, not_true_eq_false, Nat.reduceAdd, Nat.reduceMul, reduceCtorEq, if_true, if_false, Nat.succ_ne_self, List.getElem?_cons_zero, List.getElem?_cons_succ, List.getElem?_toArray, Bool.false_eq_true, Bool.true_eq_false, List.map_cons, List.map_nil, List.append_nil, List.nil_append, List.cons_append, AH.get_alloc, AH.get_put, AH.next_alloc, AH.next_put, ite_self, true_and, and_true, Nat.reduceLeDiff, Nat.le_refl, gt_iff_lt, ge_iff_le, Bool.not_eq_true', Bool.not_eq_eq_eq_not, Bool.not_true, Bool.not_false, Bool.not_eq_false', Bool.not_not, beq_iff_eq, bne_iff_ne, ne_eq, decide_eq_false_iff_not, len_str T9 d9, callV_fn (g := 18) (by decide), K18 h18, callV_fn (g := 48) (by decide), K48 h48, callV_fn (g := 54) (by decide), K54 h54, callV_fn (g := 55) (by decide), K55 h55, callV_fn (g := 56) (by decide), K56 h56, callV_fn (g := 57) (by decide), K57 h57, k18, k54, k55a, k55b, k55c, k56a, k56b, k57, eq_false q, ↓iterL_u, ↓loopU_normal, ↓loopU_exit, ↓loopU_ret, c2, c3, c6, c8]
    exact ⟨_, rfl⟩
theorem K30 {I : Nat → Option (List AV → AH → Rs)} (h30 : I 30 = some (pureG g30)) (m : Nat) (s : List UInt8) (h : AH) (hl : s.length < 140737488355327) : call F I T (m + 1) 30 [.str s, .nils] h = some (.str (shortN s), h) := by
  rw [call_I (by decide) h30]; exact pureG_flat rfl (by simp [g30, hl])
noncomputable def sN (s : List UInt8) : AV := if isLong s = true then .tup [.str (shortN s), .int .i64 0] else .tup [.str [], .int .i64 2]
noncomputable def g16 : List AV → Option AV
  | [.str s, .nils] => if s.length < 140737488355328 then some (sN s) else none
  | _ => none
theorem run16 {I : Nat → Option (List AV → AH → Rs)} (h10 : I 10 = some (pureG g10)) (h31 : I 31 = some (pureG g31)) (h12 : I 12 = some (pureG g12)) (h32 : I 32 = none) (h33 : I 33 = some (pureG g33)) (h16 : I 16 = none) (s : List UInt8) (m : Nat) (hl : s.length < 140737488355328) : ∃ h', call F I T (m + 20) 16 [.str s, .nils] e0 = some (sN s, h') := by
  have k31 := fun m h => K31n h31 m h
  have c1 : ¬ (150 : Int) < 0 := by decide
  rw [call_F (by decide) h16 F16 rfl R16]; simp only [Tryd.f16, Option.getD]
  cases q : isLong s with
  | true =>
    have hr : sN s = .tup [.str (shortN s), .int .i64 0] := by unfold sN; rw [if_pos q]
    rw [hr]
    simp +contextual (maxSteps := 3000000) only [↓code_skip, ↓code_seq, ↓code_region, ↓code_cond, ↓code_block, ↓code_scope, ↓code_label, ↓code_loop, ↓code_exit, ↓code_ret, aCond_bool, ↓ops_nil, ↓ops_cons, run_none, run_someT, run_someF, run_tup, ↓run0_v, ↓run0_h, ↓run0_r, ↓seqK_normal, ↓seqK_exit, ↓seqK_ret, ↓blkK_normal, ↓blkK_ret, ↓blkK_exit, ↓retK_normal, ↓retK_ret, put_same, put_ne, put_none, env0_at, ev_tmp, ev_const, ev_func, oc_int, oc_bool, oc_str, oc_nils, oc_nilp, oc_nilf, oc_nilm, o_move, o_assign, o_pick, o_bin, o_call, o_len, o_alloc, o_box, o_build, o_buildSlice, o_load, o_store, o_nilCheck, o_un, o_convert, o_makeFunc, o_makeSlice, o_slice, o_fieldAddr, o_field, o_indexAddr, o_index, o_extract, o_append, o_min, o_max, g_none, g_some, pick_bool, bin_add, bin_sub, bin_mul, bin_quo, bin_rem, bin_eql, bin_neq, bin_or, bin_and, bin_lss, bin_leq, bin_gtr, bin_geq, bin_shr, bin_shl, str_add, str_eql, str_neq, un_not, extract_tup, nil_ptr, nil_fp, part_1, part_A, next_e0, next_one, get_e0, resultsOf, oneOrAll, Option.bind_some, Option.map_some, Option.map_none, Option.getD_some, decide_eq_true_eq, ↓reduceIte, Nat.reduceEqDiff, not_false_eq_true, not_true_eq_false, Nat.reduceAdd, Nat.reduceMul, reduceCtorEq, if_true, if_false, Nat.succ_ne_self, List.getElem?_cons_zero, List.getElem?_cons_succ, List.getElem?_toArray, Bool.false_eq_true, Bool.true_eq_false, List.map_cons, List.map_nil, List.append_nil, List.nil_append, List.cons_append, AH.get_alloc, AH.get_put, AH.next_alloc, AH.next_put, ite_self, true_and, and_true, Nat.reduceLeDiff, Nat.le_refl, gt_iff_lt, ge_iff_le, Bool.not_eq_true', Bool.not_eq_eq_eq_not, Bool.not_true, Bool.not_false, Bool.not_eq_false', Bool.not_not, beq_iff_eq, bne_iff_ne, ne_eq, decide_eq_false_iff_not, len_lst T23 d23, len_sl T23 d23, len_nils T23 d23, callV_fn (g := 10) (by decide), K10 h10, callV_fn (g := 31) (by decide), K31 h31, callV_fn (g := 32) (by decide), K32 h12 h32, callV_fn (g := 33) (by decide), K33 h33, k31, hl, q, c1]
    exact ⟨_, rfl⟩
  | false =>
    have hr : sN s = .tup [.str [], .int .i64 2] := by unfold sN; rw [if_neg (by rw [q]; simp)]
    rw [hr]
    simp +contextual (maxSteps := 3000000) only [↓code_skip, ↓code_seq, ↓code_region, ↓code_cond, ↓code_block, ↓code_scope, ↓code_label, ↓code_loop, ↓code_exit, ↓code_ret, aCond_bool, ↓ops_nil, ↓ops_cons, run_none, run_someT, run_someF, run_tup, ↓run0_v, ↓run0_h, ↓run0_r, ↓seqK_normal, ↓seqK_exit, ↓seqK_ret, ↓blkK_normal, ↓blkK_ret, ↓blkK_exit, ↓retK_normal, ↓retK_ret, put_same, put_ne, put_none, env0_at, ev_tmp, ev_const, ev_func, oc_int, oc_bool, oc_str, oc_nils, oc_nilp, oc_nilf, oc_nilm, o_move, o_assign, o_pick, o_bin, o_call, o_len, o_alloc, o_box, o_build, o_buildSlice, o_load, o_store, o_nilCheck, o_un, o_convert, o_makeFunc, o_makeSlice, o_slice, o_fieldAddr, o_field, o_indexAddr, o_index, o_extract, o_append, o_min, o_max, g_none, g_some, pick_bool, bin_add, bin_sub, bin_mul, bin_quo, bin_rem, bin_eql, bin_neq, bin_or, bin_and, bin_lss, bin_leq, bin_gtr, bin_geq, bin_shr, bin_shl, str_add, str_eql, str_neq, un_not, extract_tup, nil_ptr, nil_fp, part_1, part_A, next_e0, next_one, get_e0, resultsOf, oneOrAll, Option.bind_some, Option.map_some, Option.map_none, Option.getD_some, decide_eq_true_eq, ↓reduceIte, Nat.reduceEqDiff, not_false_eq_true, not_true_eq_false, Nat.reduceAdd, Nat.reduceMul, reduceCtorEq, if_true, if_false, Nat.succ_ne_self, List.getElem?_cons_zero, List.getElem?_cons_succ, List.getElem?_toArray, Bool.false_eq_true, Bool.true_eq_false, List.map_cons, List.map_nil, List.append_nil, List.nil_append, List.cons_append, AH.get_alloc, AH.get_put, AH.next_alloc, AH.next_put, ite_self, true_and, and_true, Nat.reduceLeDiff, Nat.le_refl, gt_iff_lt, ge_iff_le, Bool.not_eq_true', Bool.not_eq_eq_eq_not, Bool.not_true, Bool.not_false, Bool.not_eq_false', Bool.not_not, beq_iff_eq, bne_iff_ne, ne_eq, decide_eq_false_iff_not, len_lst T23 d23, len_sl T23 d23, len_nils T23 d23, callV_fn (g := 10) (by decide), K10 h10, callV_fn (g := 31) (by decide), K31 h31, callV_fn (g := 32) (by decide), K32 h12 h32, callV_fn (g := 33) (by decide), K33 h33, k31, hl, q, c1]
    exact ⟨_, rfl⟩
theorem K16 {I : Nat → Option (List AV → AH → Rs)} (h16 : I 16 = some (pureG g16)) (m : Nat) (s : List UInt8) (h : AH) (hl : s.length < 140737488355328) : call F I T (m + 1) 16 [.str s, .nils] h = some (sN s, h) := by
  rw [call_I (by decide) h16]; exact pureG_flat rfl (by simp [g16, hl])
noncomputable def alikeN (a b : List UInt8) : Bool := isLong a && isLong b && decide (shortN a = shortN b)
noncomputable def g14 := G2 vStr vStr fun a b => if a.length < 140737488355327 ∧ b.length < 140737488355327 then some (.bool (alikeN a b)) else none
theorem run14 {I : Nat → Option (List AV → AH → Rs)} (h16 : I 16 = some (pureG g16)) (h14 : I 14 = none) (a b : List UInt8) (m : Nat) (hl : a.length < 140737488355327) (hl2 : b.length < 140737488355327) : ∃ h', call F I T (m + 20) 14 [.str a, .str b] e0 = some (.bool (alikeN a b), h') := by
  have k1 := fun m h => K16 h16 m a h (by omega)
  have k2 := fun m h => K16 h16 m b h (by omega)
  rw [call_F (by decide) h14 F14 rfl R14]; simp only [Tryd.f14, Option.getD]
  cases q1 : isLong a with
  | false =>
    have h1 : sN a = .tup [.str [], .int .i64 2] := by unfold sN; rw [if_neg (by rw [q1]; simp)]
    rw [h1] at k1
    cases q2 : isLong b with
    | true =>
      have h2 : sN b = .tup [.str (shortN b), .int .i64 0] := by unfold sN; rw [if_pos q2]
      rw [h2] at k2
      simp +contextual (maxSteps := 3000000) only [↓code_skip, ↓code_seq, ↓code_region, ↓code_cond, ↓code_block, ↓code_scope, ↓code_label, ↓code_loop, ↓code_exit, ↓code_ret, aCond_bool, ↓ops_nil, ↓ops_cons, run_none, run_someT, run_someF, run_tup, ↓run0_v, ↓run0_h, ↓run0_r, ↓seqK_normal, ↓seqK_exit, ↓seqK_ret, ↓blkK_normal, ↓blkK_ret, ↓blkK_exit, ↓retK_normal, ↓retK_ret, put_same, put_ne, put_none, env0_at, ev_tmp, ev_const, ev_func, oc_int, oc_bool, oc_str, oc_nils, oc_nilp, oc_nilf, oc_nilm, o_move, o_assign, o_pick, o_bin, o_call, o_len, o_alloc, o_box, o_build, o_buildSlice, o_load, o_store, o_nilCheck, o_un, o_convert, o_makeFunc, o_makeSlice, o_slice, o_fieldAddr, o_field, o_indexAddr, o_index, o_extract, o_append, o_min, o_max, g_none, g_some, pick_bool, bin_add, bin_sub, bin_mul, bin_quo, bin_rem, bin_eql, bin_neq, bin_or, bin_and, bin_lss, bin_leq, bin_gtr, bin_geq, bin_shr, bin_shl, str_add, str_eql, str_neq, un_not, extract_tup, nil_ptr, nil_fp, part_1, part_A, next_e0, next_one, get_e0, resultsOf, oneOrAll, Option.bind_some, Option.map_some, Option.map_none, Option.getD_some, decide_eq_true_eq, ↓reduceIte, Nat.reduceEqDiff, not_false_eq_true, not_true_eq_false, Nat.reduceAdd, Nat.reduceMul, reduceCtorEq, if_true, if_false, Nat.succ_ne_self, List.getElem?_cons_zero, List.getElem?_cons_succ, List.getElem?_toArray, Bool.false_eq_true, Bool.true_eq_false, List.map_cons, List.map_nil, List.append_nil, List.nil_append, List.cons_append, AH.get_alloc, AH.get_put, AH.next_alloc, AH.next_put, ite_self, true_and, and_true, Nat.reduceLeDiff, Nat.le_refl, gt_iff_lt, ge_iff_le, Bool.not_eq_true', Bool.not_eq_eq_eq_not, Bool.not_true, Bool.not_false, Bool.not_eq_false', Bool.not_not, beq_iff_eq, bne_iff_ne, ne_eq, decide_eq_false_iff_not, callV_fn (g := 16) (by decide), k1, k2]
      exact ⟨e0, by simp [alikeN, q1]⟩
    | false =>
      have h2 : sN b = .tup [.str [], .int .i64 2] := by unfold sN; rw [if_neg (by rw [q2]; simp)]
      rw [h2] at k2
      simp +contextual (maxSteps := 3000000) only [↓code_skip, ↓code_seq, ↓code_region, ↓code_cond, ↓code_block, ↓code_scope, ↓code_label, ↓code_loop, ↓code_exit, ↓code_ret, aCond_bool, ↓ops_nil, ↓ops_cons, run_none, run_someT, run_someF, run_tup, ↓run0_v, ↓run0_h, ↓run0_r, ↓seqK_normal, ↓seqK_exit, ↓seqK_ret, ↓blkK_normal, ↓blkK_ret, ↓blkK_exit, ↓retK_normal, ↓retK_ret, put_same, put_ne, put_none, env0_at, ev_tmp, ev_const, ev_func, oc_int, oc_bool, oc_str, oc_nils, oc_nilp, oc_nilf, oc_nilm, o_move, o_assign, o_pick, o_bin, o_call, o_len, o_alloc, o_box, o_build, o_buildSlice, o_load, o_store, o_nilCheck, o_un, o_convert, o_makeFunc, o_makeSlice, o_slice, o_fieldAddr, o_field, o_indexAddr, o_index, o_extract, o_append, o_min, o_max, g_none, g_some, pick_bool, bin_add, bin_sub, bin_mul, bin_quo, bin_rem, bin_eql, bin_neq, bin_or, bin_and, bin_lss, bin_leq, bin_gtr, bin_geq, bin_shr, bin_shl, str_add, str_eql, str_neq, un_not, extract_tup, nil_ptr, nil_fp, part_1, part_A, next_e0, next_one, get_e0, resultsOf, oneOrAll, Option.bind_some, Option.map_some, Option.map_none, Option.getD_some, decide_eq_true_eq, ↓reduceIte, Nat.reduceEqDiff, not_false_eq_true, not_true_eq_false, Nat.reduceAdd, Nat.reduceMul, reduceCtorEq, if_true, if_false, Nat.succ_ne_self, List.getElem?_cons_zero, List.getElem?_cons_succ, List.getElem?_toArray, Bool.false_eq_true, Bool.true_eq_false, List.map_cons, List.map_nil, List.append_nil, List.nil_append, List.cons_append, AH.get_alloc, AH.get_put, AH.next_alloc, AH.next_put, ite_self, true_and, and_true, Nat.reduceLeDiff, Nat.le_refl, gt_iff_lt, ge_iff_le, Bool.not_eq_true', Bool.not_eq_eq_eq_not, Bool.not_true, Bool.not_false, Bool.not_eq_false', Bool.not_not, beq_iff_eq, bne_iff_ne, ne_eq, decide_eq_false_iff_not, callV_fn (g := 16) (by decide), k1, k2]
      exact ⟨e0, by simp [alikeN, q1]⟩
  | true =>
    have h1 : sN a = .tup [.str (shortN a), .int .i64 0] := by unfold sN; rw [if_pos q1]
    rw [h1] at k1
    cases q2 : isLong b with
    | true =>
      have h2 : sN b = .tup [.str (shortN b), .int .i64 0] := by unfold sN; rw [if_pos q2]
      rw [h2] at k2
      simp +contextual (maxSteps := 3000000) only [↓code_skip, ↓code_seq, ↓code_region, ↓code_cond, ↓code_block, ↓code_scope, ↓code_label, ↓code_loop, ↓code_exit, ↓code_ret, aCond_bool, ↓ops_nil, ↓ops_cons, run_none, run_someT, run_someF, run_tup, ↓run0_v, ↓run0_h, ↓run0_r, ↓seqK_normal, ↓seqK_exit, ↓seqK_ret, ↓blkK_normal, ↓blkK_ret, ↓blkK_exit, ↓retK_normal, ↓retK_ret, put_same, put_ne, put_none, env0_at, ev_tmp, ev_const, ev_func, oc_int, oc_bool, oc_str, oc_nils, oc_nilp, oc_nilf, oc_nilm, o_move, o_assign, o_pick, o_bin, o_call, o_len, o_alloc, o_box, o_build, o_buildSlice, o_load, o_store, o_nilCheck, o_un, o_convert, o_makeFunc, o_makeSlice, o_slice, o_fieldAddr, o_field, o_indexAddr, o_index, o_extract, o_append, o_min, o_max, g_none, g_some, pick_bool, bin_add, bin_sub, bin_mul, bin_quo, bin_rem, bin_eql, bin_neq, bin_or, bin_and, bin_lss, bin_leq, bin_gtr, bin_geq, bin_shr, bin_shl, str_add, str_eql, str_neq, un_not, extract_tup, nil_ptr, nil_fp, part_1, part_A, next_e0, next_one, get_e0, resultsOf, oneOrAll, Option.bind_some, Option.map_some, Option.map_none, Option.getD_some, decide_eq_true_eq, ↓reduceIte, Nat.reduceEqDiff, not_false_eq_true, not_true_eq_false, Nat.reduceAdd, Nat.reduceMul, reduceCtorEq, if_true, if_false, Nat.succ_ne_self, List.getElem?_cons_zero, List.getElem?_cons_succ, List.getElem?_toArray, Bool.false_eq_true, Bool.true_eq_false, List.map_cons, List.map_nil, List.append_nil, List.nil_append, List.cons_append, AH.get_alloc, AH.get_put, AH.next_alloc, AH.next_put, ite_self, true_and, and_true, Nat.reduceLeDiff, Nat.le_refl, gt_iff_lt, ge_iff_le, Bool.not_eq_true', Bool.not_eq_eq_eq_not, Bool.not_true, Bool.not_false, Bool.not_eq_false', Bool.not_not, beq_iff_eq, bne_iff_ne, ne_eq, decide_eq_false_iff_not, callV_fn (g := 16) (by decide), k1, k2]
      exact ⟨e0, by simp [alikeN, q1, q2]⟩
    | false =>
      have h2 : sN b = .tup [.str [], .int .i64 2] := by unfold sN; rw [if_neg (by rw [q2]; simp)]
      rw [h2] at k2
      simp +contextual (maxSteps := 3000000) only [↓code_skip, ↓code_seq, ↓code_region, ↓code_cond, ↓code_block, ↓code_scope, ↓code_label, ↓code_loop, ↓code_exit, ↓code_ret, aCond_bool, ↓ops_nil, ↓ops_cons, run_none, run_someT, run_someF, run_tup, ↓run0_v, ↓run0_h, ↓run0_r, ↓seqK_normal, ↓seqK_exit, ↓seqK_ret, ↓blkK_normal, ↓blkK_ret, ↓blkK_exit, ↓retK_normal, ↓retK_ret, put_same, put_ne, put_none, env0_at, ev_tmp, ev_const, ev_func, oc_int, oc_bool, oc_str, oc_nils, oc_nilp, oc_nilf, oc_nilm, o_move, o_assign, o_pick, o_bin, o_call, o_len, o_alloc, o_box, o_build, o_buildSlice, o_load, o_store, o_nilCheck, o_un, o_convert, o_makeFunc, o_makeSlice, o_slice, o_fieldAddr, o_field, o_indexAddr, o_index, o_extract, o_append, o_min, o_max, g_none, g_some, pick_bool, bin_add, bin_sub, bin_mul, bin_quo, bin_rem, bin_eql, bin_neq, bin_or, bin_and, bin_lss, bin_leq, bin_gtr, bin_geq, bin_shr, bin_shl, str_add, str_eql, str_neq, un_not, extract_tup, nil_ptr, nil_fp, part_1, part_A, next_e0, next_one, get_e0, resultsOf, oneOrAll, Option.bind_some, Option.map_some, Option.map_none, Option.getD_some, decide_eq_true_eq, ↓reduceIte, Nat.reduceEqDiff, not_false_eq_true, not_true_eq_false, Nat.reduceAdd, Nat.reduceMul, reduceCtorEq, if_true, if_false, Nat.succ_ne_self, List.getElem?_cons_zero, List.getElem?_cons_succ, List.getElem?_toArray, Bool.false_eq_true, Bool.true_eq_false, List.map_cons, List.map_nil, List.append_nil, List.nil_append, List.cons_append, AH.get_alloc, AH.get_put, AH.next_alloc, AH.next_put, ite_self, true_and, and_true, Nat.reduceLeDiff, Nat.le_refl, gt_iff_lt, ge_iff_le, Bool.not_eq_true', Bool.not_eq_eq_eq_not, Bool.not_true, Bool.not_false, Bool.not_eq_false', Bool.not_not, beq_iff_eq, bne_iff_ne, ne_eq, decide_eq_false_iff_not, callV_fn (g := 16) (by decide), k1, k2]
      exact ⟨e0, by simp [alikeN, q2]⟩
theorem K14 {I : Nat → Option (List AV → AH → Rs)} (h14 : I 14 = some (pureG g14)) (m : Nat) (a b : List UInt8) (h : AH) (hl : a.length < 140737488355327) (hl2 : b.length < 140737488355327) : call F I T (m + 1) 14 [.str a, .str b] h = some (.bool (alikeN a b), h) := by
  rw [call_I (by decide) h14]; exact pureG_flat rfl (by simp [g14, G2, vStr, dStr, hl, hl2])
noncomputable def g15 := G2 vStr vStr fun a b => if a.length < 140737488355327 ∧ b.length < 140737488355327 then some (.bool (alikeN a b)) else none
theorem run15 {I : Nat → Option (List AV → AH → Rs)} (h11 : I 11 = some (pureG g11)) (h30 : I 30 = some (pureG g30)) (h15 : I 15 = none) (a b : List UInt8) (m : Nat) (hl : a.length < 140737488355327) (hl2 : b.length < 140737488355327) : ∃ h', call F I T (m + 20) 15 [.str a, .str b] e0 = some (.bool (alikeN a b), h') := by
  have l1 : a.length < 140737488355328 := by omega
  have l2 : b.length < 140737488355328 := by omega
  rw [call_F (by decide) h15 F15 rfl R15]; simp only [Tryd.f15, Option.getD]
  cases q1 : isLong a with
  | false =>
    simp +contextual (maxSteps := 3000000) only [↓code_skip, ↓code_seq, ↓code_region, ↓code_cond, ↓code_block, ↓code_scope, ↓code_label, ↓code_loop, ↓code_exit, ↓code_ret, aCond_bool, ↓ops_nil, ↓ops_cons, run_none, run_someT, run_someF, run_tup, ↓run0_v, ↓run0_h, ↓run0_r, ↓seqK_normal, ↓seqK_exit, ↓seqK_ret, ↓blkK_normal, ↓blkK_ret, ↓blkK_exit, ↓retK_normal, ↓retK_ret, put_same, put_ne, put_none, env0_at, ev_tmp, ev_const, ev_func, oc_int, oc_bool, oc_str, oc_nils, oc_nilp, oc_nilf, oc_nilm, o_move, o_assign, o_pick, o_bin, o_call, o_len, o_alloc, o_box, o_build, o_buildSlice, o_load, o_store, o_nilCheck, o_un, o_convert, o_makeFunc, o_makeSlice, o_slice, o_fieldAddr, o_field, o_indexAddr, o_index, o_extract, o_append, o_min, o_max, g_none, g_some, pick_bool, bin_add, bin_sub, bin_mul, bin_quo, bin_rem, bin_eql, bin_neq, bin_or, bin_and, bin_lss, bin_leq, bin_gtr, bin_geq, bin_shr, bin_shl, str_add, str_eql, str_neq, un_not, extract_tup, nil_ptr, nil_fp, part_1, part_A, next_e0, next_one, get_e0, resultsOf, oneOrAll, Option.bind_some, Option.map_some, Option.map_none, Option.getD_some, decide_eq_true_eq, ↓reduceIte, Nat.reduceEqDiff, not_false_eq_true, not_true_eq_false, Nat.reduceAdd, Nat.reduceMul, reduceCtorEq, if_true, if_false, Nat.succ_ne_self, List.getElem?_cons_zero, List.getElem?_cons_succ, List.getElem?_toArray, Bool.false_eq_true, Bool.true_eq_false, List.map_cons, List.map_nil, List.append_nil, List.nil_append, List.cons_append, AH.get_alloc, AH.get_put, AH.next_alloc, AH.next_put, ite_self, true_and, and_true, Nat.reduceLeDiff, Nat.le_refl, gt_iff_lt, ge_iff_le, Bool.not_eq_true', Bool.not_eq_eq_eq_not, Bool.not_true, Bool.not_false, Bool.not_eq_false', Bool.not_not, beq_iff_eq, bne_iff_ne, ne_eq, decide_eq_false_iff_not, callV_fn (g := 11) (by decide), K11 h11, callV_fn (g := 30) (by decide), K30 h30, l1, l2, q1]
    exact ⟨e0, by simp [alikeN, q1]⟩
  | true =>
    cases q2 : isLong b with
    | true =>
      simp +contextual (maxSteps := 3000000) only [↓code_skip, ↓code_seq, ↓code_region, ↓code_cond, ↓code_block, ↓code_scope, ↓code_label, ↓code_loop, ↓code_exit, ↓code_ret, aCond_bool, ↓ops_nil, ↓ops_cons, run_none, run_someT, run_someF, run_tup, ↓run0_v, ↓run0_h, ↓run0_r, ↓seqK_normal, ↓seqK_exit, ↓seqK_ret, ↓blkK_normal, ↓blkK_ret, ↓blkK_exit, ↓retK_normal, ↓retK_ret, put_same, put_ne, put_none, env0_at, ev_tmp, ev_const, ev_func, oc_int, oc_bool, oc_str, oc_nils, oc_nilp, oc_nilf, oc_nilm, o_move, o_assign, o_pick, o_bin, o_call, o_len, o_alloc, o_box, o_build, o_buildSlice, o_load, o_store, o_nilCheck, o_un, o_convert, o_makeFunc, o_makeSlice, o_slice, o_fieldAddr, o_field, o_indexAddr, o_index, o_extract, o_append, o_min, o_max, g_none, g_some, pick_bool, bin_add, bin_sub, bin_mul, bin_quo, bin_rem, bin_eql, bin_neq, bin_or, bin_and, bin_lss, bin_leq, bin_gtr, bin_geq, bin_shr, bin_shl, str_add, str_eql, str_neq, un_not, extract_tup, nil_ptr, nil_fp, part_1, part_A, next_e0, next_one, get_e0, resultsOf, oneOrAll, Option.bind_some, Option.map_some, Option.map_none, Option.getD_some, decide_eq_true_eq, ↓reduceIte, Nat.reduceEqDiff, not_false_eq_true, not_true_eq_false, Nat.reduceAdd, Nat.reduceMul, reduceCtorEq, if_true, if_false, Nat.succ_ne_self, List.getElem?_cons_zero, List.getElem?_cons_succ, List.getElem?_toArray, Bool.false_eq_true, Bool.true_eq_false, List.map_cons, List.map_nil, List.append_nil, List.nil_append, List.cons_append, AH.get_alloc, AH.get_put, AH.next_alloc, AH.next_put, ite_self, true_and, and_true, Nat.reduceLeDiff, Nat.le_refl, gt_iff_lt, ge_iff_le, Bool.not_eq_true', Bool.not_eq_eq_eq_not, Bool.not_true, Bool.not_false, Bool.not_eq_false', Bool.not_not, beq_iff_eq, bne_iff_ne, ne_eq, decide_eq_false_iff_not, callV_fn (g := 11) (by decide), K11 h11, callV_fn (g := 30) (by decide), K30 h30, l1, l2, hl, hl2, q1, q2]
      exact ⟨e0, by simp [alikeN, q1, q2]⟩
    | false =>
      simp +contextual (maxSteps := 3000000) only [↓code_skip, ↓code_seq, ↓code_region, ↓code_cond, ↓code_block, ↓code_scope, ↓code_label, ↓code_loop, ↓code_exit, ↓code_ret, aCond_bool, ↓ops_nil, ↓ops_cons, run_none, run_someT, run_someF, run_tup, ↓run0_v, ↓run0_h, ↓run0_r, ↓seqK_normal, ↓seqK_exit, ↓seqK_ret, ↓blkK_normal, ↓blkK_ret, ↓blkK_exit, ↓retK_normal, ↓retK_ret, put_same, put_ne, put_none, env0_at, ev_tmp, ev_const, ev_func, oc_int, oc_bool, oc_str, oc_nils, oc_nilp, oc_nilf, oc_nilm, o_move, o_assign, o_pick, o_bin, o_call, o_len, o_alloc, o_box, o_build, o_buildSlice, o_load, o_store, o_nilCheck, o_un, o_convert, o_makeFunc, o_makeSlice, o_slice, o_fieldAddr, o_field, o_indexAddr, o_index, o_extract, o_append, o_min, o_max, g_none, g_some, pick_bool, bin_add, bin_sub, bin_mul, bin_quo, bin_rem, bin_eql, bin_neq, bin_or, bin_and, bin_lss, bin_leq, bin_gtr, bin_geq, bin_shr, bin_shl, str_add, str_eql, str_neq, un_not, extract_tup, nil_ptr, nil_fp, part_1, part_A, next_e0, next_one, get_e0, resultsOf, oneOrAll, Option.bind_some, Option.map_some, Option.map_none, Option.getD_some, decide_eq_true_eq, ↓reduceIte, Nat.reduceEqDiff, not_false_eq_true, not_true_eq_false, Nat.reduceAdd, Nat.reduceMul, reduceCtorEq, if_true, if_false, Nat.succ_ne_self, List.getElem?_cons_zero, List.getElem?_cons_succ, List.getElem?_toArray, Bool.false_eq_true, Bool.true_eq_false, List.map_cons, List.map_nil, List.append_nil, List.nil_append, List.cons_append, AH.get_alloc, AH.get_put, AH.next_alloc, AH.next_put, ite_self, true_and, and_true, Nat.reduceLeDiff, Nat.le_refl, gt_iff_lt, ge_iff_le, Bool.not_eq_true', Bool.not_eq_eq_eq_not, Bool.not_true, Bool.not_false, Bool.not_eq_false', Bool.not_not, beq_iff_eq, bne_iff_ne, ne_eq, decide_eq_false_iff_not, callV_fn (g := 11) (by decide), K11 h11, callV_fn (g := 30) (by decide), K30 h30, l1, l2, q1, q2]
      exact ⟨e0, by simp [alikeN, q2]⟩
theorem K15 {I : Nat → Option (List AV → AH → Rs)} (h15 : I 15 = some (pureG g15)) (m : Nat) (a b : List UInt8) (h : AH) (hl : a.length < 140737488355327) (hl2 : b.length < 140737488355327) : call F I T (m + 1) 15 [.str a, .str b] h = some (.bool (alikeN a b), h) := by
  rw [call_I (by decide) h15]; exact pureG_flat rfl (by simp [g15, G2, vStr, dStr, hl, hl2])
theorem K8v {I : Nat → Option (List AV → AH → Rs)} (h8 : I 8 = some (pureG g8)) (m : Nat) (a b : List UInt8) (n : Nat) (h : AH) (hb : h.get n = some (.cells [.str a, .str b] .own)) : call F I T (m + 1) 8 [.sl n 0 2 2 1 true] h = some (.bool (tooLong [a, b]), h) := by
  rw [call_I (by decide) h8]
  refine pureG_view (bs := [.lst true 1 2 [.str a, .str b]]) (by simp [flatL, AV.flat]) ?_ ?_ rfl
  · refine frzMap_cons ?_ frzMap_nil
    exact frz_sl (k := 8) hb rfl (by simp [frzMap, frzF, AV.flat])
  · have := vList_dec dStr_enc true [a, b]
    have h2 : (vList vStr).dec (.lst true 1 2 [.str a, .str b]) = some [a, b] := this
    unfold g8
    simp only [G1, h2, Option.bind_some]
    simp
theorem run3 {I : Nat → Option (List AV → AH → Rs)} (h8 : I 8 = some (pureG g8)) (h9 : I 9 = some (pureG g9)) (h10 : I 10 = some (pureG g10)) (h11 : I 11 = some (pureG g11)) (h12 : I 12 = some (pureG g12)) (h13 : I 13 = some (pureG g13)) (h14 : I 14 = some (pureG g14)) (h15 : I 15 = some (pureG g15)) (h3 : I 3 = none) (a b : List UInt8) (m : Nat) (hl : a.length < 140737488355327) (hl2 : b.length < 140737488355327) : ∃ h', call F I T (m + 20) 3 [.str a, .str b] e0 = some (.bool true, h') := by
  have l1 : a.length < 140737488355328 := by omega
  have l2 : b.length < 140737488355328 := by omega
  have k8 := fun m => K8v h8 m a b 0 (e0.alloc (.cells [.str a, .str b] .own)) (by rw [AH.get_alloc]; rfl)
  rw [call_F (by decide) h3 F3 rfl R3]; simp only [Tryd.f3, Option.getD]
  cases q : tooLong [a, b] with
  | true =>
    rw [q] at k8
    simp +contextual (maxSteps := 3000000) only [↓code_skip, ↓code_seq, ↓code_region, ↓code_cond, ↓code_block, ↓code_scope, ↓code_label, ↓code_loop, ↓code_exit, ↓code_ret, aCond_bool, ↓ops_nil, ↓ops_cons, run_none, run_someT, run_someF, run_tup, ↓run0_v, ↓run0_h, ↓run0_r, ↓seqK_normal, ↓seqK_exit, ↓seqK_ret, ↓blkK_normal, ↓blkK_ret, ↓blkK_exit, ↓retK_normal, ↓retK_ret, put_same, put_ne, put_none, env0_at, ev_tmp, ev_const, ev_func, oc_int, oc_bool, oc_str, oc_nils, oc_nilp, oc_nilf, oc_nilm, o_move, o_assign, o_pick, o_bin, o_call, o_len, o_alloc, o_box, o_build, o_buildSlice, o_load, o_store, o_nilCheck, o_un, o_convert, o_makeFunc, o_makeSlice, o_slice, o_fieldAddr, o_field, o_indexAddr, o_index, o_extract, o_append, o_min, o_max, g_none, g_some, pick_bool, bin_add, bin_sub, bin_mul, bin_quo, bin_rem, bin_eql, bin_neq, bin_or, bin_and, bin_lss, bin_leq, bin_gtr, bin_geq, bin_shr, bin_shl, str_add, str_eql, str_neq, un_not, extract_tup, nil_ptr, nil_fp, part_1, part_A, next_e0, next_one, get_e0, resultsOf, oneOrAll, Option.bind_some, Option.map_some, Option.map_none, Option.getD_some, decide_eq_true_eq, ↓reduceIte, Nat.reduceEqDiff, not_false_eq_true, not_true_eq_false, Nat.reduceAdd, Nat.reduceMul, reduceCtorEq, if_true, if_false, Nat.succ_ne_self, List.getElem?_cons_zero, List.getElem?_cons_succ, List.getElem?_toArray, Bool.false_eq_true, Bool.true_eq_false, List.map_cons, List.map_nil, List.append_nil, List.nil_append, List.cons_append, AH.get_alloc, AH.get_put, AH.next_alloc, AH.next_put, ite_self, true_and, and_true, Nat.reduceLeDiff, Nat.le_refl, gt_iff_lt, ge_iff_le, Bool.not_eq_true', Bool.not_eq_eq_eq_not, Bool.not_true, Bool.not_false, Bool.not_eq_false', Bool.not_not, beq_iff_eq, bne_iff_ne, ne_eq, decide_eq_false_iff_not, buildSl T23 d23 T9 (n := 2) (by rw [s9]; decide), s9, z9, parts_eq, fill_nil, fillA, AV.cells, AH.splice, List.take_succ_cons, List.take_zero, List.take_nil, List.drop_succ_cons, List.drop_zero, List.drop_nil, List.length_cons, List.length_nil, repl, bool_eql T4 d4, bool_neq T4 d4, callV_fn (g := 8) (by decide), K8 h8, callV_fn (g := 9) (by decide), K9 h9, callV_fn (g := 10) (by decide), K10 h10, callV_fn (g := 11) (by decide), K11 h11, callV_fn (g := 12) (by decide), K12 h12, callV_fn (g := 13) (by decide), K13 h13, callV_fn (g := 14) (by decide), K14 h14, callV_fn (g := 15) (by decide), K15 h15, k8]
    exact ⟨_, rfl⟩
  | false =>
    rw [q] at k8
    simp +contextual (maxSteps := 3000000) only [↓code_skip, ↓code_seq, ↓code_region, ↓code_cond, ↓code_block, ↓code_scope, ↓code_label, ↓code_loop, ↓code_exit, ↓code_ret, aCond_bool, ↓ops_nil, ↓ops_cons, run_none, run_someT, run_someF, run_tup, ↓run0_v, ↓run0_h, ↓run0_r, ↓seqK_normal, ↓seqK_exit, ↓seqK_ret, ↓blkK_normal, ↓blkK_ret, ↓blkK_exit, ↓retK_normal, ↓retK_ret, put_same, put_ne, put_none, env0_at, ev_tmp, ev_const, ev_func, oc_int, oc_bool, oc_str, oc_nils, oc_nilp, oc_nilf, oc_nilm, o_move, o_assign, o_pick, o_bin, o_call, o_len, o_alloc, o_box, o_build, o_buildSlice, o_load, o_store, o_nilCheck, o_un, o_convert, o_makeFunc, o_makeSlice, o_slice, o_fieldAddr, o_field, o_indexAddr, o_index, o_extract, o_append, o_min, o_max, g_none, g_some, pick_bool, bin_add, bin_sub, bin_mul, bin_quo, bin_rem, bin_eql, bin_neq, bin_or, bin_and, bin_lss, bin_leq, bin_gtr, bin_geq, bin_shr, bin_shl, str_add, str_eql, str_neq, un_not, extract_tup, nil_ptr, nil_fp, part_1, part_A, next_e0, next_one, get_e0, resultsOf, oneOrAll, Option.bind_some, Option.map_some, Option.map_none, Option.getD_some, decide_eq_true_eq, ↓reduceIte, Nat.reduceEqDiff, not_false_eq_true, not_true_eq_false, Nat.reduceAdd, Nat.reduceMul, reduceCtorEq, if_true, if_false, Nat.succ_ne_self, List.getElem?_cons_zero, List.getElem?_cons_succ, List.getElem?_toArray, Bool.false_eq_true, Bool.true_eq_false, List.map_cons, List.map_nil, List.append_nil, List.nil_append, List.cons_append, AH.get_alloc, AH.get_put, AH.next_alloc, AH.next_put, ite_self, true_and, and_true, Nat.reduceLeDiff, Nat.le_refl, gt_iff_lt, ge_iff_le, Bool.not_eq_true', Bool.not_eq_eq_eq_not, Bool.not_true, Bool.not_false, Bool.not_eq_false', Bool.not_not, beq_iff_eq, bne_iff_ne, ne_eq, decide_eq_false_iff_not, buildSl T23 d23 T9 (n := 2) (by rw [s9]; decide), s9, z9, parts_eq, fill_nil, fillA, AV.cells, AH.splice, List.take_succ_cons, List.take_zero, List.take_nil, List.drop_succ_cons, List.drop_zero, List.drop_nil, List.length_cons, List.length_nil, repl, bool_eql T4 d4, bool_neq T4 d4, callV_fn (g := 8) (by decide), K8 h8, callV_fn (g := 9) (by decide), K9 h9, callV_fn (g := 10) (by decide), K10 h10, callV_fn (g := 11) (by decide), K11 h11, callV_fn (g := 12) (by decide), K12 h12, callV_fn (g := 13) (by decide), K13 h13, callV_fn (g := 14) (by decide), K14 h14, callV_fn (g := 15) (by decide), K15 h15, k8, l1, l2, hl, hl2, decide_true]
    exact ⟨_, by simp; rfl⟩
end Go.AM.X.N
namespace Go.AM.X.N
open Go Go.AM Go.Proofs Go.AM.Sx Go.AM.X
set_option maxHeartbeats 1600000
set_option maxRecDepth 100000
set_option linter.unusedSimpArgs false
set_option linter.unusedVariables false
theorem F9 : F 9 = some { body := (Tryd.f9.body.getD .skip), results := Tryd.f9.results.toList, rf := false } := by kernel_rfl
theorem F46 : F 46 = some { body := (Tryd.f46.body.getD .skip), results := Tryd.f46.results.toList, rf := false } := by kernel_rfl
theorem F48 : F 48 = some { body := (Tryd.f48.body.getD .skip), results := Tryd.f48.results.toList, rf := false } := by kernel_rfl
theorem frz_row {k : Nat} {h : AH} : frzMap (frzF false (k + 1) h) setL = some setL := by
  unfold setL
  exact frzMap_map (al := false) (k := k + 1) (h := h) (f := fun k : Nat => AV.bool (k == 0 || k == 58)) (l := List.range 256) (fun _ => rfl)
noncomputable def Ya1 := addI N1 9 (pureG g9)
theorem YaA1 : IAgree Tryd.prog Ya1 := by
  refine pure_agree hT hmix hF E1 (by decide) _ F9 fun args v hg _ => ?_
  unfold g9 at hg
  split at hg
  · cases hg
    obtain ⟨h', hc⟩ := isT_some awake9
    exact ⟨[], 300, 3, h', .bool true, .bool true, WkL.nil, hc, by simp [frzF, AV.flat], Wk.refl _⟩
  · cases hg
noncomputable def Ya2 := addI Ya1 74 (pureG g74)
theorem YaA2 : IAgree Tryd.prog Ya2 := by
  refine agree2 hT hmix hF YaA1 (by decide) F74 fun x y r hs => ?_
  split at hs
  · rename_i hc; obtain ⟨rfl, hc⟩ := hc; cases hs; exact fin (run74 rfl rfl rfl rfl rfl rfl y 0 hc) (fun h => by simp [frzF, AV.flat])
  · cases hs
theorem set76T : isSet (call F Ya2 T 60 76 [.str [0, 58]] e0) setL = true := by kernel_rfl
noncomputable def Ya3 := addI Ya2 76 (pureG g76)
theorem YaA3 : IAgree Tryd.prog Ya3 := by
  refine pure_agree hT hmix hF YaA2 (by decide) _ F76 fun args v hg _ => ?_
  unfold g76 at hg
  split at hg
  · split at hg
    · rename_i hs
      subst hs
      cases hg
      obtain ⟨h', hc⟩ := isSet_some set76T
      refine ⟨_, 60, 4, h', _, _, WkL.cons (Wk.refl _) WkL.nil, hc, ?_, Wk.refl _⟩
      show (frzMap (frzF false 3 h') [.agg setL, .bool true]).map AV.tup = _
      have h1 : frzF false 3 h' (.agg setL) = some (.agg setL) := by
        show (frzMap (frzF false 2 h') setL).map AV.agg = _
        rw [frz_row]; rfl
      rw [frzMap_cons (f := frzF false 3 h') h1 (frzMap_cons (f := frzF false 3 h') (b := .bool true) rfl frzMap_nil)]
      rfl
    · cases hg
  · cases hg
noncomputable def Ya4 := addI Ya3 50 (pureG g50)
theorem YaA4 : IAgree Tryd.prog Ya4 := by
  refine agree2 hT hmix hF YaA3 (by decide) F50 fun x y r hs => ?_
  split at hs
  · rename_i hc; obtain ⟨rfl, hc⟩ := hc; cases hs; exact fin (run50 rfl rfl rfl rfl rfl x 0 hc) (fun h => by simp [frzF, AV.flat])
  · cases hs
noncomputable def Ya5 := addI Ya4 28 (pureG g28)
theorem YaA5 : IAgree Tryd.prog Ya5 := agree2 hT hmix hF YaA4 (by decide) F28 fun x y r hs => by
  split at hs
  · rename_i hc; cases hs; exact fin (run28 rfl rfl  x y 0 hc) (fun h => by simp [frzF, frzMap, AV.flat])
  · cases hs
noncomputable def Ya6 := addI Ya5 29 (pureG g29)
theorem YaA6 : IAgree Tryd.prog Ya6 := by
  refine pure_agree hT hmix hF YaA5 (by decide) _ F29 fun args v hg _ => ?_
  unfold g29 at hg
  split at hg
  · split at hg
    · rename_i hc
      cases hg
      obtain ⟨h', hr⟩ := run29 (I := Ya5) rfl rfl _ _ 0 hc
      exact ⟨_, _, 4, h', _, _, WkL.refl _, hr, by simp [frzF, frzMap, AV.flat], Wk.refl _⟩
    · cases hg
  · cases hg
noncomputable def Ya7 := addI Ya6 10 (pureG g10)
theorem YaA7 : IAgree Tryd.prog Ya7 := agree1 hT hmix hF YaA6 (by decide) F10 fun x r hs => by
  split at hs
  · rename_i hc; cases hs; exact fin (run10 rfl rfl rfl  x 0 hc) (fun h => by simp [frzF, frzMap, AV.flat])
  · cases hs
noncomputable def Ya8 := addI Ya7 11 (pureG g11)
theorem YaA8 : IAgree Tryd.prog Ya8 := agree1 hT hmix hF YaA7 (by decide) F11 fun x r hs => by
  split at hs
  · rename_i hc; cases hs; exact fin (run11  rfl  x 0 hc) (fun h => by simp [frzF, frzMap, AV.flat])
  · cases hs
noncomputable def Ya9 := addI Ya8 12 (pureG g12)
theorem YaA9 : IAgree Tryd.prog Ya9 := agree1 hT hmix hF YaA8 (by decide) F12 fun x r hs => by
  split at hs
  · rename_i hc; cases hs; exact fin (run12 rfl rfl rfl rfl rfl rfl rfl rfl rfl rfl  x 0 hc) (fun h => by simp [frzF, frzMap, AV.flat])
  · cases hs
noncomputable def Ya10 := addI Ya9 13 (pureG g13)
theorem YaA10 : IAgree Tryd.prog Ya10 := agree1 hT hmix hF YaA9 (by decide) F13 fun x r hs => by
  split at hs
  · rename_i hc; cases hs; exact fin (run13 rfl rfl  x 0 hc) (fun h => by simp [frzF, frzMap, AV.flat])
  · cases hs
noncomputable def Ya11 := addI Ya10 8 (pureG g8)
theorem YaA11 : IAgree Tryd.prog Ya11 := agree1 hT hmix hF YaA10 (by decide) F8 fun x r hs => by
  split at hs
  · rename_i hc; cases hs; exact fin (run8  rfl  x 0 hc) (fun h => by simp [frzF, frzMap, AV.flat])
  · cases hs
noncomputable def Ya12 := addI Ya11 42 (pureG g42)
theorem YaA12 : IAgree Tryd.prog Ya12 := agree1 hT hmix hF YaA11 (by decide) F42 fun x r hs => by
  split at hs
  · rename_i hc; cases hs; exact fin (run42 rfl rfl  x 0 hc) (fun h => by simp [frzF, frzMap, AV.flat])
  · cases hs
noncomputable def Ya13 := addI Ya12 18 (pureG g18)
theorem YaA13 : IAgree Tryd.prog Ya13 := agree1 hT hmix hF YaA12 (by decide) F18 fun x r hs => by
  split at hs
  · rename_i hc; cases hs; exact fin (run18 rfl rfl  x 0 hc) (fun h => by simp [frzF, frzMap, AV.flat])
  · cases hs
noncomputable def Ya14 := addI Ya13 36 (pureG g36)
theorem YaA14 : IAgree Tryd.prog Ya14 := agree2 hT hmix hF YaA13 (by decide) F36 fun x y r hs => by
  split at hs
  · rename_i hc; cases hs; exact fin (run36 rfl rfl  x y 0 hc.1 hc.2) (fun h => by simp [frzF, frzMap, AV.flat])
  · cases hs
noncomputable def Ya15 := addI Ya14 79 (pureG g79)
theorem YaA15 : IAgree Tryd.prog Ya15 := agree1 hT hmix hF YaA14 (by decide) F79 fun x r hs => by
  split at hs
  · rename_i hc; cases hs; exact fin (run79 rfl rfl  x 0 hc) (fun h => by simp [frzF, frzMap, AV.flat])
  · cases hs
noncomputable def Ya16 := addI Ya15 81 (pureG g81)
theorem YaA16 : IAgree Tryd.prog Ya16 := by
  refine agree2 hT hmix hF YaA15 (by decide) F81 fun x y r hs => ?_
  split at hs
  · rename_i hc; cases hs
    obtain ⟨n, rfl⟩ : ∃ n : Nat, y = n := ⟨y.toNat, by omega⟩
    exact fin (run81 rfl rfl x n 0 hc.1 (by omega)) (fun h => by simp [frzF, frzMap, AV.flat])
  · cases hs
noncomputable def Ya17 := addI Ya16 54 (pureG g54)
theorem YaA17 : IAgree Tryd.prog Ya17 := agree1 hT hmix hF YaA16 (by decide) F54 fun x r hs => by
  split at hs
  · rename_i hc; cases hs; exact fin (run54 rfl rfl  x 0 hc) (fun h => by simp [frzF, frzMap, AV.flat])
  · cases hs
noncomputable def Ya18 := addI Ya17 100 (pureG g100)
theorem YaA18 : IAgree Tryd.prog Ya18 := agree2 hT hmix hF YaA17 (by decide) F100 fun x y r hs => by
  split at hs
  · rename_i hc; cases hs; exact fin (run100  rfl  x y 0 hc) (fun h => by simp [frzF, frzMap, AV.flat])
  · cases hs
noncomputable def Ya19 := addI Ya18 59 (pureG g59)
theorem YaA19 : IAgree Tryd.prog Ya19 := agree1 hT hmix hF YaA18 (by decide) F59 fun x r hs => by
  split at hs
  · rename_i hc; cases hs; exact fin (run59 rfl rfl rfl rfl rfl  x 0 hc) (fun h => by simp [frzF, frzMap, AV.flat])
  · cases hs
noncomputable def Ya20 := addI Ya19 57 (pureG g57)
theorem YaA20 : IAgree Tryd.prog Ya20 := agree2 hT hmix hF YaA19 (by decide) F57 fun x y r hs => by
  split at hs
  · rename_i hc; cases hs; exact fin (run57  rfl  x y 0 hc) (fun h => by simp [frzF, frzMap, AV.flat])
  · cases hs
noncomputable def Ya21 := addI Ya20 82 (pureG g82)
theorem YaA21 : IAgree Tryd.prog Ya21 := agree2 hT hmix hF YaA20 (by decide) F82 fun x y r hs => by
  split at hs
  · rename_i hc; cases hs; exact fin (run82  rfl  x y 0 hc) (fun h => by simp [frzF, frzMap, AV.flat])
  · cases hs
noncomputable def Ya22 := addI Ya21 60 (pureG g60)
theorem YaA22 : IAgree Tryd.prog Ya22 := agree2 hT hmix hF YaA21 (by decide) F60 fun x y r hs => by
  split at hs
  · rename_i hc; cases hs; exact fin (run60 rfl rfl  x y 0 hc) (fun h => by simp [frzF, frzMap, AV.flat])
  · cases hs
noncomputable def Ya23 := addI Ya22 31 (pureG g31)
theorem YaA23 : IAgree Tryd.prog Ya23 := agree2 hT hmix hF YaA22 (by decide) F31 fun x y r hs => by
  split at hs
  · rename_i hc; cases hs; exact fin (run31 rfl rfl rfl rfl rfl rfl rfl rfl rfl rfl x y 0 hc.1 hc.2) (fun h => by simp [frzF, frzMap, AV.flat])
  · cases hs
noncomputable def Ya24 := addI Ya23 46 (pureG g46)
theorem YaA24 : IAgree Tryd.prog Ya24 := by
  refine pure_agree hT hmix hF YaA23 (by decide) _ F46 fun args v hg _ => ?_
  unfold g46 at hg
  split at hg
  · split at hg
    · rename_i hs
      subst hs
      cases hg
      obtain ⟨h', hc⟩ := isStr_some (r := call F Ya23 T 60 46 [.int .i64 1] e0) (s := [49]) (by kernel_rfl)
      exact ⟨_, 60, 3, h', _, _, WkL.refl _, hc, by simp [frzF, AV.flat], Wk.refl _⟩
    · cases hg
  · cases hg
noncomputable def Ya25 := addI Ya24 48 (pureG g48)
theorem YaA25 : IAgree Tryd.prog Ya25 := by
  refine pure_agree hT hmix hF YaA24 (by decide) _ F48 fun args v hg _ => ?_
  unfold g48 at hg
  split at hg
  · split at hg
    · rename_i hs
      subst hs
      cases hg
      obtain ⟨h', hc⟩ := isStr_some (r := call F Ya24 T 60 48 [.int .i64 1] e0) (s := [49]) (by kernel_rfl)
      exact ⟨_, 60, 3, h', _, _, WkL.refl _, hc, by simp [frzF, AV.flat], Wk.refl _⟩
    · cases hg
  · cases hg
noncomputable def Ya26 := addI Ya25 33 (pureG g33)
theorem YaA26 : IAgree Tryd.prog Ya26 := by
  refine pure_agree hT hmix hF YaA25 (by decide) _ F33 fun args v hg _ => ?_
  unfold g33 at hg
  split at hg
  · split at hg
    · rename_i hc
      cases hg
      obtain ⟨h', hr⟩ := run33 (I := Ya25) rfl rfl rfl rfl rfl _ 0 hc
      exact ⟨_, _, 4, h', _, _, WkL.refl _, hr, by simp [frzF, frzMap, AV.flat], Wk.refl _⟩
    · cases hg
  · cases hg
noncomputable def Ya27 := addI Ya26 30 (pureG g30)
theorem YaA27 : IAgree Tryd.prog Ya27 := by
  refine pure_agree hT hmix hF YaA26 (by decide) _ F30 fun args v hg _ => ?_
  unfold g30 at hg
  split at hg
  · split at hg
    · rename_i hc
      cases hg
      obtain ⟨h', hr⟩ := run30 (I := Ya26) rfl rfl rfl rfl rfl rfl rfl _ 0 hc
      exact ⟨_, _, 4, h', _, _, WkL.refl _, hr, by simp [frzF, frzMap, AV.flat], Wk.refl _⟩
    · cases hg
  · cases hg
noncomputable def Ya28 := addI Ya27 16 (pureG g16)
theorem YaA28 : IAgree Tryd.prog Ya28 := by
  refine pure_agree hT hmix hF YaA27 (by decide) _ F16 fun args v hg _ => ?_
  unfold g16 at hg
  split at hg
  · split at hg
    · rename_i hc
      cases hg
      obtain ⟨h', hr⟩ := run16 (I := Ya27) rfl rfl rfl rfl rfl rfl _ 0 hc
      exact ⟨_, _, 4, h', _, _, WkL.refl _, hr, by unfold sN; split <;> simp [frzF, frzMap, AV.flat], Wk.refl _⟩
    · cases hg
  · cases hg
noncomputable def Ya29 := addI Ya28 14 (pureG g14)
theorem YaA29 : IAgree Tryd.prog Ya29 := agree2 hT hmix hF YaA28 (by decide) F14 fun x y r hs => by
  split at hs
  · rename_i hc; cases hs; exact fin (run14 rfl rfl  x y 0 hc.1 hc.2) (fun h => by simp [frzF, frzMap, AV.flat])
  · cases hs
noncomputable def Ya30 := addI Ya29 15 (pureG g15)
theorem YaA30 : IAgree Tryd.prog Ya30 := agree2 hT hmix hF YaA29 (by decide) F15 fun x y r hs => by
  split at hs
  · rename_i hc; cases hs; exact fin (run15 rfl rfl rfl  x y 0 hc.1 hc.2) (fun h => by simp [frzF, frzMap, AV.flat])
  · cases hs
theorem law3 (a b : List UInt8) (hl : a.length < 140737488355327) (hl2 : b.length < 140737488355327) : ∃ h', call F Ya30 T 20 3 [.str a, .str b] e0 = some (.bool true, h') := run3 rfl rfl rfl rfl rfl rfl rfl rfl rfl a b 0 hl hl2
theorem lawA : IAgree Tryd.prog Ya30 := YaA30
end Go.AM.X.N
