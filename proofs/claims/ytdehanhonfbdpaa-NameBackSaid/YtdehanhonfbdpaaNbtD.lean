/- NameFits: the chain, and the law. Own work. -/
import Derived.Test.YtdehanhonfbdpaaNbtC
import Derived.Test.YtdehanhonfbdpaaAmSimp4
namespace Go.AM.X
open Go Go.AM Go.Proofs Go.AM.Sx
set_option maxHeartbeats 1600000
set_option maxRecDepth 100000
set_option linter.unusedSimpArgs false
set_option linter.unusedVariables false
theorem F42 : F 42 = some { body := (Try.f42.body.getD .skip), results := Try.f42.results.toList, rf := false } := by kernel_rfl
theorem R42 : regsOk T (Try.f42.body.getD .skip) = true := by kernel_rfl
theorem F43 : F 43 = some { body := (Try.f43.body.getD .skip), results := Try.f43.results.toList, rf := false } := by kernel_rfl
theorem R43 : regsOk T (Try.f43.body.getD .skip) = true := by kernel_rfl
theorem F40 : F 40 = some { body := (Try.f40.body.getD .skip), results := Try.f40.results.toList, rf := false } := by kernel_rfl
theorem R40 : regsOk T (Try.f40.body.getD .skip) = true := by kernel_rfl
theorem F41 : F 41 = some { body := (Try.f41.body.getD .skip), results := Try.f41.results.toList, rf := false } := by kernel_rfl
theorem R41 : regsOk T (Try.f41.body.getD .skip) = true := by kernel_rfl
theorem K44 {I : Nat → Option (List AV → AH → Rs)} (h44 : I 44 = some (pureG g44)) (m : Nat) (e : Ent) (h : AH) : call F I T (m + 1) 44 [.agg [.str e.o, .str e.t, .str e.z]] h = some (.bool (isPattern e), h) := by
  rw [call_I (by decide) h44]; exact pureG_flat rfl (by simp [g44, G1, vEnt, dEnt])
theorem K45 {I : Nat → Option (List AV → AH → Rs)} (h45 : I 45 = some (pureG g45)) (m : Nat) (e : Ent) (h : AH) : call F I T (m + 1) 45 [.agg [.str e.o, .str e.t, .str e.z]] h = some (.bool (isPattern e), h) := by
  rw [call_I (by decide) h45]; exact pureG_flat rfl (by simp [g45, G1, vEnt, dEnt])
def okE (e : Ent) : Prop := e.o.length < 140737488355327 ∧ e.t.length < 140737488355327 ∧ e.z.length < 140737488355327
noncomputable def isName (e : Ent) : Bool := isPattern e && !wild e.o && !wild e.t
noncomputable def g42 := open Classical in G1 vEnt fun e => if okE e then some (.bool (isName e)) else none
noncomputable def g43 := open Classical in G1 vEnt fun e => if okE e then some (.bool (isName e)) else none
theorem run42 {I : Nat → Option (List AV → AH → Rs)} (h44 : I 44 = some (pureG g44)) (h131 : I 131 = some ixG) (h124 : I 124 = none) (h133 : I 133 = some (pureG g133)) (h125 : I 125 = none) (h109 : I 109 = none) (h87 : I 87 = none) (h42 : I 42 = none) (m : Nat) (e : Ent) (ho : okE e) : ∃ h', call F I T (m + 6) 42 [.agg e.cells] e0 = some (.bool (isName e), h') := by
  obtain ⟨h1, h2, h3⟩ := ho
  have k1 : e.o.length < 140737488355328 := by omega
  have k2 : e.t.length < 140737488355328 := by omega
  rw [call_F (by decide) h42 F42 rfl R42]; simp only [Try.f42, Option.getD]
  cases hp : isPattern e <;> cases hw : wild e.o <;> simp +contextual (maxSteps := 3000000) only [↓code_skip, ↓code_seq, ↓code_region, ↓code_cond, ↓code_block, ↓code_loop, ↓code_exit, ↓code_ret, aCond_bool, ↓ops_nil, ↓ops_cons, run_none, run_someT, run_someF, run_tup, ↓run0_v, ↓run0_h, ↓run0_r, ↓seqK_normal, ↓seqK_exit, ↓seqK_ret, ↓blkK_normal, ↓blkK_ret, ↓blkK_exit, ↓retK_normal, ↓retK_ret, put_same, put_ne, put_none, env0_at, ev_tmp, ev_const, ev_func, oc_int, oc_bool, oc_str, oc_nils, oc_nilp, oc_nilf, oc_nilm, o_move, o_assign, o_pick, o_bin, o_call, o_len, o_alloc, o_box, o_build, o_buildSlice, o_load, o_store, o_nilCheck, o_un, o_convert, o_makeFunc, o_makeSlice, o_slice, o_fieldAddr, o_field, o_indexAddr, o_index, o_extract, o_append, o_min, o_max, g_none, g_some, pick_bool, bin_add, bin_sub, bin_mul, bin_quo, bin_rem, bin_eql, bin_neq, bin_or, bin_and, bin_lss, bin_leq, bin_gtr, bin_geq, bin_shr, bin_shl, str_add, str_eql, str_neq, un_not, extract_tup, nil_ptr, nil_fp, part_1, part_A, next_e0, next_one, get_e0, resultsOf, oneOrAll, Option.bind_some, Option.map_some, Option.map_none, Option.getD_some, decide_eq_true_eq, ↓reduceIte, Nat.reduceEqDiff, not_false_eq_true, not_true_eq_false, Nat.reduceAdd, Nat.reduceMul, reduceCtorEq, if_true, if_false, Nat.succ_ne_self, List.getElem?_cons_zero, List.getElem?_cons_succ, List.getElem?_toArray, Bool.false_eq_true, Bool.true_eq_false, List.map_cons, List.map_nil, List.append_nil, List.nil_append, List.cons_append, AH.get_alloc, AH.get_put, AH.next_alloc, AH.next_put, ite_self, true_and, and_true, Nat.reduceLeDiff, Nat.le_refl, gt_iff_lt, ge_iff_le, Bool.not_eq_true', Bool.not_eq_eq_eq_not, Bool.not_true, Bool.not_false, Bool.not_eq_false', Bool.not_not, beq_iff_eq, bne_iff_ne, ne_eq, decide_eq_false_iff_not, box_str, box_int, box_bool, box_agg, box_lst, box_nils, box_sl, box_ptr, box_fn, load_fpA T48 a48, load_pA T48 a48, s48, loadn_def, fa_ptr T48 p48_0 (by decide), fa_fp T48 p48_0 (by decide), load_fp1 T9 a9, load_p1 T9 a9, loadc_def, fa_ptr T48 p48_1 (by decide), fa_fp T48 p48_1 (by decide), callV_fn (g := 44) (by decide), K44 h44, callV_fn (g := 87) (by decide), K87 h131 h124 h133 h125 h109 h87, Ent.cells, isName, hp, hw, k1, k2, List.length_cons, List.length_nil, List.drop_zero, List.take_succ_cons, List.take_zero, List.take_nil, Bool.true_and, Bool.false_and, Bool.and_true, Bool.and_false] <;> exact ⟨_, rfl⟩
theorem run43 {I : Nat → Option (List AV → AH → Rs)} (h45 : I 45 = some (pureG g45)) (h112 : I 112 = some (pureG g112)) (h88 : I 88 = none) (h43 : I 43 = none) (m : Nat) (e : Ent) (ho : okE e) : ∃ h', call F I T (m + 6) 43 [.agg e.cells] e0 = some (.bool (isName e), h') := by
  obtain ⟨h1, h2, h3⟩ := ho
  have k1 : e.o.length < 140737488355328 := by omega
  have k2 : e.t.length < 140737488355328 := by omega
  rw [call_F (by decide) h43 F43 rfl R43]; simp only [Try.f43, Option.getD]
  cases hp : isPattern e <;> cases hw : wild e.o <;> simp +contextual (maxSteps := 3000000) only [↓code_skip, ↓code_seq, ↓code_region, ↓code_cond, ↓code_block, ↓code_loop, ↓code_exit, ↓code_ret, aCond_bool, ↓ops_nil, ↓ops_cons, run_none, run_someT, run_someF, run_tup, ↓run0_v, ↓run0_h, ↓run0_r, ↓seqK_normal, ↓seqK_exit, ↓seqK_ret, ↓blkK_normal, ↓blkK_ret, ↓blkK_exit, ↓retK_normal, ↓retK_ret, put_same, put_ne, put_none, env0_at, ev_tmp, ev_const, ev_func, oc_int, oc_bool, oc_str, oc_nils, oc_nilp, oc_nilf, oc_nilm, o_move, o_assign, o_pick, o_bin, o_call, o_len, o_alloc, o_box, o_build, o_buildSlice, o_load, o_store, o_nilCheck, o_un, o_convert, o_makeFunc, o_makeSlice, o_slice, o_fieldAddr, o_field, o_indexAddr, o_index, o_extract, o_append, o_min, o_max, g_none, g_some, pick_bool, bin_add, bin_sub, bin_mul, bin_quo, bin_rem, bin_eql, bin_neq, bin_or, bin_and, bin_lss, bin_leq, bin_gtr, bin_geq, bin_shr, bin_shl, str_add, str_eql, str_neq, un_not, extract_tup, nil_ptr, nil_fp, part_1, part_A, next_e0, next_one, get_e0, resultsOf, oneOrAll, Option.bind_some, Option.map_some, Option.map_none, Option.getD_some, decide_eq_true_eq, ↓reduceIte, Nat.reduceEqDiff, not_false_eq_true, not_true_eq_false, Nat.reduceAdd, Nat.reduceMul, reduceCtorEq, if_true, if_false, Nat.succ_ne_self, List.getElem?_cons_zero, List.getElem?_cons_succ, List.getElem?_toArray, Bool.false_eq_true, Bool.true_eq_false, List.map_cons, List.map_nil, List.append_nil, List.nil_append, List.cons_append, AH.get_alloc, AH.get_put, AH.next_alloc, AH.next_put, ite_self, true_and, and_true, Nat.reduceLeDiff, Nat.le_refl, gt_iff_lt, ge_iff_le, Bool.not_eq_true', Bool.not_eq_eq_eq_not, Bool.not_true, Bool.not_false, Bool.not_eq_false', Bool.not_not, beq_iff_eq, bne_iff_ne, ne_eq, decide_eq_false_iff_not, box_str, box_int, box_bool, box_agg, box_lst, box_nils, box_sl, box_ptr, box_fn, load_fpA T48 a48, load_pA T48 a48, s48, loadn_def, fa_ptr T48 p48_0 (by decide), fa_fp T48 p48_0 (by decide), load_fp1 T9 a9, load_p1 T9 a9, loadc_def, fa_ptr T48 p48_1 (by decide), fa_fp T48 p48_1 (by decide), callV_fn (g := 45) (by decide), K45 h45, callV_fn (g := 88) (by decide), K88 h112 h88, Ent.cells, isName, hp, hw, k1, k2, List.length_cons, List.length_nil, List.drop_zero, List.take_succ_cons, List.take_zero, List.take_nil, Bool.true_and, Bool.false_and, Bool.and_true, Bool.and_false] <;> exact ⟨_, rfl⟩
theorem K42 {I : Nat → Option (List AV → AH → Rs)} (h42 : I 42 = some (pureG g42)) (m : Nat) (e : Ent) (h : AH) (ho : okE e) : call F I T (m + 1) 42 [.agg [.str e.o, .str e.t, .str e.z]] h = some (.bool (isName e), h) := by
  rw [call_I (by decide) h42]; exact pureG_flat rfl (by simp [g42, G1, vEnt, dEnt, ho])
theorem K43 {I : Nat → Option (List AV → AH → Rs)} (h43 : I 43 = some (pureG g43)) (m : Nat) (e : Ent) (h : AH) (ho : okE e) : call F I T (m + 1) 43 [.agg [.str e.o, .str e.t, .str e.z]] h = some (.bool (isName e), h) := by
  rw [call_I (by decide) h43]; exact pureG_flat rfl (by simp [g43, G1, vEnt, dEnt, ho])
noncomputable def fitsE (p e : Ent) : Bool × Int := if isPattern p = true ∧ isName e = true then (fits p.o e.o && fits p.t e.t && equal p.z e.z, 0) else (false, 2)
noncomputable def gFits := open Classical in G2 vEnt vEnt fun p e => if okE p ∧ okE e then some (.tup [.bool (fitsE p e).1, .int .i64 (fitsE p e).2]) else none
noncomputable def g40 := gFits
noncomputable def g41 := gFits
theorem run40 {I : Nat → Option (List AV → AH → Rs)} (h42 : I 42 = some (pureG g42)) (h44 : I 44 = some (pureG g44)) (h63 : I 63 = some (pureG g63)) (h84 : I 84 = some (pureG g84)) (h131 : I 131 = some ixG) (h124 : I 124 = none) (h133 : I 133 = some (pureG g133)) (h125 : I 125 = none) (h109 : I 109 = none) (h126 : I 126 = none) (h110 : I 110 = none) (h127 : I 127 = none) (h111 : I 111 = none) (h83 : I 83 = none) (h40 : I 40 = none) (m : Nat) (p e : Ent) (hp : okE p) (he : okE e) : ∃ h', call F I T (m + 9) 40 [.agg p.cells, .agg e.cells] e0 = some (.tup [.bool (fitsE p e).1, .int .i64 (fitsE p e).2], h') := by
  have ho := he
  obtain ⟨a1, a2, a3⟩ := hp
  obtain ⟨b1, b2, b3⟩ := he
  have k1 : p.o.length < 140737488355328 := by omega
  have k2 : p.t.length < 140737488355328 := by omega
  have k3 : p.z.length < 140737488355328 := by omega
  have k4 : e.o.length < 140737488355328 := by omega
  have k5 : e.t.length < 140737488355328 := by omega
  have k6 : e.z.length < 140737488355328 := by omega
  rw [call_F (by decide) h40 F40 rfl R40]; simp only [Try.f40, Option.getD]
  cases q1 : isPattern p with
  | false =>
    simp +contextual (maxSteps := 3000000) only [↓code_skip, ↓code_seq, ↓code_region, ↓code_cond, ↓code_block, ↓code_loop, ↓code_exit, ↓code_ret, aCond_bool, ↓ops_nil, ↓ops_cons, run_none, run_someT, run_someF, run_tup, ↓run0_v, ↓run0_h, ↓run0_r, ↓seqK_normal, ↓seqK_exit, ↓seqK_ret, ↓blkK_normal, ↓blkK_ret, ↓blkK_exit, ↓retK_normal, ↓retK_ret, put_same, put_ne, put_none, env0_at, ev_tmp, ev_const, ev_func, oc_int, oc_bool, oc_str, oc_nils, oc_nilp, oc_nilf, oc_nilm, o_move, o_assign, o_pick, o_bin, o_call, o_len, o_alloc, o_box, o_build, o_buildSlice, o_load, o_store, o_nilCheck, o_un, o_convert, o_makeFunc, o_makeSlice, o_slice, o_fieldAddr, o_field, o_indexAddr, o_index, o_extract, o_append, o_min, o_max, g_none, g_some, pick_bool, bin_add, bin_sub, bin_mul, bin_quo, bin_rem, bin_eql, bin_neq, bin_or, bin_and, bin_lss, bin_leq, bin_gtr, bin_geq, bin_shr, bin_shl, str_add, str_eql, str_neq, un_not, extract_tup, nil_ptr, nil_fp, part_1, part_A, next_e0, next_one, get_e0, resultsOf, oneOrAll, Option.bind_some, Option.map_some, Option.map_none, Option.getD_some, decide_eq_true_eq, ↓reduceIte, Nat.reduceEqDiff, not_false_eq_true, not_true_eq_false, Nat.reduceAdd, Nat.reduceMul, reduceCtorEq, if_true, if_false, Nat.succ_ne_self, List.getElem?_cons_zero, List.getElem?_cons_succ, List.getElem?_toArray, Bool.false_eq_true, Bool.true_eq_false, List.map_cons, List.map_nil, List.append_nil, List.nil_append, List.cons_append, AH.get_alloc, AH.get_put, AH.next_alloc, AH.next_put, ite_self, true_and, and_true, Nat.reduceLeDiff, Nat.le_refl, gt_iff_lt, ge_iff_le, Bool.not_eq_true', Bool.not_eq_eq_eq_not, Bool.not_true, Bool.not_false, Bool.not_eq_false', Bool.not_not, beq_iff_eq, bne_iff_ne, ne_eq, decide_eq_false_iff_not, box_str, box_int, box_bool, box_agg, box_lst, box_nils, box_sl, box_ptr, box_fn, load_fpA T48 a48, load_pA T48 a48, s48, loadn_def, fa_ptr T48 p48_0 (by decide), fa_fp T48 p48_0 (by decide), load_fp1 T9 a9, load_p1 T9 a9, loadc_def, fa_ptr T48 p48_1 (by decide), fa_fp T48 p48_1 (by decide), fa_ptr T48 p48_2 (by decide), fa_fp T48 p48_2 (by decide), callV_fn (g := 42) (by decide), K42 h42, callV_fn (g := 44) (by decide), K44 h44, callV_fn (g := 83) (by decide), K83 h63 h84 h131 h124 h133 h125 h109 h126 h110 h127 h111 h83, callV_fn (g := 84) (by decide), K84 h84, Ent.cells, fitsE, q1, List.length_cons, List.length_nil, List.drop_zero, List.take_succ_cons, List.take_zero, List.take_nil, false_and]
    exact ⟨_, rfl⟩
  | true =>
    cases q2 : isName e with
    | false =>
      simp +contextual (maxSteps := 3000000) only [↓code_skip, ↓code_seq, ↓code_region, ↓code_cond, ↓code_block, ↓code_loop, ↓code_exit, ↓code_ret, aCond_bool, ↓ops_nil, ↓ops_cons, run_none, run_someT, run_someF, run_tup, ↓run0_v, ↓run0_h, ↓run0_r, ↓seqK_normal, ↓seqK_exit, ↓seqK_ret, ↓blkK_normal, ↓blkK_ret, ↓blkK_exit, ↓retK_normal, ↓retK_ret, put_same, put_ne, put_none, env0_at, ev_tmp, ev_const, ev_func, oc_int, oc_bool, oc_str, oc_nils, oc_nilp, oc_nilf, oc_nilm, o_move, o_assign, o_pick, o_bin, o_call, o_len, o_alloc, o_box, o_build, o_buildSlice, o_load, o_store, o_nilCheck, o_un, o_convert, o_makeFunc, o_makeSlice, o_slice, o_fieldAddr, o_field, o_indexAddr, o_index, o_extract, o_append, o_min, o_max, g_none, g_some, pick_bool, bin_add, bin_sub, bin_mul, bin_quo, bin_rem, bin_eql, bin_neq, bin_or, bin_and, bin_lss, bin_leq, bin_gtr, bin_geq, bin_shr, bin_shl, str_add, str_eql, str_neq, un_not, extract_tup, nil_ptr, nil_fp, part_1, part_A, next_e0, next_one, get_e0, resultsOf, oneOrAll, Option.bind_some, Option.map_some, Option.map_none, Option.getD_some, decide_eq_true_eq, ↓reduceIte, Nat.reduceEqDiff, not_false_eq_true, not_true_eq_false, Nat.reduceAdd, Nat.reduceMul, reduceCtorEq, if_true, if_false, Nat.succ_ne_self, List.getElem?_cons_zero, List.getElem?_cons_succ, List.getElem?_toArray, Bool.false_eq_true, Bool.true_eq_false, List.map_cons, List.map_nil, List.append_nil, List.nil_append, List.cons_append, AH.get_alloc, AH.get_put, AH.next_alloc, AH.next_put, ite_self, true_and, and_true, Nat.reduceLeDiff, Nat.le_refl, gt_iff_lt, ge_iff_le, Bool.not_eq_true', Bool.not_eq_eq_eq_not, Bool.not_true, Bool.not_false, Bool.not_eq_false', Bool.not_not, beq_iff_eq, bne_iff_ne, ne_eq, decide_eq_false_iff_not, box_str, box_int, box_bool, box_agg, box_lst, box_nils, box_sl, box_ptr, box_fn, load_fpA T48 a48, load_pA T48 a48, s48, loadn_def, fa_ptr T48 p48_0 (by decide), fa_fp T48 p48_0 (by decide), load_fp1 T9 a9, load_p1 T9 a9, loadc_def, fa_ptr T48 p48_1 (by decide), fa_fp T48 p48_1 (by decide), fa_ptr T48 p48_2 (by decide), fa_fp T48 p48_2 (by decide), callV_fn (g := 42) (by decide), K42 h42, callV_fn (g := 44) (by decide), K44 h44, callV_fn (g := 83) (by decide), K83 h63 h84 h131 h124 h133 h125 h109 h126 h110 h127 h111 h83, callV_fn (g := 84) (by decide), K84 h84, Ent.cells, fitsE, q1, q2, ho, List.length_cons, List.length_nil, List.drop_zero, List.take_succ_cons, List.take_zero, List.take_nil, and_false]
      exact ⟨_, rfl⟩
    | true =>
      cases q3 : fits p.o e.o <;> cases q4 : fits p.t e.t <;> simp +contextual (maxSteps := 3000000) only [↓code_skip, ↓code_seq, ↓code_region, ↓code_cond, ↓code_block, ↓code_loop, ↓code_exit, ↓code_ret, aCond_bool, ↓ops_nil, ↓ops_cons, run_none, run_someT, run_someF, run_tup, ↓run0_v, ↓run0_h, ↓run0_r, ↓seqK_normal, ↓seqK_exit, ↓seqK_ret, ↓blkK_normal, ↓blkK_ret, ↓blkK_exit, ↓retK_normal, ↓retK_ret, put_same, put_ne, put_none, env0_at, ev_tmp, ev_const, ev_func, oc_int, oc_bool, oc_str, oc_nils, oc_nilp, oc_nilf, oc_nilm, o_move, o_assign, o_pick, o_bin, o_call, o_len, o_alloc, o_box, o_build, o_buildSlice, o_load, o_store, o_nilCheck, o_un, o_convert, o_makeFunc, o_makeSlice, o_slice, o_fieldAddr, o_field, o_indexAddr, o_index, o_extract, o_append, o_min, o_max, g_none, g_some, pick_bool, bin_add, bin_sub, bin_mul, bin_quo, bin_rem, bin_eql, bin_neq, bin_or, bin_and, bin_lss, bin_leq, bin_gtr, bin_geq, bin_shr, bin_shl, str_add, str_eql, str_neq, un_not, extract_tup, nil_ptr, nil_fp, part_1, part_A, next_e0, next_one, get_e0, resultsOf, oneOrAll, Option.bind_some, Option.map_some, Option.map_none, Option.getD_some, decide_eq_true_eq, ↓reduceIte, Nat.reduceEqDiff, not_false_eq_true, not_true_eq_false, Nat.reduceAdd, Nat.reduceMul, reduceCtorEq, if_true, if_false, Nat.succ_ne_self, List.getElem?_cons_zero, List.getElem?_cons_succ, List.getElem?_toArray, Bool.false_eq_true, Bool.true_eq_false, List.map_cons, List.map_nil, List.append_nil, List.nil_append, List.cons_append, AH.get_alloc, AH.get_put, AH.next_alloc, AH.next_put, ite_self, true_and, and_true, Nat.reduceLeDiff, Nat.le_refl, gt_iff_lt, ge_iff_le, Bool.not_eq_true', Bool.not_eq_eq_eq_not, Bool.not_true, Bool.not_false, Bool.not_eq_false', Bool.not_not, beq_iff_eq, bne_iff_ne, ne_eq, decide_eq_false_iff_not, box_str, box_int, box_bool, box_agg, box_lst, box_nils, box_sl, box_ptr, box_fn, load_fpA T48 a48, load_pA T48 a48, s48, loadn_def, fa_ptr T48 p48_0 (by decide), fa_fp T48 p48_0 (by decide), load_fp1 T9 a9, load_p1 T9 a9, loadc_def, fa_ptr T48 p48_1 (by decide), fa_fp T48 p48_1 (by decide), fa_ptr T48 p48_2 (by decide), fa_fp T48 p48_2 (by decide), callV_fn (g := 42) (by decide), K42 h42, callV_fn (g := 44) (by decide), K44 h44, callV_fn (g := 83) (by decide), K83 h63 h84 h131 h124 h133 h125 h109 h126 h110 h127 h111 h83, callV_fn (g := 84) (by decide), K84 h84, Ent.cells, fitsE, q1, q2, q3, q4, ho, k1, k2, k3, k4, k5, k6, List.length_cons, List.length_nil, List.drop_zero, List.take_succ_cons, List.take_zero, List.take_nil, and_self, Bool.true_and, Bool.false_and, Bool.and_false] <;> exact ⟨_, rfl⟩
theorem run41 {I : Nat → Option (List AV → AH → Rs)} (h43 : I 43 = some (pureG g43)) (h45 : I 45 = some (pureG g45)) (h86 : I 86 = some (pureG g86)) (h112 : I 112 = some (pureG g112)) (h85 : I 85 = none) (h41 : I 41 = none) (m : Nat) (p e : Ent) (hp : okE p) (he : okE e) : ∃ h', call F I T (m + 9) 41 [.agg p.cells, .agg e.cells] e0 = some (.tup [.bool (fitsE p e).1, .int .i64 (fitsE p e).2], h') := by
  have ho := he
  obtain ⟨a1, a2, a3⟩ := hp
  obtain ⟨b1, b2, b3⟩ := he
  have k1 : p.o.length < 140737488355328 := by omega
  have k2 : p.t.length < 140737488355328 := by omega
  have k3 : p.z.length < 140737488355328 := by omega
  have k4 : e.o.length < 140737488355328 := by omega
  have k5 : e.t.length < 140737488355328 := by omega
  have k6 : e.z.length < 140737488355328 := by omega
  rw [call_F (by decide) h41 F41 rfl R41]; simp only [Try.f41, Option.getD]
  cases q1 : isPattern p with
  | false =>
    simp +contextual (maxSteps := 3000000) only [↓code_skip, ↓code_seq, ↓code_region, ↓code_cond, ↓code_block, ↓code_loop, ↓code_exit, ↓code_ret, aCond_bool, ↓ops_nil, ↓ops_cons, run_none, run_someT, run_someF, run_tup, ↓run0_v, ↓run0_h, ↓run0_r, ↓seqK_normal, ↓seqK_exit, ↓seqK_ret, ↓blkK_normal, ↓blkK_ret, ↓blkK_exit, ↓retK_normal, ↓retK_ret, put_same, put_ne, put_none, env0_at, ev_tmp, ev_const, ev_func, oc_int, oc_bool, oc_str, oc_nils, oc_nilp, oc_nilf, oc_nilm, o_move, o_assign, o_pick, o_bin, o_call, o_len, o_alloc, o_box, o_build, o_buildSlice, o_load, o_store, o_nilCheck, o_un, o_convert, o_makeFunc, o_makeSlice, o_slice, o_fieldAddr, o_field, o_indexAddr, o_index, o_extract, o_append, o_min, o_max, g_none, g_some, pick_bool, bin_add, bin_sub, bin_mul, bin_quo, bin_rem, bin_eql, bin_neq, bin_or, bin_and, bin_lss, bin_leq, bin_gtr, bin_geq, bin_shr, bin_shl, str_add, str_eql, str_neq, un_not, extract_tup, nil_ptr, nil_fp, part_1, part_A, next_e0, next_one, get_e0, resultsOf, oneOrAll, Option.bind_some, Option.map_some, Option.map_none, Option.getD_some, decide_eq_true_eq, ↓reduceIte, Nat.reduceEqDiff, not_false_eq_true, not_true_eq_false, Nat.reduceAdd, Nat.reduceMul, reduceCtorEq, if_true, if_false, Nat.succ_ne_self, List.getElem?_cons_zero, List.getElem?_cons_succ, List.getElem?_toArray, Bool.false_eq_true, Bool.true_eq_false, List.map_cons, List.map_nil, List.append_nil, List.nil_append, List.cons_append, AH.get_alloc, AH.get_put, AH.next_alloc, AH.next_put, ite_self, true_and, and_true, Nat.reduceLeDiff, Nat.le_refl, gt_iff_lt, ge_iff_le, Bool.not_eq_true', Bool.not_eq_eq_eq_not, Bool.not_true, Bool.not_false, Bool.not_eq_false', Bool.not_not, beq_iff_eq, bne_iff_ne, ne_eq, decide_eq_false_iff_not, box_str, box_int, box_bool, box_agg, box_lst, box_nils, box_sl, box_ptr, box_fn, load_fpA T48 a48, load_pA T48 a48, s48, loadn_def, fa_ptr T48 p48_0 (by decide), fa_fp T48 p48_0 (by decide), load_fp1 T9 a9, load_p1 T9 a9, loadc_def, fa_ptr T48 p48_1 (by decide), fa_fp T48 p48_1 (by decide), fa_ptr T48 p48_2 (by decide), fa_fp T48 p48_2 (by decide), callV_fn (g := 43) (by decide), K43 h43, callV_fn (g := 45) (by decide), K45 h45, callV_fn (g := 85) (by decide), K85 h86 h112 h85, callV_fn (g := 86) (by decide), K86 h86, Ent.cells, fitsE, q1, List.length_cons, List.length_nil, List.drop_zero, List.take_succ_cons, List.take_zero, List.take_nil, false_and]
    exact ⟨_, rfl⟩
  | true =>
    cases q2 : isName e with
    | false =>
      simp +contextual (maxSteps := 3000000) only [↓code_skip, ↓code_seq, ↓code_region, ↓code_cond, ↓code_block, ↓code_loop, ↓code_exit, ↓code_ret, aCond_bool, ↓ops_nil, ↓ops_cons, run_none, run_someT, run_someF, run_tup, ↓run0_v, ↓run0_h, ↓run0_r, ↓seqK_normal, ↓seqK_exit, ↓seqK_ret, ↓blkK_normal, ↓blkK_ret, ↓blkK_exit, ↓retK_normal, ↓retK_ret, put_same, put_ne, put_none, env0_at, ev_tmp, ev_const, ev_func, oc_int, oc_bool, oc_str, oc_nils, oc_nilp, oc_nilf, oc_nilm, o_move, o_assign, o_pick, o_bin, o_call, o_len, o_alloc, o_box, o_build, o_buildSlice, o_load, o_store, o_nilCheck, o_un, o_convert, o_makeFunc, o_makeSlice, o_slice, o_fieldAddr, o_field, o_indexAddr, o_index, o_extract, o_append, o_min, o_max, g_none, g_some, pick_bool, bin_add, bin_sub, bin_mul, bin_quo, bin_rem, bin_eql, bin_neq, bin_or, bin_and, bin_lss, bin_leq, bin_gtr, bin_geq, bin_shr, bin_shl, str_add, str_eql, str_neq, un_not, extract_tup, nil_ptr, nil_fp, part_1, part_A, next_e0, next_one, get_e0, resultsOf, oneOrAll, Option.bind_some, Option.map_some, Option.map_none, Option.getD_some, decide_eq_true_eq, ↓reduceIte, Nat.reduceEqDiff, not_false_eq_true, not_true_eq_false, Nat.reduceAdd, Nat.reduceMul, reduceCtorEq, if_true, if_false, Nat.succ_ne_self, List.getElem?_cons_zero, List.getElem?_cons_succ, List.getElem?_toArray, Bool.false_eq_true, Bool.true_eq_false, List.map_cons, List.map_nil, List.append_nil, List.nil_append, List.cons_append, AH.get_alloc, AH.get_put, AH.next_alloc, AH.next_put, ite_self, true_and, and_true, Nat.reduceLeDiff, Nat.le_refl, gt_iff_lt, ge_iff_le, Bool.not_eq_true', Bool.not_eq_eq_eq_not, Bool.not_true, Bool.not_false, Bool.not_eq_false', Bool.not_not, beq_iff_eq, bne_iff_ne, ne_eq, decide_eq_false_iff_not, box_str, box_int, box_bool, box_agg, box_lst, box_nils, box_sl, box_ptr, box_fn, load_fpA T48 a48, load_pA T48 a48, s48, loadn_def, fa_ptr T48 p48_0 (by decide), fa_fp T48 p48_0 (by decide), load_fp1 T9 a9, load_p1 T9 a9, loadc_def, fa_ptr T48 p48_1 (by decide), fa_fp T48 p48_1 (by decide), fa_ptr T48 p48_2 (by decide), fa_fp T48 p48_2 (by decide), callV_fn (g := 43) (by decide), K43 h43, callV_fn (g := 45) (by decide), K45 h45, callV_fn (g := 85) (by decide), K85 h86 h112 h85, callV_fn (g := 86) (by decide), K86 h86, Ent.cells, fitsE, q1, q2, ho, List.length_cons, List.length_nil, List.drop_zero, List.take_succ_cons, List.take_zero, List.take_nil, and_false]
      exact ⟨_, rfl⟩
    | true =>
      cases q3 : fits p.o e.o <;> cases q4 : fits p.t e.t <;> simp +contextual (maxSteps := 3000000) only [↓code_skip, ↓code_seq, ↓code_region, ↓code_cond, ↓code_block, ↓code_loop, ↓code_exit, ↓code_ret, aCond_bool, ↓ops_nil, ↓ops_cons, run_none, run_someT, run_someF, run_tup, ↓run0_v, ↓run0_h, ↓run0_r, ↓seqK_normal, ↓seqK_exit, ↓seqK_ret, ↓blkK_normal, ↓blkK_ret, ↓blkK_exit, ↓retK_normal, ↓retK_ret, put_same, put_ne, put_none, env0_at, ev_tmp, ev_const, ev_func, oc_int, oc_bool, oc_str, oc_nils, oc_nilp, oc_nilf, oc_nilm, o_move, o_assign, o_pick, o_bin, o_call, o_len, o_alloc, o_box, o_build, o_buildSlice, o_load, o_store, o_nilCheck, o_un, o_convert, o_makeFunc, o_makeSlice, o_slice, o_fieldAddr, o_field, o_indexAddr, o_index, o_extract, o_append, o_min, o_max, g_none, g_some, pick_bool, bin_add, bin_sub, bin_mul, bin_quo, bin_rem, bin_eql, bin_neq, bin_or, bin_and, bin_lss, bin_leq, bin_gtr, bin_geq, bin_shr, bin_shl, str_add, str_eql, str_neq, un_not, extract_tup, nil_ptr, nil_fp, part_1, part_A, next_e0, next_one, get_e0, resultsOf, oneOrAll, Option.bind_some, Option.map_some, Option.map_none, Option.getD_some, decide_eq_true_eq, ↓reduceIte, Nat.reduceEqDiff, not_false_eq_true, not_true_eq_false, Nat.reduceAdd, Nat.reduceMul, reduceCtorEq, if_true, if_false, Nat.succ_ne_self, List.getElem?_cons_zero, List.getElem?_cons_succ, List.getElem?_toArray, Bool.false_eq_true, Bool.true_eq_false, List.map_cons, List.map_nil, List.append_nil, List.nil_append, List.cons_append, AH.get_alloc, AH.get_put, AH.next_alloc, AH.next_put, ite_self, true_and, and_true, Nat.reduceLeDiff, Nat.le_refl, gt_iff_lt, ge_iff_le, Bool.not_eq_true', Bool.not_eq_eq_eq_not, Bool.not_true, Bool.not_false, Bool.not_eq_false', Bool.not_not, beq_iff_eq, bne_iff_ne, ne_eq, decide_eq_false_iff_not, box_str, box_int, box_bool, box_agg, box_lst, box_nils, box_sl, box_ptr, box_fn, load_fpA T48 a48, load_pA T48 a48, s48, loadn_def, fa_ptr T48 p48_0 (by decide), fa_fp T48 p48_0 (by decide), load_fp1 T9 a9, load_p1 T9 a9, loadc_def, fa_ptr T48 p48_1 (by decide), fa_fp T48 p48_1 (by decide), fa_ptr T48 p48_2 (by decide), fa_fp T48 p48_2 (by decide), callV_fn (g := 43) (by decide), K43 h43, callV_fn (g := 45) (by decide), K45 h45, callV_fn (g := 85) (by decide), K85 h86 h112 h85, callV_fn (g := 86) (by decide), K86 h86, Ent.cells, fitsE, q1, q2, q3, q4, ho, k1, k2, k3, k4, k5, k6, List.length_cons, List.length_nil, List.drop_zero, List.take_succ_cons, List.take_zero, List.take_nil, and_self, Bool.true_and, Bool.false_and, Bool.and_false] <;> exact ⟨_, rfl⟩
end Go.AM.X
namespace Go.AM.X
open Go Go.AM Go.Proofs Go.AM.Sx
set_option maxHeartbeats 1600000
set_option maxRecDepth 100000
set_option linter.unusedSimpArgs false
set_option linter.unusedVariables false
noncomputable def N1 := addI noI 131 ixG
theorem E1 : IAgree Try.prog N1 := by
  obtain ⟨fi, hfi⟩ : ∃ fi, F 131 = some fi := Option.isSome_iff_exists.1 (by kernel_rfl)
  exact ix_agree hF (noI_agree _) fi hfi IxCalls
theorem first32 : isT (call F N1 T 60 32 [] e0) = true := by kernel_rfl
noncomputable def g32 : List AV → Option AV
  | [] => some (.bool true)
  | _ => none
noncomputable def N2 := addI N1 32 (pureG g32)
theorem E2 : IAgree Try.prog N2 := by
  obtain ⟨fi, hfi⟩ : ∃ fi, F 32 = some fi := Option.isSome_iff_exists.1 (by kernel_rfl)
  refine pure_agree hT hmix hF E1 (by decide) fi hfi fun args v hg _ => ?_
  unfold g32 at hg
  split at hg
  · cases hg
    obtain ⟨h', hc⟩ := isT_some first32
    exact ⟨[], 60, 3, h', .bool true, .bool true, WkL.nil, hc, by simp [frzF, AV.flat], Wk.refl _⟩
  · cases hg
noncomputable def D1 := addI I14 131 ixG
theorem Q1 : IAgree Try.prog D1 := addI_agree A14 (E1.fn 131 _ rfl).1 (E1.fn 131 _ rfl).2
noncomputable def D2 := addI D1 32 (pureG g32)
theorem Q2 : IAgree Try.prog D2 := addI_agree Q1 (E2.fn 32 _ rfl).1 (E2.fn 32 _ rfl).2
noncomputable def D3 := addI D2 44 (pureG g44)
theorem Q3 : IAgree Try.prog D3 := agree1 hT hmix hF Q2 (by decide) F44 fun x r hs => by
  cases hs; exact fin (run44 rfl rfl rfl 0 x) (fun h => by simp [frzF, AV.flat])
noncomputable def D4 := addI D3 45 (pureG g45)
theorem Q4 : IAgree Try.prog D4 := agree1 hT hmix hF Q3 (by decide) F45 fun x r hs => by
  cases hs; exact fin (run45 rfl rfl 0 x) (fun h => by simp [frzF, AV.flat])
noncomputable def D5 := addI D4 133 (pureG g133)
theorem Q5 : IAgree Try.prog D5 := agree2 hT hmix hF Q4 (by decide) F133 fun x y r hs => by
  split at hs
  · rename_i hc; cases hs; exact fin (run133  rfl x y 0 hc) (fun h => by simp [frzF, AV.flat])
  · cases hs
noncomputable def D6 := addI D5 112 (pureG g112)
theorem Q6 : IAgree Try.prog D6 := agree1 hT hmix hF Q5 (by decide) F112 fun x r hs => by
  split at hs
  · rename_i hc; cases hs; exact fin (run112  rfl x 0 hc) (fun h => by simp [frzF, AV.flat])
  · cases hs
noncomputable def D7 := addI D6 42 (pureG g42)
theorem Q7 : IAgree Try.prog D7 := agree1 hT hmix hF Q6 (by decide) F42 fun x r hs => by
  split at hs
  · rename_i hc; cases hs; exact fin (run42 rfl rfl rfl rfl rfl rfl rfl rfl 0 x hc) (fun h => by simp [frzF, AV.flat])
  · cases hs
noncomputable def D8 := addI D7 43 (pureG g43)
theorem Q8 : IAgree Try.prog D8 := agree1 hT hmix hF Q7 (by decide) F43 fun x r hs => by
  split at hs
  · rename_i hc; cases hs; exact fin (run43 rfl rfl rfl rfl 0 x hc) (fun h => by simp [frzF, AV.flat])
  · cases hs
noncomputable def D9 := addI D8 40 (pureG g40)
theorem Q9 : IAgree Try.prog D9 := agree2 hT hmix hF Q8 (by decide) F40 fun x y r hs => by
  split at hs
  · rename_i hc; cases hs; exact fin (run40 rfl rfl rfl rfl rfl rfl rfl rfl rfl rfl rfl rfl rfl rfl rfl 0 x y hc.1 hc.2) (fun h => by simp [frzF, frzMap, AV.flat])
  · cases hs
noncomputable def D10 := addI D9 41 (pureG g41)
theorem Q10 : IAgree Try.prog D10 := agree2 hT hmix hF Q9 (by decide) F41 fun x y r hs => by
  split at hs
  · rename_i hc; cases hs; exact fin (run41 rfl rfl rfl rfl rfl rfl 0 x y hc.1 hc.2) (fun h => by simp [frzF, frzMap, AV.flat])
  · cases hs
theorem K32 {I : Nat → Option (List AV → AH → Rs)} (h32 : I 32 = some (pureG g32)) (m : Nat) (h : AH) : call F I T (m + 1) 32 [] h = some (.bool true, h) := by
  rw [call_I (by decide) h32]; simp [pureG, flatL, g32]
end Go.AM.X
