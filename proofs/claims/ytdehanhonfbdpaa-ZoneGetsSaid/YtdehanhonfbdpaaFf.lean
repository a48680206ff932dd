/- The chain of functions that are taken by what they do, and the law on texts of zones. Own work. -/
import Derived.Test.YtdehanhonfbdpaaFe
import Derived.Test.YtdehanhonfbdpaaFst
namespace Go.AM.X
open Go Go.AM Go.Proofs Go.AM.Sx
set_option maxHeartbeats 400000
set_option maxRecDepth 100000
set_option linter.unusedSimpArgs false
set_option linter.unusedVariables false
noncomputable def g12 : List AV → Option AV
  | [] => some (.bool true)
  | _ => none
theorem F12 : ∃ fi, F 12 = some fi := ⟨{ body := (Try.f12.body.getD .skip), results := Try.f12.results.toList, rf := false }, by kernel_rfl⟩
noncomputable def I0 : Nat → Option (List AV → AH → Rs) := noI
theorem A0 : IAgree Try.prog I0 := noI_agree _
noncomputable def I1 := addI I0 12 (pureG g12)
theorem A1 : IAgree Try.prog I1 := by
  obtain ⟨fi, hfi⟩ := F12
  refine pure_agree hT hmix hF A0 (by decide) fi hfi fun args v hg _ => ?_
  unfold g12 at hg
  split at hg
  · cases hg
    obtain ⟨h', hc⟩ := isT_some first12
    exact ⟨[], 60, 1, h', .bool true, .bool true, WkL.refl _, hc, by simp [frzF, AV.flat], Wk.refl _⟩
  · cases hg
theorem K12 {I : Nat → Option (List AV → AH → Rs)} (h12 : I 12 = some (pureG g12)) (m : Nat) (h : AH) : call F I T (m + 1) 12 [] h = some (.bool true, h) := by
  rw [call_I (by decide) h12]; exact pureG_flat rfl rfl
noncomputable def I2 := addI I1 63 (pureG g63)
theorem A2 : IAgree Try.prog I2 := agree1 hT hmix hF A1 (by decide) F63 fun x r hs => by
  split at hs
  · rename_i hc; cases hs; exact fin (run63 rfl rfl x 0 hc) (fun h => by simp [frzF, AV.flat])
  · cases hs
noncomputable def I3 := addI I2 84 (pureG g84)
theorem A3 : IAgree Try.prog I3 := agree2 hT hmix hF A2 (by decide) F84 fun x y r hs => by
  split at hs
  · rename_i hc; cases hs; exact fin (run84 rfl rfl x y 0 hc.1 hc.2) (fun h => by simp [frzF, AV.flat])
  · cases hs
noncomputable def I4 := addI I3 86 (pureG g86)
theorem A4 : IAgree Try.prog I4 := agree2 hT hmix hF A3 (by decide) F86 fun x y r hs => by
  split at hs
  · rename_i hc; cases hs; exact fin (run86 rfl rfl rfl x y 0 hc.1 hc.2) (fun h => by simp [frzF, AV.flat])
  · cases hs
noncomputable def I5 := addI I4 65 (pureG g65)
theorem A5 : IAgree Try.prog I5 := agree1 hT hmix hF A4 (by decide) F65 fun x r hs => by
  split at hs
  · rename_i hc; cases hs; exact fin (run65 rfl rfl x 0 hc) (fun h => by simp [frzF, AV.flat])
  · cases hs
noncomputable def I6 := addI I5 62 (pureG g62)
theorem A6 : IAgree Try.prog I6 := agree1 hT hmix hF A5 (by decide) F62 fun x r hs => by
  split at hs
  · rename_i hc; cases hs; exact fin (run62  rfl x 0 hc) (fun h => by simp [frzF, AV.flat])
  · cases hs
noncomputable def I7 := addI I6 64 (pureG g64)
theorem A7 : IAgree Try.prog I7 := agree1 hT hmix hF A6 (by decide) F64 fun x r hs => by
  split at hs
  · rename_i hc; cases hs; exact fin (run64  rfl x 0 hc) (fun h => by simp [frzF, AV.flat])
  · cases hs
noncomputable def I8 := addI I7 55 (pureG g55)
theorem A8 : IAgree Try.prog I8 := agree2 hT hmix hF A7 (by decide) F55 fun x y r hs => by
  split at hs
  · rename_i hc; cases hs; exact fin (run55 rfl rfl (h101 := rfl) (h56 := rfl) (h22 := rfl) (h84 := rfl) x y 0 hc.1 hc.2) (fun h => by simp [frzF, AV.flat])
  · cases hs
noncomputable def I9 := addI I8 66 (pureG g66)
theorem A9 : IAgree Try.prog I9 := agree2 hT hmix hF A8 (by decide) F66 fun x y r hs => by
  split at hs
  · rename_i hc; cases hs; exact fin (run66 rfl rfl x y 0 hc.1 hc.2) (fun h => by simp [frzF, AV.flat])
  · cases hs
noncomputable def I10 := addI I9 67 (pureG g67)
theorem A10 : IAgree Try.prog I10 := agree2 hT hmix hF A9 (by decide) F67 fun x y r hs => by
  split at hs
  · rename_i hc; cases hs; exact fin (run67 rfl rfl x y 0 hc.1 hc.2) (fun h => by simp [frzF, AV.flat])
  · cases hs
noncomputable def I11 := addI I10 24 (pureG g24)
theorem A11 : IAgree Try.prog I11 := agree1 hT hmix hF A10 (by decide) F24 fun x r hs => by
  split at hs
  · rename_i hc; cases hs; exact fin (run24 rfl rfl rfl x 0 hc) (fun h => by simp [frzF, AV.flat])
  · cases hs
noncomputable def I12 := addI I11 25 (pureG g25)
theorem A12 : IAgree Try.prog I12 := agree1 hT hmix hF A11 (by decide) F25 fun x r hs => by
  split at hs
  · rename_i hc; cases hs; exact fin (run25 rfl rfl rfl x 0 hc) (fun h => by simp [frzF, AV.flat])
  · cases hs
noncomputable def I13 := addI I12 20 (pureG g20)
theorem frz_group (s : List UInt8) (h : AH) : frzF false 3 h (group s) = some (group s) := by
  unfold group; split <;> simp [frzF, frzMap, AV.flat]
theorem A13 : IAgree Try.prog I13 := agree1 hT hmix hF A12 (by decide) F20 fun x r hs => by
  split at hs
  · rename_i hc; cases hs; exact fin (run20 rfl rfl rfl rfl x 0 hc) (frz_group x)
  · cases hs
noncomputable def I14 := addI I13 21 (pureG g21)
theorem A14 : IAgree Try.prog I14 := agree1 hT hmix hF A13 (by decide) F21 fun x r hs => by
  split at hs
  · rename_i hc; cases hs; exact fin (run21 rfl rfl rfl rfl x 0 hc) (frz_group x)
  · cases hs
theorem F4 : F 4 = some { body := (Try.f4.body.getD .skip), results := Try.f4.results.toList, rf := false } := by kernel_rfl
theorem R4 : regsOk T (Try.f4.body.getD .skip) = true := by kernel_rfl
theorem le_cast60 (a : Nat) : (60 < (a : Int)) = (60 < a) := by simp; omega
theorem run4 {I : Nat → Option (List AV → AH → Rs)} (h12 : I 12 = some (pureG g12)) (h20 : I 20 = some (pureG g20)) (h21 : I 21 = some (pureG g21)) (h22 : I 22 = none) (h23 : I 23 = none) (h24 : I 24 = some (pureG g24)) (h25 : I 25 = some (pureG g25)) (h4 : I 4 = none) (s : List UInt8) (l : List (List UInt8)) (m : Nat) (hl : s.length < 140737488355327) (hl2 : small l) :
    ∃ h', call F I T (m + 3) 4 [.str s, .lst false 1 l.length (l.map .str)] e0 = some (.bool true, h') := by
  rw [call_F (by decide) h4 F4 rfl R4]; simp only [Try.f4, Option.getD]
  cases hz : isZone s with
  | true =>
    have hg : group s = .tup [.int .i64 ((sumR (fold s)).tmod 253), .int .i64 0] := by unfold group; rw [if_pos hz]
    by_cases hb : 60 < l.length
    · simp +contextual only [↓code_skip, ↓code_seq, ↓code_region, ↓code_cond, ↓code_block, ↓code_loop, ↓code_exit, ↓code_ret, aCond_bool, ↓ops_nil, ↓ops_cons, run_none, run_someT, run_someF, run_tup, ↓run0_v, ↓run0_h, ↓run0_r, ↓seqK_normal, ↓seqK_exit, ↓seqK_ret, ↓blkK_normal, ↓blkK_ret, ↓blkK_exit, ↓retK_normal, ↓retK_ret, put_same, put_ne, put_none, env0_at, ev_tmp, ev_const, ev_func, oc_int, oc_bool, oc_str, oc_nils, oc_nilp, oc_nilf, oc_nilm, o_move, o_assign, o_pick, o_bin, o_call, o_len, o_alloc, o_box, o_build, o_buildSlice, o_load, o_store, o_nilCheck, o_un, o_convert, o_makeFunc, o_makeSlice, o_slice, o_fieldAddr, o_field, o_indexAddr, o_index, o_extract, o_append, o_min, o_max, g_none, g_some, pick_bool, bin_add, bin_sub, bin_mul, bin_quo, bin_rem, bin_eql, bin_neq, bin_or, bin_and, bin_lss, bin_leq, bin_gtr, bin_geq, bin_shr, bin_shl, str_add, str_eql, str_neq, un_not, extract_tup, nil_ptr, nil_fp, part_1, part_A, next_e0, next_one, get_e0, resultsOf, oneOrAll, Option.bind_some, Option.map_some, Option.map_none, Option.getD_some, decide_eq_true_eq, ↓reduceIte, Nat.reduceEqDiff, not_false_eq_true, Nat.reduceAdd, Nat.reduceMul, reduceCtorEq, if_true, if_false, Nat.succ_ne_self, List.getElem?_cons_zero, List.getElem?_cons_succ, List.getElem?_toArray, Bool.false_eq_true, Bool.true_eq_false, List.map_cons, List.map_nil, List.append_nil, List.nil_append, List.cons_append, AH.get_alloc, AH.get_put, AH.next_alloc, AH.next_put, ite_self, true_and, and_true, Nat.reduceLeDiff, Nat.le_refl, gt_iff_lt, ge_iff_le, Bool.not_eq_true', Bool.not_eq_eq_eq_not, Bool.not_true, Bool.not_false, Bool.not_eq_false', Bool.not_not, beq_iff_eq, bne_iff_ne, ne_eq, decide_eq_false_iff_not, len_lst T23 d23, len_sl T23 d23, len_nils T23 d23, bool_eql T4 d4, bool_neq T4 d4, callV_fn (g := 12) (by decide), K12 h12, callV_fn (g := 20) (by decide), K20 h20, callV_fn (g := 21) (by decide), K21 h21, callV_fn (g := 22) (by decide), K22 h22, callV_fn (g := 23) (by decide), K23 h23, callV_fn (g := 24) (by decide), K24 h24, callV_fn (g := 25) (by decide), K25 h25, hl, hl2, hg, le_cast60, hb]
      exact ⟨_, rfl⟩
    · simp +contextual only [↓code_skip, ↓code_seq, ↓code_region, ↓code_cond, ↓code_block, ↓code_loop, ↓code_exit, ↓code_ret, aCond_bool, ↓ops_nil, ↓ops_cons, run_none, run_someT, run_someF, run_tup, ↓run0_v, ↓run0_h, ↓run0_r, ↓seqK_normal, ↓seqK_exit, ↓seqK_ret, ↓blkK_normal, ↓blkK_ret, ↓blkK_exit, ↓retK_normal, ↓retK_ret, put_same, put_ne, put_none, env0_at, ev_tmp, ev_const, ev_func, oc_int, oc_bool, oc_str, oc_nils, oc_nilp, oc_nilf, oc_nilm, o_move, o_assign, o_pick, o_bin, o_call, o_len, o_alloc, o_box, o_build, o_buildSlice, o_load, o_store, o_nilCheck, o_un, o_convert, o_makeFunc, o_makeSlice, o_slice, o_fieldAddr, o_field, o_indexAddr, o_index, o_extract, o_append, o_min, o_max, g_none, g_some, pick_bool, bin_add, bin_sub, bin_mul, bin_quo, bin_rem, bin_eql, bin_neq, bin_or, bin_and, bin_lss, bin_leq, bin_gtr, bin_geq, bin_shr, bin_shl, str_add, str_eql, str_neq, un_not, extract_tup, nil_ptr, nil_fp, part_1, part_A, next_e0, next_one, get_e0, resultsOf, oneOrAll, Option.bind_some, Option.map_some, Option.map_none, Option.getD_some, decide_eq_true_eq, ↓reduceIte, Nat.reduceEqDiff, not_false_eq_true, Nat.reduceAdd, Nat.reduceMul, reduceCtorEq, if_true, if_false, Nat.succ_ne_self, List.getElem?_cons_zero, List.getElem?_cons_succ, List.getElem?_toArray, Bool.false_eq_true, Bool.true_eq_false, List.map_cons, List.map_nil, List.append_nil, List.nil_append, List.cons_append, AH.get_alloc, AH.get_put, AH.next_alloc, AH.next_put, ite_self, true_and, and_true, Nat.reduceLeDiff, Nat.le_refl, gt_iff_lt, ge_iff_le, Bool.not_eq_true', Bool.not_eq_eq_eq_not, Bool.not_true, Bool.not_false, Bool.not_eq_false', Bool.not_not, beq_iff_eq, bne_iff_ne, ne_eq, decide_eq_false_iff_not, len_lst T23 d23, len_sl T23 d23, len_nils T23 d23, bool_eql T4 d4, bool_neq T4 d4, callV_fn (g := 12) (by decide), K12 h12, callV_fn (g := 20) (by decide), K20 h20, callV_fn (g := 21) (by decide), K21 h21, callV_fn (g := 22) (by decide), K22 h22, callV_fn (g := 23) (by decide), K23 h23, callV_fn (g := 24) (by decide), K24 h24, callV_fn (g := 25) (by decide), K25 h25, hl, hl2, hg, le_cast60, hb, hz, decide_true]
      exact ⟨_, rfl⟩
  | false =>
    have hg : group s = .tup [.int .i64 0, .int .i64 2] := by unfold group; rw [if_neg (by simp [hz])]
    by_cases hb : 60 < l.length
    · simp +contextual only [↓code_skip, ↓code_seq, ↓code_region, ↓code_cond, ↓code_block, ↓code_loop, ↓code_exit, ↓code_ret, aCond_bool, ↓ops_nil, ↓ops_cons, run_none, run_someT, run_someF, run_tup, ↓run0_v, ↓run0_h, ↓run0_r, ↓seqK_normal, ↓seqK_exit, ↓seqK_ret, ↓blkK_normal, ↓blkK_ret, ↓blkK_exit, ↓retK_normal, ↓retK_ret, put_same, put_ne, put_none, env0_at, ev_tmp, ev_const, ev_func, oc_int, oc_bool, oc_str, oc_nils, oc_nilp, oc_nilf, oc_nilm, o_move, o_assign, o_pick, o_bin, o_call, o_len, o_alloc, o_box, o_build, o_buildSlice, o_load, o_store, o_nilCheck, o_un, o_convert, o_makeFunc, o_makeSlice, o_slice, o_fieldAddr, o_field, o_indexAddr, o_index, o_extract, o_append, o_min, o_max, g_none, g_some, pick_bool, bin_add, bin_sub, bin_mul, bin_quo, bin_rem, bin_eql, bin_neq, bin_or, bin_and, bin_lss, bin_leq, bin_gtr, bin_geq, bin_shr, bin_shl, str_add, str_eql, str_neq, un_not, extract_tup, nil_ptr, nil_fp, part_1, part_A, next_e0, next_one, get_e0, resultsOf, oneOrAll, Option.bind_some, Option.map_some, Option.map_none, Option.getD_some, decide_eq_true_eq, ↓reduceIte, Nat.reduceEqDiff, not_false_eq_true, Nat.reduceAdd, Nat.reduceMul, reduceCtorEq, if_true, if_false, Nat.succ_ne_self, List.getElem?_cons_zero, List.getElem?_cons_succ, List.getElem?_toArray, Bool.false_eq_true, Bool.true_eq_false, List.map_cons, List.map_nil, List.append_nil, List.nil_append, List.cons_append, AH.get_alloc, AH.get_put, AH.next_alloc, AH.next_put, ite_self, true_and, and_true, Nat.reduceLeDiff, Nat.le_refl, gt_iff_lt, ge_iff_le, Bool.not_eq_true', Bool.not_eq_eq_eq_not, Bool.not_true, Bool.not_false, Bool.not_eq_false', Bool.not_not, beq_iff_eq, bne_iff_ne, ne_eq, decide_eq_false_iff_not, len_lst T23 d23, len_sl T23 d23, len_nils T23 d23, bool_eql T4 d4, bool_neq T4 d4, callV_fn (g := 12) (by decide), K12 h12, callV_fn (g := 20) (by decide), K20 h20, callV_fn (g := 21) (by decide), K21 h21, callV_fn (g := 22) (by decide), K22 h22, callV_fn (g := 23) (by decide), K23 h23, callV_fn (g := 24) (by decide), K24 h24, callV_fn (g := 25) (by decide), K25 h25, hl, hl2, hg, le_cast60, hb]
      exact ⟨_, rfl⟩
    · simp +contextual only [↓code_skip, ↓code_seq, ↓code_region, ↓code_cond, ↓code_block, ↓code_loop, ↓code_exit, ↓code_ret, aCond_bool, ↓ops_nil, ↓ops_cons, run_none, run_someT, run_someF, run_tup, ↓run0_v, ↓run0_h, ↓run0_r, ↓seqK_normal, ↓seqK_exit, ↓seqK_ret, ↓blkK_normal, ↓blkK_ret, ↓blkK_exit, ↓retK_normal, ↓retK_ret, put_same, put_ne, put_none, env0_at, ev_tmp, ev_const, ev_func, oc_int, oc_bool, oc_str, oc_nils, oc_nilp, oc_nilf, oc_nilm, o_move, o_assign, o_pick, o_bin, o_call, o_len, o_alloc, o_box, o_build, o_buildSlice, o_load, o_store, o_nilCheck, o_un, o_convert, o_makeFunc, o_makeSlice, o_slice, o_fieldAddr, o_field, o_indexAddr, o_index, o_extract, o_append, o_min, o_max, g_none, g_some, pick_bool, bin_add, bin_sub, bin_mul, bin_quo, bin_rem, bin_eql, bin_neq, bin_or, bin_and, bin_lss, bin_leq, bin_gtr, bin_geq, bin_shr, bin_shl, str_add, str_eql, str_neq, un_not, extract_tup, nil_ptr, nil_fp, part_1, part_A, next_e0, next_one, get_e0, resultsOf, oneOrAll, Option.bind_some, Option.map_some, Option.map_none, Option.getD_some, decide_eq_true_eq, ↓reduceIte, Nat.reduceEqDiff, not_false_eq_true, Nat.reduceAdd, Nat.reduceMul, reduceCtorEq, if_true, if_false, Nat.succ_ne_self, List.getElem?_cons_zero, List.getElem?_cons_succ, List.getElem?_toArray, Bool.false_eq_true, Bool.true_eq_false, List.map_cons, List.map_nil, List.append_nil, List.nil_append, List.cons_append, AH.get_alloc, AH.get_put, AH.next_alloc, AH.next_put, ite_self, true_and, and_true, Nat.reduceLeDiff, Nat.le_refl, gt_iff_lt, ge_iff_le, Bool.not_eq_true', Bool.not_eq_eq_eq_not, Bool.not_true, Bool.not_false, Bool.not_eq_false', Bool.not_not, beq_iff_eq, bne_iff_ne, ne_eq, decide_eq_false_iff_not, len_lst T23 d23, len_sl T23 d23, len_nils T23 d23, bool_eql T4 d4, bool_neq T4 d4, callV_fn (g := 12) (by decide), K12 h12, callV_fn (g := 20) (by decide), K20 h20, callV_fn (g := 21) (by decide), K21 h21, callV_fn (g := 22) (by decide), K22 h22, callV_fn (g := 23) (by decide), K23 h23, callV_fn (g := 24) (by decide), K24 h24, callV_fn (g := 25) (by decide), K25 h25, hl, hl2, hg, le_cast60, hb, hz, decide_true]
      exact ⟨_, rfl⟩
theorem law4 (s : List UInt8) (l : List (List UInt8)) (hl : s.length < 140737488355327) (hl2 : small l) : ∃ h', call F I14 T 3 4 [.str s, .lst false 1 l.length (l.map .str)] e0 = some (.bool true, h') :=
  run4 rfl rfl rfl rfl rfl rfl rfl rfl s l 0 hl hl2
end Go.AM.X
