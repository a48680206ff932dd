/- LabelLongs: the walk of the law. Own work. -/
import Derived.Test.YtkaihcpnomdkkaaDoorLlgJ
import Derived.Test.YtkaihcpnomdkkaaDoorShelf2
namespace Go.AM.X.G
open Go Go.AM Go.Proofs Go.AM.Sx Go.AM.X
set_option maxHeartbeats 3200000
set_option maxRecDepth 100000
set_option linter.unusedSimpArgs false
set_option linter.unusedVariables false
theorem F6 : F 6 = some { body := (Tryd.f6.body.getD .skip), results := Tryd.f6.results.toList, rf := false } := by kernel_rfl
theorem R6 : regsOk T (Tryd.f6.body.getD .skip) = true := by kernel_rfl
theorem run6 {I : Nat → Option (List AV → AH → Rs)} (h8 : I 8 = some (pureG g8)) (h9 : I 9 = some (pureG g9)) (h23 : I 23 = some (pureG g23)) (h24 : I 24 = some (pureG g24)) (h6 : I 6 = none) (s : List UInt8) (tk : List (List UInt8)) (m : Nat) (hl : s.length < 140737488355327) (ht : small tk) : ∃ h', call F I T (m + 400) 6 [.str s, .lst false 1 tk.length (tk.map .str)] e0 = some (.bool true, h') := by
  have htl := ht.1
  obtain ⟨H0, hH0⟩ : ∃ H0, H0 = e0.alloc (.cells [.str s] .own) := ⟨_, rfl⟩
  have k8 := fun m => K8w h8 m s 0 H0 (by rw [hH0, AH.get_alloc]; rfl)
  rw [call_F (by decide) h6 F6 rfl R6]; simp only [Tryd.f6, Option.getD]
  cases q1 : tooLong [s] with
  | true =>
    rw [q1] at k8
    simp +contextual (maxSteps := 3000000) only [↓code_skip, ↓code_seq, ↓code_region, ↓code_cond, ↓code_block, ↓code_scope, ↓code_label, ↓code_loop, ↓code_exit, ↓code_ret, aCond_bool, ↓ops_nil, ↓ops_cons, run_none, run_someT, run_someF, run_tup, ↓run0_v, ↓run0_h, ↓run0_r, ↓seqK_normal, ↓seqK_exit, ↓seqK_ret, ↓blkK_normal, ↓blkK_ret, ↓blkK_exit, ↓retK_normal, ↓retK_ret, put_same, put_ne, put_none, env0_at, ev_tmp, ev_const, ev_func, oc_int, oc_bool, oc_str, oc_nils, oc_nilp, oc_nilf, oc_nilm, o_move, o_assign, o_pick, o_bin, o_call, o_len, o_alloc, o_box, o_build, o_buildSlice, o_load, o_store, o_nilCheck, o_un, o_convert, o_makeFunc, o_makeSlice, o_slice, o_fieldAddr, o_field, o_indexAddr, o_index, o_extract, o_append, o_min, o_max, g_none, g_some, pick_bool, bin_add, bin_sub, bin_mul, bin_quo, bin_rem, bin_eql, bin_neq, bin_or, bin_and, bin_lss, bin_leq, bin_gtr, bin_geq, bin_shr, bin_shl, str_add, str_eql, str_neq, un_not, extract_tup, nil_ptr, nil_fp, part_1, part_A, next_e0, next_one, get_e0, resultsOf, oneOrAll, Option.bind_some, Option.map_some, Option.map_none, Option.getD_some, decide_eq_true_eq, ↓reduceIte, Nat.reduceEqDiff, not_false_eq_true, not_true_eq_false, Nat.reduceAdd, Nat.reduceMul, reduceCtorEq, if_true, if_false, Nat.succ_ne_self, List.getElem?_cons_zero, List.getElem?_cons_succ, List.getElem?_toArray, Bool.false_eq_true, Bool.true_eq_false, List.map_cons, List.map_nil, List.append_nil, List.nil_append, List.cons_append, AH.get_alloc, AH.get_put, AH.next_alloc, AH.next_put, ite_self, true_and, and_true, Nat.reduceLeDiff, Nat.le_refl, gt_iff_lt, ge_iff_le, Bool.not_eq_true', Bool.not_eq_eq_eq_not, Bool.not_true, Bool.not_false, Bool.not_eq_false', Bool.not_not, beq_iff_eq, bne_iff_ne, ne_eq, decide_eq_false_iff_not, buildSl T23 d23 T9 (n := 1) (by rw [s9]; decide), s9, z9, parts_eq, fill_nil, fillA, AV.cells, AH.splice, List.take_succ_cons, List.take_zero, List.take_nil, List.drop_succ_cons, List.drop_zero, List.drop_nil, List.length_cons, List.length_nil, repl, callV_fn (g := 8) (by decide), K8 h8, callV_fn (g := 9) (by decide), K9 h9, callV_fn (g := 23) (by decide), K23 h23, callV_fn (g := 24) (by decide), K24 h24, ← hH0, k8]
    exact ⟨_, rfl⟩
  | false =>
  rw [q1] at k8
  cases q2 : tooLong tk with
  | true =>
    simp +contextual (maxSteps := 3000000) only [↓code_skip, ↓code_seq, ↓code_region, ↓code_cond, ↓code_block, ↓code_scope, ↓code_label, ↓code_loop, ↓code_exit, ↓code_ret, aCond_bool, ↓ops_nil, ↓ops_cons, run_none, run_someT, run_someF, run_tup, ↓run0_v, ↓run0_h, ↓run0_r, ↓seqK_normal, ↓seqK_exit, ↓seqK_ret, ↓blkK_normal, ↓blkK_ret, ↓blkK_exit, ↓retK_normal, ↓retK_ret, put_same, put_ne, put_none, env0_at, ev_tmp, ev_const, ev_func, oc_int, oc_bool, oc_str, oc_nils, oc_nilp, oc_nilf, oc_nilm, o_move, o_assign, o_pick, o_bin, o_call, o_len, o_alloc, o_box, o_build, o_buildSlice, o_load, o_store, o_nilCheck, o_un, o_convert, o_makeFunc, o_makeSlice, o_slice, o_fieldAddr, o_field, o_indexAddr, o_index, o_extract, o_append, o_min, o_max, g_none, g_some, pick_bool, bin_add, bin_sub, bin_mul, bin_quo, bin_rem, bin_eql, bin_neq, bin_or, bin_and, bin_lss, bin_leq, bin_gtr, bin_geq, bin_shr, bin_shl, str_add, str_eql, str_neq, un_not, extract_tup, nil_ptr, nil_fp, part_1, part_A, next_e0, next_one, get_e0, resultsOf, oneOrAll, Option.bind_some, Option.map_some, Option.map_none, Option.getD_some, decide_eq_true_eq, ↓reduceIte, Nat.reduceEqDiff, not_false_eq_true, not_true_eq_false, Nat.reduceAdd, Nat.reduceMul, reduceCtorEq, if_true, if_false, Nat.succ_ne_self, List.getElem?_cons_zero, List.getElem?_cons_succ, List.getElem?_toArray, Bool.false_eq_true, Bool.true_eq_false, List.map_cons, List.map_nil, List.append_nil, List.nil_append, List.cons_append, AH.get_alloc, AH.get_put, AH.next_alloc, AH.next_put, ite_self, true_and, and_true, Nat.reduceLeDiff, Nat.le_refl, gt_iff_lt, ge_iff_le, Bool.not_eq_true', Bool.not_eq_eq_eq_not, Bool.not_true, Bool.not_false, Bool.not_eq_false', Bool.not_not, beq_iff_eq, bne_iff_ne, ne_eq, decide_eq_false_iff_not, buildSl T23 d23 T9 (n := 1) (by rw [s9]; decide), s9, z9, parts_eq, fill_nil, fillA, AV.cells, AH.splice, List.take_succ_cons, List.take_zero, List.take_nil, List.drop_succ_cons, List.drop_zero, List.drop_nil, List.length_cons, List.length_nil, repl, callV_fn (g := 8) (by decide), K8 h8, callV_fn (g := 9) (by decide), K9 h9, callV_fn (g := 23) (by decide), K23 h23, callV_fn (g := 24) (by decide), K24 h24, ← hH0, k8, htl, q2]
    exact ⟨_, rfl⟩
  | false =>
  have hn200 : tk.length ≤ 200 := by
    simp only [tooLong, Bool.or_eq_false_iff, decide_eq_false_iff_not] at q2; omega
  have hA : (∃ r, longR s tk = .tup [.str r, .int .i64 0]) ∨ longR s tk = .tup [.str [], .int .i64 2] := by
    unfold longR
    split
    · rename_i hc
      have key : ∀ i, i ≤ tk.length → (∃ r, findL (Lib.toLowerA s) tk (tk.length + 1) 1 = some r) ∨ (∀ j, j < i → hit (Lib.toLowerA s) tk (j + 1) = true) := by
        intro i
        induction i with
        | zero => exact fun _ => .inr fun j hj => by omega
        | succ i ih =>
          intro hi
          rcases ih (by omega) with h | h
          · exact .inl h
          · cases hm : hit (Lib.toLowerA s) tk (i + 1) with
            | true =>
              refine .inr fun j hj => ?_
              by_cases e : j = i
              · rw [e]; exact hm
              · exact h j (by omega)
            | false => exact .inl ⟨_, findL_at i (tk.length + 1) 1 (fun j hj => by rw [Nat.add_comm]; exact h j hj) (by rw [Nat.add_comm]; exact hm) (by omega)⟩
      rcases key tk.length (Nat.le_refl _) with ⟨r, h⟩ | h
      · exact .inl ⟨r, by rw [h]; rfl⟩
      · cases hm : hit (Lib.toLowerA s) tk (tk.length + 1) with
        | true =>
          have := hit_le (a := Lib.toLowerA s) (l := tk) (i := tk.length + 1) fun j hj => by
            by_cases e : j = tk.length
            · rw [e]; exact hm
            · exact h j (by omega)
          omega
        | false =>
          exact .inl ⟨_, by rw [findL_at tk.length (tk.length + 1) 1 (fun j hj => by rw [Nat.add_comm]; exact h j hj) (by rw [Nat.add_comm]; exact hm) (by omega)]; rfl⟩
    · exact .inr rfl
  rcases hA with ⟨r, h1⟩ | h1
  · simp +contextual (maxSteps := 3000000) only [↓code_skip, ↓code_seq, ↓code_region, ↓code_cond, ↓code_block, ↓code_scope, ↓code_label, ↓code_loop, ↓code_exit, ↓code_ret, aCond_bool, ↓ops_nil, ↓ops_cons, run_none, run_someT, run_someF, run_tup, ↓run0_v, ↓run0_h, ↓run0_r, ↓seqK_normal, ↓seqK_exit, ↓seqK_ret, ↓blkK_normal, ↓blkK_ret, ↓blkK_exit, ↓retK_normal, ↓retK_ret, put_same, put_ne, put_none, env0_at, ev_tmp, ev_const, ev_func, oc_int, oc_bool, oc_str, oc_nils, oc_nilp, oc_nilf, oc_nilm, o_move, o_assign, o_pick, o_bin, o_call, o_len, o_alloc, o_box, o_build, o_buildSlice, o_load, o_store, o_nilCheck, o_un, o_convert, o_makeFunc, o_makeSlice, o_slice, o_fieldAddr, o_field, o_indexAddr, o_index, o_extract, o_append, o_min, o_max, g_none, g_some, pick_bool, bin_add, bin_sub, bin_mul, bin_quo, bin_rem, bin_eql, bin_neq, bin_or, bin_and, bin_lss, bin_leq, bin_gtr, bin_geq, bin_shr, bin_shl, str_add, str_eql, str_neq, un_not, extract_tup, nil_ptr, nil_fp, part_1, part_A, next_e0, next_one, get_e0, resultsOf, oneOrAll, Option.bind_some, Option.map_some, Option.map_none, Option.getD_some, decide_eq_true_eq, ↓reduceIte, Nat.reduceEqDiff, not_false_eq_true, not_true_eq_false, Nat.reduceAdd, Nat.reduceMul, reduceCtorEq, if_true, if_false, Nat.succ_ne_self, List.getElem?_cons_zero, List.getElem?_cons_succ, List.getElem?_toArray, Bool.false_eq_true, Bool.true_eq_false, List.map_cons, List.map_nil, List.append_nil, List.nil_append, List.cons_append, AH.get_alloc, AH.get_put, AH.next_alloc, AH.next_put, ite_self, true_and, and_true, Nat.reduceLeDiff, Nat.le_refl, gt_iff_lt, ge_iff_le, Bool.not_eq_true', Bool.not_eq_eq_eq_not, Bool.not_true, Bool.not_false, Bool.not_eq_false', Bool.not_not, beq_iff_eq, bne_iff_ne, ne_eq, decide_eq_false_iff_not, buildSl T23 d23 T9 (n := 1) (by rw [s9]; decide), s9, z9, parts_eq, fill_nil, fillA, AV.cells, AH.splice, List.take_succ_cons, List.take_zero, List.take_nil, List.drop_succ_cons, List.drop_zero, List.drop_nil, List.length_cons, List.length_nil, repl, callV_fn (g := 8) (by decide), K8 h8, callV_fn (g := 9) (by decide), K9 h9, callV_fn (g := 23) (by decide), K23 h23, callV_fn (g := 24) (by decide), K24 h24, ← hH0, k8, htl, hl, ht, hn200, q2, h1, decide_true]
    exact ⟨_, rfl⟩
  · simp +contextual (maxSteps := 3000000) only [↓code_skip, ↓code_seq, ↓code_region, ↓code_cond, ↓code_block, ↓code_scope, ↓code_label, ↓code_loop, ↓code_exit, ↓code_ret, aCond_bool, ↓ops_nil, ↓ops_cons, run_none, run_someT, run_someF, run_tup, ↓run0_v, ↓run0_h, ↓run0_r, ↓seqK_normal, ↓seqK_exit, ↓seqK_ret, ↓blkK_normal, ↓blkK_ret, ↓blkK_exit, ↓retK_normal, ↓retK_ret, put_same, put_ne, put_none, env0_at, ev_tmp, ev_const, ev_func, oc_int, oc_bool, oc_str, oc_nils, oc_nilp, oc_nilf, oc_nilm, o_move, o_assign, o_pick, o_bin, o_call, o_len, o_alloc, o_box, o_build, o_buildSlice, o_load, o_store, o_nilCheck, o_un, o_convert, o_makeFunc, o_makeSlice, o_slice, o_fieldAddr, o_field, o_indexAddr, o_index, o_extract, o_append, o_min, o_max, g_none, g_some, pick_bool, bin_add, bin_sub, bin_mul, bin_quo, bin_rem, bin_eql, bin_neq, bin_or, bin_and, bin_lss, bin_leq, bin_gtr, bin_geq, bin_shr, bin_shl, str_add, str_eql, str_neq, un_not, extract_tup, nil_ptr, nil_fp, part_1, part_A, next_e0, next_one, get_e0, resultsOf, oneOrAll, Option.bind_some, Option.map_some, Option.map_none, Option.getD_some, decide_eq_true_eq, ↓reduceIte, Nat.reduceEqDiff, not_false_eq_true, not_true_eq_false, Nat.reduceAdd, Nat.reduceMul, reduceCtorEq, if_true, if_false, Nat.succ_ne_self, List.getElem?_cons_zero, List.getElem?_cons_succ, List.getElem?_toArray, Bool.false_eq_true, Bool.true_eq_false, List.map_cons, List.map_nil, List.append_nil, List.nil_append, List.cons_append, AH.get_alloc, AH.get_put, AH.next_alloc, AH.next_put, ite_self, true_and, and_true, Nat.reduceLeDiff, Nat.le_refl, gt_iff_lt, ge_iff_le, Bool.not_eq_true', Bool.not_eq_eq_eq_not, Bool.not_true, Bool.not_false, Bool.not_eq_false', Bool.not_not, beq_iff_eq, bne_iff_ne, ne_eq, decide_eq_false_iff_not, buildSl T23 d23 T9 (n := 1) (by rw [s9]; decide), s9, z9, parts_eq, fill_nil, fillA, AV.cells, AH.splice, List.take_succ_cons, List.take_zero, List.take_nil, List.drop_succ_cons, List.drop_zero, List.drop_nil, List.length_cons, List.length_nil, repl, callV_fn (g := 8) (by decide), K8 h8, callV_fn (g := 9) (by decide), K9 h9, callV_fn (g := 23) (by decide), K23 h23, callV_fn (g := 24) (by decide), K24 h24, ← hH0, k8, htl, hl, ht, hn200, q2, h1, decide_true]
    exact ⟨_, rfl⟩
end Go.AM.X.G
namespace Go.AM.X.G
open Go Go.AM Go.Proofs Go.AM.Sx Go.AM.X
set_option maxHeartbeats 1600000
set_option maxRecDepth 100000
set_option linter.unusedSimpArgs false
set_option linter.unusedVariables false
theorem F9 : F 9 = some { body := (Tryd.f9.body.getD .skip), results := Tryd.f9.results.toList, rf := false } := by kernel_rfl
theorem frz_row {k : Nat} {h : AH} : frzMap (frzF false (k + 1) h) setL = some setL := by
  unfold setL
  exact frzMap_map (al := false) (k := k + 1) (h := h) (f := fun k : Nat => AV.bool (k == 0 || k == 58)) (l := List.range 256) (fun _ => rfl)
noncomputable def Yc1 := addI N1 9 (pureG g9)
theorem YcA1 : IAgree Tryd.prog Yc1 := by
  refine pure_agree hT hmix hF E1 (by decide) _ F9 fun args v hg _ => ?_
  unfold g9 at hg
  split at hg
  · cases hg
    obtain ⟨h', hc⟩ := isT_some awake9
    exact ⟨[], 300, 3, h', .bool true, .bool true, WkL.nil, hc, by simp [frzF, AV.flat], Wk.refl _⟩
  · cases hg
noncomputable def Yc2 := addI Yc1 74 (pureG g74)
theorem YcA2 : IAgree Tryd.prog Yc2 := by
  refine agree2 hT hmix hF YcA1 (by decide) F74 fun x y r hs => ?_
  split at hs
  · rename_i hc; obtain ⟨rfl, hc⟩ := hc; cases hs; exact fin (run74 rfl rfl rfl rfl rfl rfl y 0 hc) (fun h => by simp [frzF, AV.flat])
  · cases hs
theorem set76T : isSet (call F Yc2 T 60 76 [.str [0, 58]] e0) setL = true := by kernel_rfl
noncomputable def Yc3 := addI Yc2 76 (pureG g76)
theorem YcA3 : IAgree Tryd.prog Yc3 := by
  refine pure_agree hT hmix hF YcA2 (by decide) _ F76 fun args v hg _ => ?_
  unfold g76 at hg
  split at hg
  · split at hg
    · rename_i hs
      subst hs
      cases hg
      obtain ⟨h', hc⟩ := isSet_some set76T
      refine ⟨_, 60, 4, h', _, _, WkL.cons (Wk.refl _) WkL.nil, hc, ?_, Wk.refl _⟩
      show (frzMap (frzF false 3 h') [.agg setL, .bool true]).map AV.tup = _
      have h1 : frzF false 3 h' (.agg setL) = some (.agg setL) := by
        show (frzMap (frzF false 2 h') setL).map AV.agg = _
        rw [frz_row]; rfl
      rw [frzMap_cons (f := frzF false 3 h') h1 (frzMap_cons (f := frzF false 3 h') (b := .bool true) rfl frzMap_nil)]
      rfl
    · cases hg
  · cases hg
noncomputable def Yc4 := addI Yc3 50 (pureG g50)
theorem YcA4 : IAgree Tryd.prog Yc4 := by
  refine agree2 hT hmix hF YcA3 (by decide) F50 fun x y r hs => ?_
  split at hs
  · rename_i hc; obtain ⟨rfl, hc⟩ := hc; cases hs; exact fin (run50 rfl rfl rfl rfl rfl x 0 hc) (fun h => by simp [frzF, AV.flat])
  · cases hs
noncomputable def Yc5 := addI Yc4 28 (pureG g28)
theorem YcA5 : IAgree Tryd.prog Yc5 := agree2 hT hmix hF YcA4 (by decide) F28 fun x y r hs => by
  split at hs
  · rename_i hc; cases hs; exact fin (run28 rfl rfl  x y 0 hc) (fun h => by simp [frzF, frzMap, AV.flat])
  · cases hs
noncomputable def Yc6 := addI Yc5 29 (pureG g29)
theorem YcA6 : IAgree Tryd.prog Yc6 := by
  refine pure_agree hT hmix hF YcA5 (by decide) _ F29 fun args v hg _ => ?_
  unfold g29 at hg
  split at hg
  · split at hg
    · rename_i hc
      cases hg
      obtain ⟨h', hr⟩ := run29 (I := Yc5) rfl rfl _ _ 0 hc
      exact ⟨_, _, 4, h', _, _, WkL.refl _, hr, by simp [frzF, frzMap, AV.flat], Wk.refl _⟩
    · cases hg
  · cases hg
noncomputable def Yc7 := addI Yc6 10 (pureG g10)
theorem YcA7 : IAgree Tryd.prog Yc7 := agree1 hT hmix hF YcA6 (by decide) F10 fun x r hs => by
  split at hs
  · rename_i hc; cases hs; exact fin (run10 rfl rfl rfl  x 0 hc) (fun h => by simp [frzF, frzMap, AV.flat])
  · cases hs
noncomputable def Yc8 := addI Yc7 11 (pureG g11)
theorem YcA8 : IAgree Tryd.prog Yc8 := agree1 hT hmix hF YcA7 (by decide) F11 fun x r hs => by
  split at hs
  · rename_i hc; cases hs; exact fin (run11  rfl  x 0 hc) (fun h => by simp [frzF, frzMap, AV.flat])
  · cases hs
noncomputable def Yc9 := addI Yc8 12 (pureG g12)
theorem YcA9 : IAgree Tryd.prog Yc9 := agree1 hT hmix hF YcA8 (by decide) F12 fun x r hs => by
  split at hs
  · rename_i hc; cases hs; exact fin (run12 rfl rfl rfl rfl rfl rfl rfl rfl rfl rfl  x 0 hc) (fun h => by simp [frzF, frzMap, AV.flat])
  · cases hs
noncomputable def Yc10 := addI Yc9 13 (pureG g13)
theorem YcA10 : IAgree Tryd.prog Yc10 := agree1 hT hmix hF YcA9 (by decide) F13 fun x r hs => by
  split at hs
  · rename_i hc; cases hs; exact fin (run13 rfl rfl  x 0 hc) (fun h => by simp [frzF, frzMap, AV.flat])
  · cases hs
noncomputable def Yc11 := addI Yc10 8 (pureG g8)
theorem YcA11 : IAgree Tryd.prog Yc11 := agree1 hT hmix hF YcA10 (by decide) F8 fun x r hs => by
  split at hs
  · rename_i hc; cases hs; exact fin (run8  rfl  x 0 hc) (fun h => by simp [frzF, frzMap, AV.flat])
  · cases hs
noncomputable def Yc12 := addI Yc11 42 (pureG g42)
theorem YcA12 : IAgree Tryd.prog Yc12 := agree1 hT hmix hF YcA11 (by decide) F42 fun x r hs => by
  split at hs
  · rename_i hc; cases hs; exact fin (run42 rfl rfl  x 0 hc) (fun h => by simp [frzF, frzMap, AV.flat])
  · cases hs
noncomputable def Yc13 := addI Yc12 36 (pureG g36)
theorem YcA13 : IAgree Tryd.prog Yc13 := agree2 hT hmix hF YcA12 (by decide) F36 fun x y r hs => by
  split at hs
  · rename_i hc; cases hs; exact fin (run36 rfl rfl  x y 0 hc.1 hc.2) (fun h => by simp [frzF, frzMap, AV.flat])
  · cases hs
noncomputable def Yc14 := addI Yc13 73 (pureG g73)
theorem YcA14 : IAgree Tryd.prog Yc14 := agree2 hT hmix hF YcA13 (by decide) F73 fun x y r hs => by
  split at hs
  · rename_i hc; cases hs; exact fin (run73 rfl rfl rfl  x y 0 hc.1 hc.2) (fun h => by simp [frzF, frzMap, AV.flat])
  · cases hs
noncomputable def Yc15 := addI Yc14 31 (pureG g31)
theorem YcA15 : IAgree Tryd.prog Yc15 := agree2 hT hmix hF YcA14 (by decide) F31 fun x y r hs => by
  split at hs
  · rename_i hc; cases hs; exact fin (run31 rfl rfl rfl rfl rfl rfl rfl rfl rfl rfl x y 0 hc.1 hc.2) (fun h => by simp [frzF, frzMap, AV.flat])
  · cases hs
noncomputable def Yc16 := addI Yc15 46 itG
theorem YcA16 : IAgree Tryd.prog Yc16 := by
  obtain ⟨fi, hfi⟩ : ∃ fi, F 46 = some fi := Option.isSome_iff_exists.1 (by kernel_rfl)
  obtain ⟨g, hg⟩ : ∃ g, Tryd.prog.globalNamed "internal/strconv.uint64pow10" = some g := Option.isSome_iff_exists.1 (by kernel_rfl)
  exact it_agree hF YcA15 fi hfi hg (fun n h0 h1 w ht => Tryd.strconv_Itoa n h0 h1 w ht)
noncomputable def Yc17 := addI Yc16 44 lowG
theorem YcA17 : IAgree Tryd.prog Yc17 := by
  obtain ⟨fi, hfi⟩ : ∃ fi, F 44 = some fi := Option.isSome_iff_exists.1 (by kernel_rfl)
  exact low_agree hF YcA16 fi hfi (fun s w h1 h2 => Tryd.strings_ToLower_ascii s w h1 h2)
noncomputable def Yc18 := addI Yc17 48 (pureG g48)
theorem YcA18 : IAgree Tryd.prog Yc18 := by
  refine agree1 hT hmix hF YcA17 (by decide) F48 fun x r hs => ?_
  split at hs
  · rename_i hc; cases hs
    obtain ⟨n, rfl⟩ : ∃ n : Nat, x = n := ⟨x.toNat, by omega⟩
    exact ⟨_, 3, e0, _, _, run48 (I := Yc17) rfl n (by omega) 0 e0, by simp [frzF, AV.flat], Wk.refl _⟩
  · cases hs
noncomputable def Yc19 := addI Yc18 47 (pureG g47)
theorem YcA19 : IAgree Tryd.prog Yc19 := agree2 hT hmix hF YcA18 (by decide) F47 fun x y r hs => by
  split at hs
  · rename_i hc; cases hs; exact fin (run47 rfl rfl  x y 0 hc.1 hc.2) (fun h => by simp [frzF, frzMap, AV.flat])
  · cases hs
noncomputable def Yc20 := addI Yc19 23 (pureG g23)
theorem YcA20 : IAgree Tryd.prog Yc20 := by
  refine agree2 hT hmix hF YcA19 (by decide) F23 fun x y r hs => ?_
  split at hs
  · rename_i hc; cases hs
    obtain ⟨h', hr⟩ := run23 (I := Yc19) rfl rfl rfl rfl rfl rfl rfl x y 0 hc.1 hc.2.1 hc.2.2
    refine ⟨_, 4, h', _, _, hr, ?_, Wk.refl _⟩
    unfold longR
    split
    · cases findL (Lib.toLowerA x) y (y.length + 1) 1 <;> simp [tL, frzF, frzMap, AV.flat]
    · simp [frzF, frzMap, AV.flat]
  · cases hs
noncomputable def Yc21 := addI Yc20 24 (pureG g24)
theorem YcA21 : IAgree Tryd.prog Yc21 := by
  refine agree2 hT hmix hF YcA20 (by decide) F24 fun x y r hs => ?_
  split at hs
  · rename_i hc; cases hs
    obtain ⟨h', hr⟩ := run24 (I := Yc20) rfl rfl rfl rfl rfl x y 0 hc.1 hc.2.1 hc.2.2
    refine ⟨_, 4, h', _, _, hr, ?_, Wk.refl _⟩
    unfold longR
    split
    · cases findL (Lib.toLowerA x) y (y.length + 1) 1 <;> simp [tL, frzF, frzMap, AV.flat]
    · simp [frzF, frzMap, AV.flat]
  · cases hs
theorem law6 (s : List UInt8) (tk : List (List UInt8)) (hl : s.length < 140737488355327) (ht : small tk) : ∃ h', call F Yc21 T 400 6 [.str s, .lst false 1 tk.length (tk.map .str)] e0 = some (.bool true, h') := run6 rfl rfl rfl rfl rfl s tk 0 hl ht
theorem lawB : IAgree Tryd.prog Yc21 := YcA21
end Go.AM.X.G
