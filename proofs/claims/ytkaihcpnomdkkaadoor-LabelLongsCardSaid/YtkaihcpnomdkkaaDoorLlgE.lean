/- The parts of names, cleaned. Own work. -/
import Derived.Test.YtkaihcpnomdkkaaDoorLlgD
namespace Go.AM.X
open Go Go.AM Go.Proofs Go.AM.Sx
set_option maxHeartbeats 1600000
set_option maxRecDepth 100000
set_option linter.unusedSimpArgs false
set_option linter.unusedVariables false
theorem sadd {t : Nat} {x y : List UInt8} {h : AH} (hl : x.length + y.length < 9223372036854775807) : aBin T .add t (.str x) (.str y) h = some (.str (x ++ y)) := by rw [str_add, if_neg (by omega)]
theorem str_slice {s : List UInt8} {i j : Nat} (h1 : i ≤ j) (h2 : j ≤ s.length) : aSlice T 9 (.str s) (some (.int .i64 ((i : Nat) : Int))) (some (.int .i64 ((j : Nat) : Int))) none = some (.str ((s.take j).drop i)) :=
  sl_str T9 d9 (by simp only [bnd]; rw [if_pos (by omega)]; rfl) (by simp only [bnd]; rw [if_pos (by omega)]; rfl) h1 h2
end Go.AM.X
namespace Go.AM.X
open Go Go.AM Go.Proofs Go.AM.Sx
set_option maxHeartbeats 1600000
set_option maxRecDepth 100000
set_option linter.unusedSimpArgs false
set_option linter.unusedVariables false
theorem fold_len (s : List UInt8) : (fold s).length = s.length := by simp [fold]
end Go.AM.X
namespace Go.AM.X
open Go Go.AM Go.Proofs Go.AM.Sx
set_option maxHeartbeats 1600000
set_option maxRecDepth 100000
set_option linter.unusedSimpArgs false
set_option linter.unusedVariables false
theorem F32 : F 32 = some { body := (Tryd.f32.body.getD .skip), results := Tryd.f32.results.toList, rf := false } := by kernel_rfl
theorem R32 : regsOk T (Tryd.f32.body.getD .skip) = true := by kernel_rfl
theorem F35 : F 35 = some { body := (Tryd.f35.body.getD .skip), results := Tryd.f35.results.toList, rf := false } := by kernel_rfl
theorem R35 : regsOk T (Tryd.f35.body.getD .skip) = true := by kernel_rfl
theorem F37 : F 37 = some { body := (Tryd.f37.body.getD .skip), results := Tryd.f37.results.toList, rf := false } := by kernel_rfl
theorem R37 : regsOk T (Tryd.f37.body.getD .skip) = true := by kernel_rfl
theorem F43 : F 43 = some { body := (Tryd.f43.body.getD .skip), results := Tryd.f43.results.toList, rf := false } := by kernel_rfl
theorem R43 : regsOk T (Tryd.f43.body.getD .skip) = true := by kernel_rfl
theorem F45 : F 45 = some { body := (Tryd.f45.body.getD .skip), results := Tryd.f45.results.toList, rf := false } := by kernel_rfl
theorem R45 : regsOk T (Tryd.f45.body.getD .skip) = true := by kernel_rfl
theorem K32 {I : Nat → Option (List AV → AH → Rs)} (h12 : I 12 = some (pureG g12)) (h32 : I 32 = none) (m : Nat) (s : List UInt8) (h : AH) (hl : s.length < 140737488355328) : call F I T (m + 2) 32 [.str s] h = some (.bool (!isShort s), h) := by
  rw [call_F (by decide) h32 F32 rfl R32]; simp only [Tryd.f32, Option.getD]
  simp +contextual (maxSteps := 3000000) only [↓code_skip, ↓code_seq, ↓code_region, ↓code_cond, ↓code_block, ↓code_scope, ↓code_label, ↓code_loop, ↓code_exit, ↓code_ret, aCond_bool, ↓ops_nil, ↓ops_cons, run_none, run_someT, run_someF, run_tup, ↓run0_v, ↓run0_h, ↓run0_r, ↓seqK_normal, ↓seqK_exit, ↓seqK_ret, ↓blkK_normal, ↓blkK_ret, ↓blkK_exit, ↓retK_normal, ↓retK_ret, put_same, put_ne, put_none, env0_at, ev_tmp, ev_const, ev_func, oc_int, oc_bool, oc_str, oc_nils, oc_nilp, oc_nilf, oc_nilm, o_move, o_assign, o_pick, o_bin, o_call, o_len, o_alloc, o_box, o_build, o_buildSlice, o_load, o_store, o_nilCheck, o_un, o_convert, o_makeFunc, o_makeSlice, o_slice, o_fieldAddr, o_field, o_indexAddr, o_index, o_extract, o_append, o_min, o_max, g_none, g_some, pick_bool, bin_add, bin_sub, bin_mul, bin_quo, bin_rem, bin_eql, bin_neq, bin_or, bin_and, bin_lss, bin_leq, bin_gtr, bin_geq, bin_shr, bin_shl, str_add, str_eql, str_neq, un_not, extract_tup, nil_ptr, nil_fp, part_1, part_A, next_e0, next_one, get_e0, resultsOf, oneOrAll, Option.bind_some, Option.map_some, Option.map_none, Option.getD_some, decide_eq_true_eq, ↓reduceIte, Nat.reduceEqDiff, not_false_eq_true, not_true_eq_false, Nat.reduceAdd, Nat.reduceMul, reduceCtorEq, if_true, if_false, Nat.succ_ne_self, List.getElem?_cons_zero, List.getElem?_cons_succ, List.getElem?_toArray, Bool.false_eq_true, Bool.true_eq_false, List.map_cons, List.map_nil, List.append_nil, List.nil_append, List.cons_append, AH.get_alloc, AH.get_put, AH.next_alloc, AH.next_put, ite_self, true_and, and_true, Nat.reduceLeDiff, Nat.le_refl, gt_iff_lt, ge_iff_le, Bool.not_eq_true', Bool.not_eq_eq_eq_not, Bool.not_true, Bool.not_false, Bool.not_eq_false', Bool.not_not, beq_iff_eq, bne_iff_ne, ne_eq, decide_eq_false_iff_not, callV_fn (g := 12) (by decide), K12 h12, hl]
theorem K37 {I : Nat → Option (List AV → AH → Rs)} (h10 : I 10 = some (pureG g10)) (h37 : I 37 = none) (m : Nat) (s : List UInt8) (h : AH) (hl : s.length < 140737488355328) : call F I T (m + 2) 37 [.str s] h = some (.bool (!isLong s), h) := by
  rw [call_F (by decide) h37 F37 rfl R37]; simp only [Tryd.f37, Option.getD]
  simp +contextual (maxSteps := 3000000) only [↓code_skip, ↓code_seq, ↓code_region, ↓code_cond, ↓code_block, ↓code_scope, ↓code_label, ↓code_loop, ↓code_exit, ↓code_ret, aCond_bool, ↓ops_nil, ↓ops_cons, run_none, run_someT, run_someF, run_tup, ↓run0_v, ↓run0_h, ↓run0_r, ↓seqK_normal, ↓seqK_exit, ↓seqK_ret, ↓blkK_normal, ↓blkK_ret, ↓blkK_exit, ↓retK_normal, ↓retK_ret, put_same, put_ne, put_none, env0_at, ev_tmp, ev_const, ev_func, oc_int, oc_bool, oc_str, oc_nils, oc_nilp, oc_nilf, oc_nilm, o_move, o_assign, o_pick, o_bin, o_call, o_len, o_alloc, o_box, o_build, o_buildSlice, o_load, o_store, o_nilCheck, o_un, o_convert, o_makeFunc, o_makeSlice, o_slice, o_fieldAddr, o_field, o_indexAddr, o_index, o_extract, o_append, o_min, o_max, g_none, g_some, pick_bool, bin_add, bin_sub, bin_mul, bin_quo, bin_rem, bin_eql, bin_neq, bin_or, bin_and, bin_lss, bin_leq, bin_gtr, bin_geq, bin_shr, bin_shl, str_add, str_eql, str_neq, un_not, extract_tup, nil_ptr, nil_fp, part_1, part_A, next_e0, next_one, get_e0, resultsOf, oneOrAll, Option.bind_some, Option.map_some, Option.map_none, Option.getD_some, decide_eq_true_eq, ↓reduceIte, Nat.reduceEqDiff, not_false_eq_true, not_true_eq_false, Nat.reduceAdd, Nat.reduceMul, reduceCtorEq, if_true, if_false, Nat.succ_ne_self, List.getElem?_cons_zero, List.getElem?_cons_succ, List.getElem?_toArray, Bool.false_eq_true, Bool.true_eq_false, List.map_cons, List.map_nil, List.append_nil, List.nil_append, List.cons_append, AH.get_alloc, AH.get_put, AH.next_alloc, AH.next_put, ite_self, true_and, and_true, Nat.reduceLeDiff, Nat.le_refl, gt_iff_lt, ge_iff_le, Bool.not_eq_true', Bool.not_eq_eq_eq_not, Bool.not_true, Bool.not_false, Bool.not_eq_false', Bool.not_not, beq_iff_eq, bne_iff_ne, ne_eq, decide_eq_false_iff_not, callV_fn (g := 10) (by decide), K10 h10, hl]
theorem K43 {I : Nat → Option (List AV → AH → Rs)} (h10 : I 10 = some (pureG g10)) (h43 : I 43 = none) (m : Nat) (s : List UInt8) (h : AH) (hl : s.length < 140737488355328) : call F I T (m + 2) 43 [.str s] h = some (.bool (!isLong s), h) := by
  rw [call_F (by decide) h43 F43 rfl R43]; simp only [Tryd.f43, Option.getD]
  simp +contextual (maxSteps := 3000000) only [↓code_skip, ↓code_seq, ↓code_region, ↓code_cond, ↓code_block, ↓code_scope, ↓code_label, ↓code_loop, ↓code_exit, ↓code_ret, aCond_bool, ↓ops_nil, ↓ops_cons, run_none, run_someT, run_someF, run_tup, ↓run0_v, ↓run0_h, ↓run0_r, ↓seqK_normal, ↓seqK_exit, ↓seqK_ret, ↓blkK_normal, ↓blkK_ret, ↓blkK_exit, ↓retK_normal, ↓retK_ret, put_same, put_ne, put_none, env0_at, ev_tmp, ev_const, ev_func, oc_int, oc_bool, oc_str, oc_nils, oc_nilp, oc_nilf, oc_nilm, o_move, o_assign, o_pick, o_bin, o_call, o_len, o_alloc, o_box, o_build, o_buildSlice, o_load, o_store, o_nilCheck, o_un, o_convert, o_makeFunc, o_makeSlice, o_slice, o_fieldAddr, o_field, o_indexAddr, o_index, o_extract, o_append, o_min, o_max, g_none, g_some, pick_bool, bin_add, bin_sub, bin_mul, bin_quo, bin_rem, bin_eql, bin_neq, bin_or, bin_and, bin_lss, bin_leq, bin_gtr, bin_geq, bin_shr, bin_shl, str_add, str_eql, str_neq, un_not, extract_tup, nil_ptr, nil_fp, part_1, part_A, next_e0, next_one, get_e0, resultsOf, oneOrAll, Option.bind_some, Option.map_some, Option.map_none, Option.getD_some, decide_eq_true_eq, ↓reduceIte, Nat.reduceEqDiff, not_false_eq_true, not_true_eq_false, Nat.reduceAdd, Nat.reduceMul, reduceCtorEq, if_true, if_false, Nat.succ_ne_self, List.getElem?_cons_zero, List.getElem?_cons_succ, List.getElem?_toArray, Bool.false_eq_true, Bool.true_eq_false, List.map_cons, List.map_nil, List.append_nil, List.nil_append, List.cons_append, AH.get_alloc, AH.get_put, AH.next_alloc, AH.next_put, ite_self, true_and, and_true, Nat.reduceLeDiff, Nat.le_refl, gt_iff_lt, ge_iff_le, Bool.not_eq_true', Bool.not_eq_eq_eq_not, Bool.not_true, Bool.not_false, Bool.not_eq_false', Bool.not_not, beq_iff_eq, bne_iff_ne, ne_eq, decide_eq_false_iff_not, callV_fn (g := 10) (by decide), K10 h10, hl]
theorem K35 {I : Nat → Option (List AV → AH → Rs)} (h36 : I 36 = some (pureG g36)) (h35 : I 35 = none) (m : Nat) (t s : List UInt8) (h : AH) (hl : t.length < 140737488355328) (hl2 : s.length < 140737488355328) : call F I T (m + 2) 35 [.str t, .fp [.str s]] h = some (.bool (equal s t), h) := by
  rw [call_F (by decide) h35 F35 rfl R35]; simp only [Tryd.f35, Option.getD]
  simp +contextual (maxSteps := 3000000) only [↓code_skip, ↓code_seq, ↓code_region, ↓code_cond, ↓code_block, ↓code_scope, ↓code_label, ↓code_loop, ↓code_exit, ↓code_ret, aCond_bool, ↓ops_nil, ↓ops_cons, run_none, run_someT, run_someF, run_tup, ↓run0_v, ↓run0_h, ↓run0_r, ↓seqK_normal, ↓seqK_exit, ↓seqK_ret, ↓blkK_normal, ↓blkK_ret, ↓blkK_exit, ↓retK_normal, ↓retK_ret, put_same, put_ne, put_none, env0_at, ev_tmp, ev_const, ev_func, oc_int, oc_bool, oc_str, oc_nils, oc_nilp, oc_nilf, oc_nilm, o_move, o_assign, o_pick, o_bin, o_call, o_len, o_alloc, o_box, o_build, o_buildSlice, o_load, o_store, o_nilCheck, o_un, o_convert, o_makeFunc, o_makeSlice, o_slice, o_fieldAddr, o_field, o_indexAddr, o_index, o_extract, o_append, o_min, o_max, g_none, g_some, pick_bool, bin_add, bin_sub, bin_mul, bin_quo, bin_rem, bin_eql, bin_neq, bin_or, bin_and, bin_lss, bin_leq, bin_gtr, bin_geq, bin_shr, bin_shl, str_add, str_eql, str_neq, un_not, extract_tup, nil_ptr, nil_fp, part_1, part_A, next_e0, next_one, get_e0, resultsOf, oneOrAll, Option.bind_some, Option.map_some, Option.map_none, Option.getD_some, decide_eq_true_eq, ↓reduceIte, Nat.reduceEqDiff, not_false_eq_true, not_true_eq_false, Nat.reduceAdd, Nat.reduceMul, reduceCtorEq, if_true, if_false, Nat.succ_ne_self, List.getElem?_cons_zero, List.getElem?_cons_succ, List.getElem?_toArray, Bool.false_eq_true, Bool.true_eq_false, List.map_cons, List.map_nil, List.append_nil, List.nil_append, List.cons_append, AH.get_alloc, AH.get_put, AH.next_alloc, AH.next_put, ite_self, true_and, and_true, Nat.reduceLeDiff, Nat.le_refl, gt_iff_lt, ge_iff_le, Bool.not_eq_true', Bool.not_eq_eq_eq_not, Bool.not_true, Bool.not_false, Bool.not_eq_false', Bool.not_not, beq_iff_eq, bne_iff_ne, ne_eq, decide_eq_false_iff_not, load_fp1 T9 a9, load_p1 T9 a9, loadc_def, callV_fn (g := 36) (by decide), K36 h36, hl, hl2]
theorem K45 {I : Nat → Option (List AV → AH → Rs)} (h36 : I 36 = some (pureG g36)) (h45 : I 45 = none) (m : Nat) (t s : List UInt8) (h : AH) (hl : t.length < 140737488355328) (hl2 : s.length < 140737488355328) : call F I T (m + 2) 45 [.str t, .fp [.str s]] h = some (.bool (equal t s), h) := by
  rw [call_F (by decide) h45 F45 rfl R45]; simp only [Tryd.f45, Option.getD]
  simp +contextual (maxSteps := 3000000) only [↓code_skip, ↓code_seq, ↓code_region, ↓code_cond, ↓code_block, ↓code_scope, ↓code_label, ↓code_loop, ↓code_exit, ↓code_ret, aCond_bool, ↓ops_nil, ↓ops_cons, run_none, run_someT, run_someF, run_tup, ↓run0_v, ↓run0_h, ↓run0_r, ↓seqK_normal, ↓seqK_exit, ↓seqK_ret, ↓blkK_normal, ↓blkK_ret, ↓blkK_exit, ↓retK_normal, ↓retK_ret, put_same, put_ne, put_none, env0_at, ev_tmp, ev_const, ev_func, oc_int, oc_bool, oc_str, oc_nils, oc_nilp, oc_nilf, oc_nilm, o_move, o_assign, o_pick, o_bin, o_call, o_len, o_alloc, o_box, o_build, o_buildSlice, o_load, o_store, o_nilCheck, o_un, o_convert, o_makeFunc, o_makeSlice, o_slice, o_fieldAddr, o_field, o_indexAddr, o_index, o_extract, o_append, o_min, o_max, g_none, g_some, pick_bool, bin_add, bin_sub, bin_mul, bin_quo, bin_rem, bin_eql, bin_neq, bin_or, bin_and, bin_lss, bin_leq, bin_gtr, bin_geq, bin_shr, bin_shl, str_add, str_eql, str_neq, un_not, extract_tup, nil_ptr, nil_fp, part_1, part_A, next_e0, next_one, get_e0, resultsOf, oneOrAll, Option.bind_some, Option.map_some, Option.map_none, Option.getD_some, decide_eq_true_eq, ↓reduceIte, Nat.reduceEqDiff, not_false_eq_true, not_true_eq_false, Nat.reduceAdd, Nat.reduceMul, reduceCtorEq, if_true, if_false, Nat.succ_ne_self, List.getElem?_cons_zero, List.getElem?_cons_succ, List.getElem?_toArray, Bool.false_eq_true, Bool.true_eq_false, List.map_cons, List.map_nil, List.append_nil, List.nil_append, List.cons_append, AH.get_alloc, AH.get_put, AH.next_alloc, AH.next_put, ite_self, true_and, and_true, Nat.reduceLeDiff, Nat.le_refl, gt_iff_lt, ge_iff_le, Bool.not_eq_true', Bool.not_eq_eq_eq_not, Bool.not_true, Bool.not_false, Bool.not_eq_false', Bool.not_not, beq_iff_eq, bne_iff_ne, ne_eq, decide_eq_false_iff_not, load_fp1 T9 a9, load_p1 T9 a9, loadc_def, callV_fn (g := 36) (by decide), K36 h36, hl, hl2]
inductive Clo where
  | notShort | notLong | notLong2 | eqA (s : List UInt8) | eqB (s : List UInt8)
def Clo.p : Clo → List UInt8 → Bool
  | .notShort, x => !isShort x
  | .notLong, x => !isLong x
  | .notLong2, x => !isLong x
  | .eqA s, x => equal s x
  | .eqB s, x => equal x s
def Clo.ok : Clo → Prop
  | .eqA s => s.length < 140737488355328
  | .eqB s => s.length < 140737488355328
  | _ => True
def dClo : AV → Option Clo
  | .fn 32 [] [] => some .notShort
  | .fn 37 [] [] => some .notLong
  | .fn 43 [] [] => some .notLong2
  | .fn 35 [] [.fp [.str s]] => some (.eqA s)
  | .fn 45 [] [.fp [.str s]] => some (.eqB s)
  | _ => none
def vClo : View Clo where
  enc c := match c with
    | .notShort => .fn 32 [] []
    | .notLong => .fn 37 [] []
    | .notLong2 => .fn 43 [] []
    | .eqA s => .fn 35 [] [.fp [.str s]]
    | .eqB s => .fn 45 [] [.fp [.str s]]
  dec := dClo
  law a x h := by
    unfold dClo at h
    split at h <;> first | (cases h; exact Wk.refl _) | cases h
  flat c := by cases c <;> rfl
theorem vClo_dec (c : Clo) : vClo.dec (vClo.enc c) = some c := by cases c <;> rfl
noncomputable def g31 := open Classical in G2 (vList vStr) vClo fun l c => if small l ∧ c.ok then some (.bool (l.any c.p)) else none
theorem run31 {I : Nat → Option (List AV → AH → Rs)} (h58 : I 58 = none) (h31 : I 31 = none) (h12 : I 12 = some (pureG g12)) (h10 : I 10 = some (pureG g10)) (h36 : I 36 = some (pureG g36)) (h32 : I 32 = none) (h37 : I 37 = none) (h43 : I 43 = none) (h35 : I 35 = none) (h45 : I 45 = none) (l : List (List UInt8)) (c : Clo) (m : Nat) (hl : small l) (hc : c.ok) :
    ∃ h', call F I T (l.length + m + 4) 31 [.lst false 1 l.length (l.map .str), vClo.enc c] e0 = some (.bool (l.any c.p), h') := by
  have hp : ∀ x k, x ∈ l → callV (call F I T (k + 2)) (vClo.enc c) [.str x] e0 = some (.bool (c.p x), e0) := by
    intro x k hx
    have hb := hl.2 x hx
    cases c with
    | notShort => show callV _ (.fn 32 [] []) _ _ = _; rw [callV_fn (by decide)]; exact K32 h12 h32 k x e0 (by omega)
    | notLong => show callV _ (.fn 37 [] []) _ _ = _; rw [callV_fn (by decide)]; exact K37 h10 h37 k x e0 (by omega)
    | notLong2 => show callV _ (.fn 43 [] []) _ _ = _; rw [callV_fn (by decide)]; exact K43 h10 h43 k x e0 (by omega)
    | eqA s => show callV _ (.fn 35 [] [.fp [.str s]]) _ _ = _; rw [callV_fn (by decide)]; exact K35 h36 h35 k x s e0 (by omega) hc
    | eqB s => show callV _ (.fn 45 [] [.fp [.str s]]) _ _ = _; rw [callV_fn (by decide)]; exact K45 h36 h45 k x s e0 (by omega) hc
  rw [call_F (by decide) h31 F31 rfl R31]; simp only [Tryd.f31, Option.getD]
  have c1 := run58 h58 l c.p (vClo.enc c) m e0 hl.1 hp
  simp +contextual (maxSteps := 3000000) only [↓code_skip, ↓code_seq, ↓code_region, ↓code_cond, ↓code_block, ↓code_scope, ↓code_label, ↓code_loop, ↓code_exit, ↓code_ret, aCond_bool, ↓ops_nil, ↓ops_cons, run_none, run_someT, run_someF, run_tup, ↓run0_v, ↓run0_h, ↓run0_r, ↓seqK_normal, ↓seqK_exit, ↓seqK_ret, ↓blkK_normal, ↓blkK_ret, ↓blkK_exit, ↓retK_normal, ↓retK_ret, put_same, put_ne, put_none, env0_at, ev_tmp, ev_const, ev_func, oc_int, oc_bool, oc_str, oc_nils, oc_nilp, oc_nilf, oc_nilm, o_move, o_assign, o_pick, o_bin, o_call, o_len, o_alloc, o_box, o_build, o_buildSlice, o_load, o_store, o_nilCheck, o_un, o_convert, o_makeFunc, o_makeSlice, o_slice, o_fieldAddr, o_field, o_indexAddr, o_index, o_extract, o_append, o_min, o_max, g_none, g_some, pick_bool, bin_add, bin_sub, bin_mul, bin_quo, bin_rem, bin_eql, bin_neq, bin_or, bin_and, bin_lss, bin_leq, bin_gtr, bin_geq, bin_shr, bin_shl, str_add, str_eql, str_neq, un_not, extract_tup, nil_ptr, nil_fp, part_1, part_A, next_e0, next_one, get_e0, resultsOf, oneOrAll, Option.bind_some, Option.map_some, Option.map_none, Option.getD_some, decide_eq_true_eq, ↓reduceIte, Nat.reduceEqDiff, not_false_eq_true, not_true_eq_false, Nat.reduceAdd, Nat.reduceMul, reduceCtorEq, if_true, if_false, Nat.succ_ne_self, List.getElem?_cons_zero, List.getElem?_cons_succ, List.getElem?_toArray, Bool.false_eq_true, Bool.true_eq_false, List.map_cons, List.map_nil, List.append_nil, List.nil_append, List.cons_append, AH.get_alloc, AH.get_put, AH.next_alloc, AH.next_put, ite_self, true_and, and_true, Nat.reduceLeDiff, Nat.le_refl, gt_iff_lt, ge_iff_le, Bool.not_eq_true', Bool.not_eq_eq_eq_not, Bool.not_true, Bool.not_false, Bool.not_eq_false', Bool.not_not, beq_iff_eq, bne_iff_ne, ne_eq, decide_eq_false_iff_not, callV_fn (g := 58) (by decide), c1, idxAt_nonneg, Bool.decide_eq_true]
  exact ⟨_, rfl⟩
theorem K31g {I : Nat → Option (List AV → AH → Rs)} (h31 : I 31 = some (pureG g31)) (m : Nat) (v : AV) (l : List (List UInt8)) (c : Clo) (h : AH) (hd : (vList vStr).dec v = some l) (hf : v.flat = true) (hl : small l) (hc : c.ok) : call F I T (m + 1) 31 [v, vClo.enc c] h = some (.bool (l.any c.p), h) := by
  rw [call_I (by decide) h31]
  refine pureG_flat (by have := vClo.flat c; simp [flatL, hf, this]) ?_
  show ((vList vStr).dec v).bind (fun x => (vClo.dec (vClo.enc c)).bind fun y => _) = _
  rw [hd, vClo_dec]
  simp [hl, hc]
theorem K31 {I : Nat → Option (List AV → AH → Rs)} (h31 : I 31 = some (pureG g31)) (m : Nat) (l : List (List UInt8)) (ex : Bool) (h : AH) (hl : small l) : call F I T (m + 1) 31 [.lst ex 1 l.length (l.map .str), .fn 32 [] []] h = some (.bool (l.any (!isShort ·)), h) :=
  K31g h31 m _ l .notShort h (vList_dec dStr_enc ex l) (by have h1 : flatL (l.map AV.str) = true := flatL_map (fun _ => rfl) l; simp [AV.flat, h1]) hl trivial
theorem awake9 : isT (call F N1 T 300 9 [] e0) = true := by kernel_rfl
end Go.AM.X
