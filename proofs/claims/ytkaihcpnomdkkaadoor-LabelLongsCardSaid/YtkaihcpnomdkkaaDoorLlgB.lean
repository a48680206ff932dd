/- Patterns and what they fit: contracts. Own work. -/
import Derived.Test.YtkaihcpnomdkkaaDoorLlgA
import Derived.Test.YtkaihcpnomdkkaaDoorAmIx
import Derived.Lib.Strings
import Derived.Lib.Slices
import Derived.Lib.Walk
import Derived.Lib.IndexLaws
import Derived.Lib.IndexAny
namespace Go.Proofs
set_option maxHeartbeats 1000000 in
set_option maxRecDepth 100000 in
theorem IxCalls (s : ByteArray) (c : Int) (w : World) :
    Calls Tryd.prog 98 #[.string s, .int .u8 c] w fun e w' => e = .returned (.int .i64 (Lib.indexByte s.data.toList c.toNat.toUInt8)) ∧ w' = w := by
  go_enter Tryd.func98, Tryd.ntmps98
  go_wp2
  rw [run_callFunc_extern Tryd.func112 (by kernel_rfl) (by kernel_rfl) (by kernel_rfl) (e := Extern.BytealgIndexByte.indexByte) (by kernel_rfl), Lib.run_indexByteString]
  simp only [Result.andThen]
  rw [Oper.upon_value]
  go_wp2
  go_ret
  exact ⟨rfl, rfl⟩
end Go.Proofs
namespace Go.AM.X
open Go Go.AM Go.Proofs Go.AM.Sx
set_option maxHeartbeats 800000
set_option maxRecDepth 100000
set_option linter.unusedSimpArgs false
set_option linter.unusedVariables false
theorem F94 : F 94 = some { body := (Tryd.f94.body.getD .skip), results := Tryd.f94.results.toList, rf := false } := by kernel_rfl
theorem R94 : regsOk T (Tryd.f94.body.getD .skip) = true := by kernel_rfl
theorem K98 {I : Nat → Option (List AV → AH → Rs)} (h98 : I 98 = some ixG) (m : Nat) (s : List UInt8) (c : Int) (h : AH) : call F I T (m + 1) 98 [.str s, .int .u8 c] h = some (.int .i64 (Lib.indexByte s c.toNat.toUInt8), h) := by
  rw [call_I (by decide) h98]; rfl
end Go.AM.X
namespace Go.AM.X
open Go Go.AM Go.Proofs Go.AM.Sx
set_option maxHeartbeats 800000
set_option maxRecDepth 100000
set_option linter.unusedSimpArgs false
set_option linter.unusedVariables false
/-- The only place of the byte 46. -/
theorem K94 {I : Nat → Option (List AV → AH → Rs)} (h98 : I 98 = some ixG) (h94 : I 94 = none) (m : Nat) (s : List UInt8) (c : Int) (h : AH) : call F I T (m + 2) 94 [.str s, .int .u8 c] h = some (.int .i64 (Lib.indexByte s c.toNat.toUInt8), h) := by
  rw [call_F (by decide) h94 F94 rfl R94]; simp only [Tryd.f94, Option.getD]
  simp +contextual (maxSteps := 3000000) only [↓code_skip, ↓code_seq, ↓code_region, ↓code_cond, ↓code_block, ↓code_scope, ↓code_label, ↓code_loop, ↓code_exit, ↓code_ret, aCond_bool, ↓ops_nil, ↓ops_cons, run_none, run_someT, run_someF, run_tup, ↓run0_v, ↓run0_h, ↓run0_r, ↓seqK_normal, ↓seqK_exit, ↓seqK_ret, ↓blkK_normal, ↓blkK_ret, ↓blkK_exit, ↓retK_normal, ↓retK_ret, put_same, put_ne, put_none, env0_at, ev_tmp, ev_const, ev_func, oc_int, oc_bool, oc_str, oc_nils, oc_nilp, oc_nilf, oc_nilm, o_move, o_assign, o_pick, o_bin, o_call, o_len, o_alloc, o_box, o_build, o_buildSlice, o_load, o_store, o_nilCheck, o_un, o_convert, o_makeFunc, o_makeSlice, o_slice, o_fieldAddr, o_field, o_indexAddr, o_index, o_extract, o_append, o_min, o_max, g_none, g_some, pick_bool, bin_add, bin_sub, bin_mul, bin_quo, bin_rem, bin_eql, bin_neq, bin_or, bin_and, bin_lss, bin_leq, bin_gtr, bin_geq, bin_shr, bin_shl, str_add, str_eql, str_neq, un_not, extract_tup, nil_ptr, nil_fp, part_1, part_A, next_e0, next_one, get_e0, resultsOf, oneOrAll, Option.bind_some, Option.map_some, Option.map_none, Option.getD_some, decide_eq_true_eq, ↓reduceIte, Nat.reduceEqDiff, not_false_eq_true, not_true_eq_false, Nat.reduceAdd, Nat.reduceMul, reduceCtorEq, if_true, if_false, Nat.succ_ne_self, List.getElem?_cons_zero, List.getElem?_cons_succ, List.getElem?_toArray, Bool.false_eq_true, Bool.true_eq_false, List.map_cons, List.map_nil, List.append_nil, List.nil_append, List.cons_append, AH.get_alloc, AH.get_put, AH.next_alloc, AH.next_put, ite_self, true_and, and_true, Nat.reduceLeDiff, Nat.le_refl, gt_iff_lt, ge_iff_le, Bool.not_eq_true', Bool.not_eq_eq_eq_not, Bool.not_true, Bool.not_false, Bool.not_eq_false', Bool.not_not, beq_iff_eq, bne_iff_ne, ne_eq, decide_eq_false_iff_not, callV_fn (g := 98) (by decide), K98 h98]
theorem byte_lt (c : UInt8) : c.toNat < 256 := c.toNat_lt
noncomputable def N1 := addI noI 98 ixG
theorem E1 : IAgree Tryd.prog N1 := by
  obtain ⟨fi, hfi⟩ : ∃ fi, F 98 = some fi := Option.isSome_iff_exists.1 (by kernel_rfl)
  exact ix_agree hF (noI_agree _) fi hfi IxCalls
end Go.AM.X
namespace Go.AM.X
open Go Go.AM Go.Proofs Go.AM.Sx
set_option maxHeartbeats 1600000
set_option maxRecDepth 100000
set_option linter.unusedSimpArgs false
set_option linter.unusedVariables false
noncomputable def tt21 : TI := (T 21).getD ⟨.bool, 0, 0, [], false, [], []⟩
theorem T21 : T 21 = some tt21 := by kernel_rfl
theorem d21 : tt21.desc = .int .i32 := by kernel_rfl
noncomputable def tt76 : TI := (T 76).getD ⟨.bool, 0, 0, [], false, [], []⟩
theorem T76 : T 76 = some tt76 := by kernel_rfl
theorem d76 : tt76.desc = .array 256 4 := by kernel_rfl
theorem s76 : tt76.size = 256 := by kernel_rfl
theorem F95 : F 95 = some { body := (Tryd.f95.body.getD .skip), results := Tryd.f95.results.toList, rf := false } := by kernel_rfl
theorem R95 : regsOk T (Tryd.f95.body.getD .skip) = true := by kernel_rfl
theorem F74 : F 74 = some { body := (Tryd.f74.body.getD .skip), results := Tryd.f74.results.toList, rf := false } := by kernel_rfl
theorem R74 : regsOk T (Tryd.f74.body.getD .skip) = true := by kernel_rfl
theorem F76 : F 76 = some { body := (Tryd.f76.body.getD .skip), results := Tryd.f76.results.toList, rf := false } := by kernel_rfl
theorem F77 : F 77 = some { body := (Tryd.f77.body.getD .skip), results := Tryd.f77.results.toList, rf := false } := by kernel_rfl
theorem R77 : regsOk T (Tryd.f77.body.getD .skip) = true := by kernel_rfl
theorem F78 : F 78 = some { body := (Tryd.f78.body.getD .skip), results := Tryd.f78.results.toList, rf := false } := by kernel_rfl
theorem R78 : regsOk T (Tryd.f78.body.getD .skip) = true := by kernel_rfl
theorem F50 : F 50 = some { body := (Tryd.f50.body.getD .skip), results := Tryd.f50.results.toList, rf := false } := by kernel_rfl
theorem R50 : regsOk T (Tryd.f50.body.getD .skip) = true := by kernel_rfl
theorem F51 : F 51 = some { body := (Tryd.f51.body.getD .skip), results := Tryd.f51.results.toList, rf := false } := by kernel_rfl
theorem R51 : regsOk T (Tryd.f51.body.getD .skip) = true := by kernel_rfl
theorem F26 : F 26 = some { body := (Tryd.f26.body.getD .skip), results := Tryd.f26.results.toList, rf := false } := by kernel_rfl
theorem R26 : regsOk T (Tryd.f26.body.getD .skip) = true := by kernel_rfl
theorem F27 : F 27 = some { body := (Tryd.f27.body.getD .skip), results := Tryd.f27.results.toList, rf := false } := by kernel_rfl
theorem R27 : regsOk T (Tryd.f27.body.getD .skip) = true := by kernel_rfl
theorem o_range {C : Cf} {T : TT} {e : Env} {h : AH} {dst : Option Nat} {type : Nat} {pos : String} {after : Array Edge} {guard : Option (Nat × Bool)} {t : Nat} {x : Operand} : outOf C T ⟨dst, .range t x, type, pos, after, guard⟩ e h = .r (aRange T t (ev e x) h) := (rfl)
theorem o_next {C : Cf} {T : TT} {e : Env} {h : AH} {dst : Option Nat} {type : Nat} {pos : String} {after : Array Edge} {guard : Option (Nat × Bool)} {x : Operand} {s : Bool} : outOf C T ⟨dst, .next x s, type, pos, after, guard⟩ e h = .r (aNext (ev e x) s h) := (rfl)
theorem rng_str {T : TT} {t : Nat} {ti : TI} {s : List UInt8} {h : AH} (ht : T t = some ti) (hd : ti.desc = .string) : aRange T t (.str s) h = some (.ptr h.next 0, h.alloc (.iter s 0)) := by simp [aRange, ht, hd]
theorem nxt_more {b pos : Nat} {s : List UInt8} {h : AH} (hb : h.get b = some (.iter s pos)) (hp : pos < s.length) : aNext (.ptr b 0) true h = some (.tup [.bool true, .int .i64 (pos : Nat), .int .i32 ((Utf8.decode ⟨⟨s⟩⟩ pos).1 : Nat)], h.put b (.iter s (pos + (Utf8.decode ⟨⟨s⟩⟩ pos).2))) := by
  simp only [aNext, hb]; rw [if_pos hp]
theorem nxt_end {b pos : Nat} {s : List UInt8} {h : AH} (hb : h.get b = some (.iter s pos)) (hp : ¬ pos < s.length) : aNext (.ptr b 0) true h = some (.tup [.bool false], h) := by
  simp only [aNext, hb]; rw [if_neg hp]
def okRune (r : Int) : Prop := 0 ≤ r ∧ Utf8.valid r = true
theorem valid_iff {r : Int} : Utf8.valid r = true ↔ (0 ≤ r ∧ r < 55296) ∨ (57344 ≤ r ∧ r ≤ 1114111) := by
  simp [Utf8.valid]
theorem K95 {I : Nat → Option (List AV → AH → Rs)} (h95 : I 95 = none) (m : Nat) (r : Int) (h : AH) (hr : okRune r) : call F I T (m + 1) 95 [.int .i32 r] h = some (.bool true, h) := by
  have hv := valid_iff.1 hr.2
  rw [call_F (by decide) h95 F95 rfl R95]; simp only [Tryd.f95, Option.getD]
  by_cases q : r < 55296
  · have c1 : (0 : Int) ≤ r := hr.1
    simp +contextual (maxSteps := 3000000) only [↓code_skip, ↓code_seq, ↓code_region, ↓code_cond, ↓code_block, ↓code_scope, ↓code_label, ↓code_loop, ↓code_exit, ↓code_ret, aCond_bool, ↓ops_nil, ↓ops_cons, run_none, run_someT, run_someF, run_tup, ↓run0_v, ↓run0_h, ↓run0_r, ↓seqK_normal, ↓seqK_exit, ↓seqK_ret, ↓blkK_normal, ↓blkK_ret, ↓blkK_exit, ↓retK_normal, ↓retK_ret, put_same, put_ne, put_none, env0_at, ev_tmp, ev_const, ev_func, oc_int, oc_bool, oc_str, oc_nils, oc_nilp, oc_nilf, oc_nilm, o_move, o_assign, o_pick, o_bin, o_call, o_len, o_alloc, o_box, o_build, o_buildSlice, o_load, o_store, o_nilCheck, o_un, o_convert, o_makeFunc, o_makeSlice, o_slice, o_fieldAddr, o_field, o_indexAddr, o_index, o_extract, o_append, o_min, o_max, g_none, g_some, pick_bool, bin_add, bin_sub, bin_mul, bin_quo, bin_rem, bin_eql, bin_neq, bin_or, bin_and, bin_lss, bin_leq, bin_gtr, bin_geq, bin_shr, bin_shl, str_add, str_eql, str_neq, un_not, extract_tup, nil_ptr, nil_fp, part_1, part_A, next_e0, next_one, get_e0, resultsOf, oneOrAll, Option.bind_some, Option.map_some, Option.map_none, Option.getD_some, decide_eq_true_eq, ↓reduceIte, Nat.reduceEqDiff, not_false_eq_true, not_true_eq_false, Nat.reduceAdd, Nat.reduceMul, reduceCtorEq, if_true, if_false, Nat.succ_ne_self, List.getElem?_cons_zero, List.getElem?_cons_succ, List.getElem?_toArray, Bool.false_eq_true, Bool.true_eq_false, List.map_cons, List.map_nil, List.append_nil, List.nil_append, List.cons_append, AH.get_alloc, AH.get_put, AH.next_alloc, AH.next_put, ite_self, true_and, and_true, Nat.reduceLeDiff, Nat.le_refl, gt_iff_lt, ge_iff_le, Bool.not_eq_true', Bool.not_eq_eq_eq_not, Bool.not_true, Bool.not_false, Bool.not_eq_false', Bool.not_not, beq_iff_eq, bne_iff_ne, ne_eq, decide_eq_false_iff_not, q, c1]
  · have c1 : (0 : Int) ≤ r := hr.1
    have c2 : (57343 : Int) < r := by omega
    have c3 : r ≤ 1114111 := by omega
    simp +contextual (maxSteps := 3000000) only [↓code_skip, ↓code_seq, ↓code_region, ↓code_cond, ↓code_block, ↓code_scope, ↓code_label, ↓code_loop, ↓code_exit, ↓code_ret, aCond_bool, ↓ops_nil, ↓ops_cons, run_none, run_someT, run_someF, run_tup, ↓run0_v, ↓run0_h, ↓run0_r, ↓seqK_normal, ↓seqK_exit, ↓seqK_ret, ↓blkK_normal, ↓blkK_ret, ↓blkK_exit, ↓retK_normal, ↓retK_ret, put_same, put_ne, put_none, env0_at, ev_tmp, ev_const, ev_func, oc_int, oc_bool, oc_str, oc_nils, oc_nilp, oc_nilf, oc_nilm, o_move, o_assign, o_pick, o_bin, o_call, o_len, o_alloc, o_box, o_build, o_buildSlice, o_load, o_store, o_nilCheck, o_un, o_convert, o_makeFunc, o_makeSlice, o_slice, o_fieldAddr, o_field, o_indexAddr, o_index, o_extract, o_append, o_min, o_max, g_none, g_some, pick_bool, bin_add, bin_sub, bin_mul, bin_quo, bin_rem, bin_eql, bin_neq, bin_or, bin_and, bin_lss, bin_leq, bin_gtr, bin_geq, bin_shr, bin_shl, str_add, str_eql, str_neq, un_not, extract_tup, nil_ptr, nil_fp, part_1, part_A, next_e0, next_one, get_e0, resultsOf, oneOrAll, Option.bind_some, Option.map_some, Option.map_none, Option.getD_some, decide_eq_true_eq, ↓reduceIte, Nat.reduceEqDiff, not_false_eq_true, not_true_eq_false, Nat.reduceAdd, Nat.reduceMul, reduceCtorEq, if_true, if_false, Nat.succ_ne_self, List.getElem?_cons_zero, List.getElem?_cons_succ, List.getElem?_toArray, Bool.false_eq_true, Bool.true_eq_false, List.map_cons, List.map_nil, List.append_nil, List.nil_append, List.cons_append, AH.get_alloc, AH.get_put, AH.next_alloc, AH.next_put, ite_self, true_and, and_true, Nat.reduceLeDiff, Nat.le_refl, gt_iff_lt, ge_iff_le, Bool.not_eq_true', Bool.not_eq_eq_eq_not, Bool.not_true, Bool.not_false, Bool.not_eq_false', Bool.not_not, beq_iff_eq, bne_iff_ne, ne_eq, decide_eq_false_iff_not, q, c1, c2, c3]
/-- Where a rune is among the marks. -/
def markI (r : Int) : Int := if r = 0 then 0 else if r = 58 then 1 else -1
theorem enc_cases {r : Int} (hr : okRune r) (h1 : 128 ≤ r) :
    (∃ x y, (Utf8.encode r).data.toList = [x, y] ∧ 128 ≤ y.toNat) ∨ (∃ x y z, (Utf8.encode r).data.toList = [x, y, z]) ∨ (∃ x y z u, (Utf8.encode r).data.toList = [x, y, z, u]) := by
  unfold Utf8.encode
  rw [hr.2]
  simp only [if_true]
  rw [if_neg (by omega)]
  split
  · refine .inl ⟨_, _, rfl, ?_⟩
    have : (UInt8.ofNat (128 + r.toNat % 64)).toNat = 128 + r.toNat % 64 := by simp; omega
    rw [this]; omega
  · split
    · exact .inr (.inl ⟨_, _, _, rfl⟩)
    · exact .inr (.inr ⟨_, _, _, _, rfl⟩)
theorem conv_rune {T : TT} {s d : Nat} {ts td : TI} {k : IntKind} {r : Int} {k' : IntKind} {h : AH} (hs : T s = some ts) (hd : T d = some td) (he : td.desc = .string) (hf : ts.desc = .int k) : aConv T s d (.int k' r) h = some (.str (Utf8.encode r).data.toList, h) := by
  simp [aConv, hs, hd, he, hf]
def loopU (k : Nat) (f : Env → AH → Kt → Rs) (K : Kt) : Kt := fun ex e h => match ex with
  | .normal => iterL k f e h K
  | ex => K ex e h
theorem iterL_u {k : Nat} {f : Env → AH → Kt → Rs} {e : Env} {h : AH} {K : Kt} : iterL (k + 1) f e h K = f e h (loopU k f K) := (rfl)
theorem loopU_normal {k : Nat} {f : Env → AH → Kt → Rs} {e : Env} {h : AH} {K : Kt} : loopU k f K .normal e h = iterL k f e h K := (rfl)
theorem loopU_exit {k i : Nat} {f : Env → AH → Kt → Rs} {e : Env} {h : AH} {K : Kt} : loopU k f K (.exit i) e h = K (.exit i) e h := (rfl)
theorem loopU_ret {k : Nat} {f : Env → AH → Kt → Rs} {e : Env} {h : AH} {K : Kt} : loopU k f K .ret e h = K .ret e h := (rfl)
theorem mark_small : ∀ k : Fin 128, Lib.indexByte [0, 58] (k.val.toUInt8) = markI ((k.val : Nat) : Int) := by decide
theorem mark_byte {r : Int} (h0 : 0 ≤ r) (h1 : r < 128) : Lib.indexByte [0, 58] (r.toNat.toUInt8) = markI r := by
  have := mark_small ⟨r.toNat, by omega⟩
  simp only at this
  rw [this, show ((r.toNat : Nat) : Int) = r by omega]
noncomputable def g74 := open Classical in G2 vStr (vInt .i32) fun s r => if s = [0, 58] ∧ okRune r then some (.int .i64 (markI r)) else none
theorem run74 {I : Nat → Option (List AV → AH → Rs)} (h98 : I 98 = some ixG) (h94 : I 94 = none) (h95 : I 95 = none) (h96 : I 96 = none) (h97 : I 97 = none) (h74 : I 74 = none) (r : Int) (m : Nat) (hr : okRune r) : ∃ h', call F I T (m + 9) 74 [.str [0, 58], .int .i32 r] e0 = some (.int .i64 (markI r), h') := by
  have q0 : (0 : Int) ≤ r := hr.1
  have hv := valid_iff.1 hr.2
  rw [call_F (by decide) h74 F74 rfl R74]; simp only [Tryd.f74, Option.getD]
  by_cases q1 : r < 128
  · have c1 : IntKind.u8.wrap r = r := wrap_u8 (by omega) (by omega)
    have c2 := mark_byte q0 q1
    simp +contextual (maxSteps := 3000000) only [↓code_skip, ↓code_seq, ↓code_region, ↓code_cond, ↓code_block, ↓code_scope, ↓code_label, ↓code_loop, ↓code_exit, ↓code_ret, aCond_bool, ↓ops_nil, ↓ops_cons, run_none, run_someT, run_someF, run_tup, ↓run0_v, ↓run0_h, ↓run0_r, ↓seqK_normal, ↓seqK_exit, ↓seqK_ret, ↓blkK_normal, ↓blkK_ret, ↓blkK_exit, ↓retK_normal, ↓retK_ret, put_same, put_ne, put_none, env0_at, ev_tmp, ev_const, ev_func, oc_int, oc_bool, oc_str, oc_nils, oc_nilp, oc_nilf, oc_nilm, o_move, o_assign, o_pick, o_bin, o_call, o_len, o_alloc, o_box, o_build, o_buildSlice, o_load, o_store, o_nilCheck, o_un, o_convert, o_makeFunc, o_makeSlice, o_slice, o_fieldAddr, o_field, o_indexAddr, o_index, o_extract, o_append, o_min, o_max, g_none, g_some, pick_bool, bin_add, bin_sub, bin_mul, bin_quo, bin_rem, bin_eql, bin_neq, bin_or, bin_and, bin_lss, bin_leq, bin_gtr, bin_geq, bin_shr, bin_shl, str_add, str_eql, str_neq, un_not, extract_tup, nil_ptr, nil_fp, part_1, part_A, next_e0, next_one, get_e0, resultsOf, oneOrAll, Option.bind_some, Option.map_some, Option.map_none, Option.getD_some, decide_eq_true_eq, ↓reduceIte, Nat.reduceEqDiff, not_false_eq_true, not_true_eq_false, Nat.reduceAdd, Nat.reduceMul, reduceCtorEq, if_true, if_false, Nat.succ_ne_self, List.getElem?_cons_zero, List.getElem?_cons_succ, List.getElem?_toArray, Bool.false_eq_true, Bool.true_eq_false, List.map_cons, List.map_nil, List.append_nil, List.nil_append, List.cons_append, AH.get_alloc, AH.get_put, AH.next_alloc, AH.next_put, ite_self, true_and, and_true, Nat.reduceLeDiff, Nat.le_refl, gt_iff_lt, ge_iff_le, Bool.not_eq_true', Bool.not_eq_eq_eq_not, Bool.not_true, Bool.not_false, Bool.not_eq_false', Bool.not_not, beq_iff_eq, bne_iff_ne, ne_eq, decide_eq_false_iff_not, conv_int T21 T5 d5, len_str T9 d9, ix_str T9 d9, callV_fn (g := 94) (by decide), K94 h98 h94, callV_fn (g := 95) (by decide), K95 h95, callV_fn (g := 96) (by decide), callV_fn (g := 97) (by decide), q0, q1, c1, c2]
    exact ⟨_, rfl⟩
  · have hm : markI r = -1 := by unfold markI; rw [if_neg (by omega), if_neg (by omega)]
    rw [hm]
    by_cases q2 : r = 65533
    · have u0 : (Utf8.decode ⟨⟨[0, 58]⟩⟩ 0) = (0, 1) := by decide
      have u1 : (Utf8.decode ⟨⟨[0, 58]⟩⟩ 1) = (58, 1) := by decide
      have f1 : aNext (.ptr 0 0) true (e0.alloc (.iter [0, 58] 0)) = some (.tup [.bool true, .int .i64 0, .int .i32 0], (e0.alloc (.iter [0, 58] 0)).put 0 (.iter [0, 58] 1)) := by
        have := nxt_more (b := 0) (pos := 0) (s := [0, 58]) (h := e0.alloc (.iter [0, 58] 0)) (by rw [AH.get_alloc]; rfl) (by decide)
        rw [u0] at this; exact this
      have f2 : aNext (.ptr 0 0) true ((e0.alloc (.iter [0, 58] 0)).put 0 (.iter [0, 58] 1)) = some (.tup [.bool true, .int .i64 1, .int .i32 58], ((e0.alloc (.iter [0, 58] 0)).put 0 (.iter [0, 58] 1)).put 0 (.iter [0, 58] 2)) := by
        have := nxt_more (b := 0) (pos := 1) (s := [0, 58]) (h := (e0.alloc (.iter [0, 58] 0)).put 0 (.iter [0, 58] 1)) (by rw [AH.get_put]; rfl) (by decide)
        rw [u1] at this; exact this
      have f3 : aNext (.ptr 0 0) true (((e0.alloc (.iter [0, 58] 0)).put 0 (.iter [0, 58] 1)).put 0 (.iter [0, 58] 2)) = some (.tup [.bool false], ((e0.alloc (.iter [0, 58] 0)).put 0 (.iter [0, 58] 1)).put 0 (.iter [0, 58] 2)) := nxt_end (b := 0) (pos := 2) (s := [0, 58]) (h := ((e0.alloc (.iter [0, 58] 0)).put 0 (.iter [0, 58] 1)).put 0 (.iter [0, 58] 2)) (by rw [AH.get_put]; rfl) (by decide)
      have f4 : ¬ ((0 : Int) = 65533) := by decide
      have f5 : ¬ ((58 : Int) = 65533) := by decide
      subst q2
      simp +contextual (maxSteps := 3000000) only [↓code_skip, ↓code_seq, ↓code_region, ↓code_cond, ↓code_block, ↓code_scope, ↓code_label, ↓code_loop, ↓code_exit, ↓code_ret, aCond_bool, ↓ops_nil, ↓ops_cons, run_none, run_someT, run_someF, run_tup, ↓run0_v, ↓run0_h, ↓run0_r, ↓seqK_normal, ↓seqK_exit, ↓seqK_ret, ↓blkK_normal, ↓blkK_ret, ↓blkK_exit, ↓retK_normal, ↓retK_ret, put_same, put_ne, put_none, env0_at, ev_tmp, ev_const, ev_func, oc_int, oc_bool, oc_str, oc_nils, oc_nilp, oc_nilf, oc_nilm, o_move, o_assign, o_pick, o_bin, o_call, o_len, o_alloc, o_box, o_build, o_buildSlice, o_load, o_store, o_nilCheck, o_un, o_convert, o_makeFunc, o_makeSlice, o_slice, o_fieldAddr, o_field, o_indexAddr, o_index, o_extract, o_append, o_min, o_max, g_none, g_some, pick_bool, bin_add, bin_sub, bin_mul, bin_quo, bin_rem, bin_eql, bin_neq, bin_or, bin_and, bin_lss, bin_leq, bin_gtr, bin_geq, bin_shr, bin_shl, str_add, str_eql, str_neq, un_not, extract_tup, nil_ptr, nil_fp, part_1, part_A, next_e0, next_one, get_e0, resultsOf, oneOrAll, Option.bind_some, Option.map_some, Option.map_none, Option.getD_some, decide_eq_true_eq, ↓reduceIte, Nat.reduceEqDiff, not_false_eq_true, not_true_eq_false, Nat.reduceAdd, Nat.reduceMul, reduceCtorEq, if_true, if_false, Nat.succ_ne_self, List.getElem?_cons_zero, List.getElem?_cons_succ, List.getElem?_toArray, Bool.false_eq_true, Bool.true_eq_false, List.map_cons, List.map_nil, List.append_nil, List.nil_append, List.cons_append, AH.get_alloc, AH.get_put, AH.next_alloc, AH.next_put, ite_self, true_and, and_true, Nat.reduceLeDiff, Nat.le_refl, gt_iff_lt, ge_iff_le, Bool.not_eq_true', Bool.not_eq_eq_eq_not, Bool.not_true, Bool.not_false, Bool.not_eq_false', Bool.not_not, beq_iff_eq, bne_iff_ne, ne_eq, decide_eq_false_iff_not, conv_int T21 T5 d5, len_str T9 d9, ix_str T9 d9, callV_fn (g := 94) (by decide), K94 h98 h94, callV_fn (g := 95) (by decide), K95 h95, callV_fn (g := 96) (by decide), callV_fn (g := 97) (by decide), q0, q1, o_range, o_next, rng_str T9 d9, ↓iterL_u, ↓loopU_normal, ↓loopU_exit, ↓loopU_ret, f1, f2, f3, f4, f5]
      exact ⟨_, rfl⟩
    · have g1 : (0 : Int) ≤ 1 := by decide
      have g2 : (1 : Int).toNat = 1 := rfl
      have g3 : IntKind.i64.wrap (1 + 1) = 2 := by decide
      have g4 : (-1 : Int) < 0 := by decide
      have g5 : (1 : Int) < ((([0, 58] : List UInt8).length : Nat) : Int) := by decide
      have g6 : ¬ (2 : Int) < ((([0, 58] : List UInt8).length : Nat) : Int) := by decide
      have g7 : ¬ (3 : Int) < ((([0, 58] : List UInt8).length : Nat) : Int) := by decide
      have g8 : aSlice T 9 (.str [0, 58]) (some (.int .i64 2)) none none = some (.str []) := sl_str (l := 2) (u := 2) T9 d9 (by rfl) (by rfl) (by decide) (by decide)
      have g9 : ∀ c, Lib.indexByte [] c = -1 := fun _ => rfl
      rcases enc_cases hr (by omega) with ⟨x, y, he, hy⟩ | ⟨x, y, z, he⟩ | ⟨x, y, z, u, he⟩
      · have w1 : IntKind.i64.wrap (((([x, y] : List UInt8).length : Nat) : Int) - 1) = 1 := by show IntKind.i64.wrap (((2 : Nat) : Int) - 1) = 1; decide
        have w2 : ¬ ((((58 : UInt8).toNat : Nat) : Int) = ((y.toNat : Nat) : Int)) := by
          have : (58 : UInt8).toNat = 58 := rfl
          omega
        simp +contextual (maxSteps := 3000000) only [↓code_skip, ↓code_seq, ↓code_region, ↓code_cond, ↓code_block, ↓code_scope, ↓code_label, ↓code_loop, ↓code_exit, ↓code_ret, aCond_bool, ↓ops_nil, ↓ops_cons, run_none, run_someT, run_someF, run_tup, ↓run0_v, ↓run0_h, ↓run0_r, ↓seqK_normal, ↓seqK_exit, ↓seqK_ret, ↓blkK_normal, ↓blkK_ret, ↓blkK_exit, ↓retK_normal, ↓retK_ret, put_same, put_ne, put_none, env0_at, ev_tmp, ev_const, ev_func, oc_int, oc_bool, oc_str, oc_nils, oc_nilp, oc_nilf, oc_nilm, o_move, o_assign, o_pick, o_bin, o_call, o_len, o_alloc, o_box, o_build, o_buildSlice, o_load, o_store, o_nilCheck, o_un, o_convert, o_makeFunc, o_makeSlice, o_slice, o_fieldAddr, o_field, o_indexAddr, o_index, o_extract, o_append, o_min, o_max, g_none, g_some, pick_bool, bin_add, bin_sub, bin_mul, bin_quo, bin_rem, bin_eql, bin_neq, bin_or, bin_and, bin_lss, bin_leq, bin_gtr, bin_geq, bin_shr, bin_shl, str_add, str_eql, str_neq, un_not, extract_tup, nil_ptr, nil_fp, part_1, part_A, next_e0, next_one, get_e0, resultsOf, oneOrAll, Option.bind_some, Option.map_some, Option.map_none, Option.getD_some, decide_eq_true_eq, ↓reduceIte, Nat.reduceEqDiff, not_false_eq_true, not_true_eq_false, Nat.reduceAdd, Nat.reduceMul, reduceCtorEq, if_true, if_false, Nat.succ_ne_self, List.getElem?_cons_zero, List.getElem?_cons_succ, List.getElem?_toArray, Bool.false_eq_true, Bool.true_eq_false, List.map_cons, List.map_nil, List.append_nil, List.nil_append, List.cons_append, AH.get_alloc, AH.get_put, AH.next_alloc, AH.next_put, ite_self, true_and, and_true, Nat.reduceLeDiff, Nat.le_refl, gt_iff_lt, ge_iff_le, Bool.not_eq_true', Bool.not_eq_eq_eq_not, Bool.not_true, Bool.not_false, Bool.not_eq_false', Bool.not_not, beq_iff_eq, bne_iff_ne, ne_eq, decide_eq_false_iff_not, conv_int T21 T5 d5, len_str T9 d9, ix_str T9 d9, callV_fn (g := 94) (by decide), K94 h98 h94, callV_fn (g := 95) (by decide), K95 h95, callV_fn (g := 96) (by decide), callV_fn (g := 97) (by decide), q0, q1, q2, hr, conv_rune T21 T9 d9 d21, he, ↓iterL_u, ↓loopU_normal, ↓loopU_exit, ↓loopU_ret, g1, g2, g3, g4, g5, g8, g9, w1, w2]
        exact ⟨_, rfl⟩
      · have w1 : IntKind.i64.wrap (((([x, y, z] : List UInt8).length : Nat) : Int) - 1) = 2 := by show IntKind.i64.wrap (((3 : Nat) : Int) - 1) = 2; decide
        simp +contextual (maxSteps := 3000000) only [↓code_skip, ↓code_seq, ↓code_region, ↓code_cond, ↓code_block, ↓code_scope, ↓code_label, ↓code_loop, ↓code_exit, ↓code_ret, aCond_bool, ↓ops_nil, ↓ops_cons, run_none, run_someT, run_someF, run_tup, ↓run0_v, ↓run0_h, ↓run0_r, ↓seqK_normal, ↓seqK_exit, ↓seqK_ret, ↓blkK_normal, ↓blkK_ret, ↓blkK_exit, ↓retK_normal, ↓retK_ret, put_same, put_ne, put_none, env0_at, ev_tmp, ev_const, ev_func, oc_int, oc_bool, oc_str, oc_nils, oc_nilp, oc_nilf, oc_nilm, o_move, o_assign, o_pick, o_bin, o_call, o_len, o_alloc, o_box, o_build, o_buildSlice, o_load, o_store, o_nilCheck, o_un, o_convert, o_makeFunc, o_makeSlice, o_slice, o_fieldAddr, o_field, o_indexAddr, o_index, o_extract, o_append, o_min, o_max, g_none, g_some, pick_bool, bin_add, bin_sub, bin_mul, bin_quo, bin_rem, bin_eql, bin_neq, bin_or, bin_and, bin_lss, bin_leq, bin_gtr, bin_geq, bin_shr, bin_shl, str_add, str_eql, str_neq, un_not, extract_tup, nil_ptr, nil_fp, part_1, part_A, next_e0, next_one, get_e0, resultsOf, oneOrAll, Option.bind_some, Option.map_some, Option.map_none, Option.getD_some, decide_eq_true_eq, ↓reduceIte, Nat.reduceEqDiff, not_false_eq_true, not_true_eq_false, Nat.reduceAdd, Nat.reduceMul, reduceCtorEq, if_true, if_false, Nat.succ_ne_self, List.getElem?_cons_zero, List.getElem?_cons_succ, List.getElem?_toArray, Bool.false_eq_true, Bool.true_eq_false, List.map_cons, List.map_nil, List.append_nil, List.nil_append, List.cons_append, AH.get_alloc, AH.get_put, AH.next_alloc, AH.next_put, ite_self, true_and, and_true, Nat.reduceLeDiff, Nat.le_refl, gt_iff_lt, ge_iff_le, Bool.not_eq_true', Bool.not_eq_eq_eq_not, Bool.not_true, Bool.not_false, Bool.not_eq_false', Bool.not_not, beq_iff_eq, bne_iff_ne, ne_eq, decide_eq_false_iff_not, conv_int T21 T5 d5, len_str T9 d9, ix_str T9 d9, callV_fn (g := 94) (by decide), K94 h98 h94, callV_fn (g := 95) (by decide), K95 h95, callV_fn (g := 96) (by decide), callV_fn (g := 97) (by decide), q0, q1, q2, hr, conv_rune T21 T9 d9 d21, he, ↓iterL_u, ↓loopU_normal, ↓loopU_exit, ↓loopU_ret, g6, w1]
        exact ⟨_, rfl⟩
      · have w1 : IntKind.i64.wrap (((([x, y, z, u] : List UInt8).length : Nat) : Int) - 1) = 3 := by show IntKind.i64.wrap (((4 : Nat) : Int) - 1) = 3; decide
        simp +contextual (maxSteps := 3000000) only [↓code_skip, ↓code_seq, ↓code_region, ↓code_cond, ↓code_block, ↓code_scope, ↓code_label, ↓code_loop, ↓code_exit, ↓code_ret, aCond_bool, ↓ops_nil, ↓ops_cons, run_none, run_someT, run_someF, run_tup, ↓run0_v, ↓run0_h, ↓run0_r, ↓seqK_normal, ↓seqK_exit, ↓seqK_ret, ↓blkK_normal, ↓blkK_ret, ↓blkK_exit, ↓retK_normal, ↓retK_ret, put_same, put_ne, put_none, env0_at, ev_tmp, ev_const, ev_func, oc_int, oc_bool, oc_str, oc_nils, oc_nilp, oc_nilf, oc_nilm, o_move, o_assign, o_pick, o_bin, o_call, o_len, o_alloc, o_box, o_build, o_buildSlice, o_load, o_store, o_nilCheck, o_un, o_convert, o_makeFunc, o_makeSlice, o_slice, o_fieldAddr, o_field, o_indexAddr, o_index, o_extract, o_append, o_min, o_max, g_none, g_some, pick_bool, bin_add, bin_sub, bin_mul, bin_quo, bin_rem, bin_eql, bin_neq, bin_or, bin_and, bin_lss, bin_leq, bin_gtr, bin_geq, bin_shr, bin_shl, str_add, str_eql, str_neq, un_not, extract_tup, nil_ptr, nil_fp, part_1, part_A, next_e0, next_one, get_e0, resultsOf, oneOrAll, Option.bind_some, Option.map_some, Option.map_none, Option.getD_some, decide_eq_true_eq, ↓reduceIte, Nat.reduceEqDiff, not_false_eq_true, not_true_eq_false, Nat.reduceAdd, Nat.reduceMul, reduceCtorEq, if_true, if_false, Nat.succ_ne_self, List.getElem?_cons_zero, List.getElem?_cons_succ, List.getElem?_toArray, Bool.false_eq_true, Bool.true_eq_false, List.map_cons, List.map_nil, List.append_nil, List.nil_append, List.cons_append, AH.get_alloc, AH.get_put, AH.next_alloc, AH.next_put, ite_self, true_and, and_true, Nat.reduceLeDiff, Nat.le_refl, gt_iff_lt, ge_iff_le, Bool.not_eq_true', Bool.not_eq_eq_eq_not, Bool.not_true, Bool.not_false, Bool.not_eq_false', Bool.not_not, beq_iff_eq, bne_iff_ne, ne_eq, decide_eq_false_iff_not, conv_int T21 T5 d5, len_str T9 d9, ix_str T9 d9, callV_fn (g := 94) (by decide), K94 h98 h94, callV_fn (g := 95) (by decide), K95 h95, callV_fn (g := 96) (by decide), callV_fn (g := 97) (by decide), q0, q1, q2, hr, conv_rune T21 T9 d9 d21, he, ↓iterL_u, ↓loopU_normal, ↓loopU_exit, ↓loopU_ret, g7, w1]
        exact ⟨_, rfl⟩
theorem K74 {I : Nat → Option (List AV → AH → Rs)} (h74 : I 74 = some (pureG g74)) (m : Nat) (r : Int) (h : AH) (hr : okRune r) : call F I T (m + 1) 74 [.str [0, 58], .int .i32 r] h = some (.int .i64 (markI r), h) := by
  rw [call_I (by decide) h74]; exact pureG_flat rfl (by simp [g74, G2, vStr, dStr, vInt, dInt, hr])
end Go.AM.X
