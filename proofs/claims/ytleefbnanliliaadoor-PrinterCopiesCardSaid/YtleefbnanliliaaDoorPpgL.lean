/- What both printers tell. Own work. -/
import Derived.Test.YtleefbnanliliaaDoorPpgK
import Derived.Test.YtleefbnanliliaaDoorPpgH
namespace Go.AM.X
open Go Go.AM Go.Proofs Go.AM.Sx
set_option maxHeartbeats 1600000
set_option maxRecDepth 100000
set_option linter.unusedVariables false
theorem F31 : F 31 = some { body := (Tryd.f31.body.getD .skip), results := Tryd.f31.results.toList, rf := false } := by kernel_rfl
theorem R31 : regsOk T (Tryd.f31.body.getD .skip) = true := by kernel_rfl
theorem F19 : F 19 = some { body := (Tryd.f19.body.getD .skip), results := Tryd.f19.results.toList, rf := false } := by kernel_rfl
theorem R19 : regsOk T (Tryd.f19.body.getD .skip) = true := by kernel_rfl
theorem F56 : F 56 = some { body := (Tryd.f56.body.getD .skip), results := Tryd.f56.results.toList, rf := false } := by kernel_rfl
theorem R56 : regsOk T (Tryd.f56.body.getD .skip) = true := by kernel_rfl
theorem K44 {I : Nat → Option (List AV → AH → Rs)} (h44 : I 44 = some itG) (m : Nat) (n : Int) (h : AH) (h0 : -9223372036854775808 ≤ n ∧ n ≤ 9223372036854775807) : call F I T (m + 1) 44 [.int .i64 n] h = some (.str (Lib.itoa n), h) := by
  rw [call_I (by decide) h44]
  simp only [itG]
  rw [if_pos h0]
theorem run31 {I : Nat → Option (List AV → AH → Rs)} (h31 : I 31 = none) (m : Nat) (v w : AV) (l : List Int) (h : AH) (hv : RowC 1 h v l.length (l.map fun n => .int .i64 n)) (hw : RowC 1 h w l.length (l.map fun n => .int .i64 n)) (hn : l.length ≤ m ∧ l.length ≤ 1000000) : call F I T (m + 20) 31 [v, w] h = some (.bool true, h) := by
  have l1 : ∀ h, aLen T 31 v h = some (.int .i64 (l.length : Nat)) := fun h => hv.len T31 d31
  have l2 : ∀ h, aLen T 31 w h = some (.int .i64 (l.length : Nat)) := fun h => hw.len T31 d31
  rw [call_F (by decide) h31 F31 rfl R31]; simp only [Tryd.f31, Option.getD]
  simp +contextual (maxSteps := 3000000) only [↓code_skip, ↓code_seq, ↓code_region, ↓code_cond, ↓code_block, ↓code_loop, aCond_bool, ↓ops_nil, ↓ops_cons, run_none, ↓run0_v, ↓seqK_normal, put_same, put_ne, env0_at, ev_tmp, ev_const, oc_int, oc_bool, o_move, o_assign, o_bin, o_len, g_none, bin_neq, Option.getD_some, ↓reduceIte, Nat.reduceEqDiff, not_false_eq_true, reduceCtorEq, List.getElem?_cons_zero, List.getElem?_cons_succ, Bool.false_eq_true, Bool.not_true, ne_eq, l1, l2, decide_true]
  refine iterL_wp (Q := fun r => r = some (.bool true, h)) (N := l.length) (Inv := fun k e h' => ∃ i, k + i = l.length ∧ h' = h ∧ i ≤ l.length ∧ e 0 = v ∧ e 1 = w ∧ e 5 = .int .i64 (i : Nat)) ?_ ?_ (show l.length < m + 19 by omega)
  · rintro k e h' K' ⟨i, hk, hh, hil, e0, e1, e5⟩ hnext hexit
    subst hh
    by_cases hi : i < l.length
    · have c1 : (i : Int) < (l.length : Int) := by omega
      obtain ⟨x, hx⟩ : ∃ x, l[i]? = some x := ⟨l[i], List.getElem?_eq_getElem hi⟩
      have hxx : ∀ rest, ((l.map fun n => AV.int .i64 n) ++ rest)[i]? = some (.int .i64 x) := fun rest => by
        rw [List.getElem?_append_left (by rw [List.length_map]; omega), List.getElem?_map, hx]; rfl
      obtain ⟨b1, r1, _, g1, g2, g3⟩ := hv.at_ T31 d31 T3 s3 hi
      obtain ⟨b2, r2, _, q1, q2, q3⟩ := hw.at_ T31 d31 T3 s3 hi
      rw [Nat.mul_one] at g1 q1
      have y1 := hxx r1
      have y2 := hxx r2
      have c7 : IntKind.i64.wrap ((i : Int) + 1) = ((i + 1 : Nat) : Int) := by rw [wrap_i64 (by omega) (by omega)]; rfl
      simp +contextual (maxSteps := 3000000) only [↓code_skip, ↓code_seq, ↓code_region, ↓code_cond, ↓code_block, aCond_bool, ↓ops_nil, ↓ops_cons, run_none, ↓run0_v, ↓seqK_normal, ↓blkK_normal, put_same, put_ne, ev_tmp, ev_const, oc_int, o_move, o_assign, o_bin, o_len, o_load, o_indexAddr, g_none, bin_add, bin_neq, bin_lss, ↓reduceIte, Nat.reduceEqDiff, not_false_eq_true, reduceCtorEq, Bool.false_eq_true, Bool.not_true, ne_eq, load_p1 T3 a3, loadc_def, e0, e1, e5, c1, l1, g1, g2, y1, q1, q2, y2, decide_true, c7]
      refine hnext (k - 1) _ _ (by omega) ⟨i + 1, by omega, ?_, ?_, ?_, ?_, ?_⟩
      · rfl
      · omega
      · simp only [put_ne, not_false_eq_true, reduceCtorEq, ne_eq, e0]
      · simp only [put_ne, Nat.reduceEqDiff, not_false_eq_true, ne_eq, e1]
      · simp only [put_same]
    · have c1 : ¬ (i : Int) < (l.length : Int) := by omega
      simp +contextual (maxSteps := 3000000) only [↓code_seq, ↓code_region, ↓code_cond, ↓code_exit, aCond_bool, ↓ops_nil, ↓ops_cons, run_none, ↓run0_v, ↓seqK_normal, ↓seqK_exit, put_same, put_ne, ev_tmp, o_move, o_bin, o_len, g_none, bin_lss, decide_eq_true_eq, ↓reduceIte, Nat.reduceEqDiff, not_false_eq_true, reduceCtorEq, ne_eq, e0, e5, c1, l1]
      refine hexit _ _ _ (by simp) ?_
      simp +contextual (maxSteps := 3000000) only [↓code_seq, ↓code_region, ↓code_ret, ↓ops_nil, ↓ops_cons, run_none, ↓run0_v, ↓seqK_normal, ↓blkK_exit, ↓retK_ret, put_same, ev_const, oc_bool, o_assign, g_none, resultsOf, oneOrAll, Option.map_some, ↓reduceIte]
  · refine ⟨0, by omega, ?_, ?_, ?_, ?_, ?_⟩
    · rfl
    · omega
    · simp only [put_ne, env0_at, Option.getD_some, not_false_eq_true, reduceCtorEq, List.getElem?_cons_zero, ne_eq]
    · simp only [put_ne, env0_at, Option.getD_some, Nat.reduceEqDiff, not_false_eq_true, List.getElem?_cons_zero, List.getElem?_cons_succ, ne_eq]
    · simp only [put_same]; rfl
theorem L52 {I : Nat → Option (List AV → AH → Rs)} (h66 : I 66 = none) (h52 : I 52 = none) (m p : Nat) (Q : Tp) (off : Nat → Prop) (h : AH) (hQ : OkT h p Q off) (hn : Q.ss.length ≤ 200) :
    ∃ v h2, call F I T (m + 250) 52 [.ptr p 0] h = some (v, h2) ∧ RowC 1 h2 v (Q.ss.map Ts.c).length ((Q.ss.map Ts.c).map fun n => .int .i64 n) ∧ Fresh h v ∧ Grow h h2 := by
  obtain ⟨R, hR, rfl, rfl⟩ := hQ
  have hsl : R.ss.length ≤ 200 := by rw [show (tp R).ss = R.ss.map tc from rfl, List.length_map] at hn; exact hn
  have hp1 : h.get p = some (.cells [.int .i64 R.q, .int .i64 R.r, R.sv, R.wv, R.jv, R.qv, .int .i64 R.ap, .int .i64 R.sq] .own) := hR.g
  obtain ⟨v, h2, q1, q2, q3, q4⟩ := run66 h66 (m + 229) R.sv R.ss h hR.s ⟨by omega, by omega⟩
  refine ⟨v, h2, ?_, ?_, q3, q4⟩
  · rw [call_F (by decide) h52 F52 rfl R52]; simp only [Tryd.f52, Option.getD]
    simp +contextual (maxSteps := 3000000) only [↓code_seq, ↓code_region, ↓code_ret, ↓ops_nil, ↓ops_cons, run_none, ↓run0_v, ↓run0_r, ↓seqK_normal, ↓retK_ret, put_same, put_ne, env0_at, ev_tmp, ev_const, ev_func, oc_nils, o_move, o_assign, o_call, o_load, o_nilCheck, o_fieldAddr, g_none, nil_ptr, resultsOf, oneOrAll, Option.map_some, Option.getD_some, not_false_eq_true, Nat.reduceAdd, reduceCtorEq, List.getElem?_cons_zero, List.getElem?_cons_succ, List.map_cons, List.map_nil, List.append_nil, List.nil_append, ne_eq, fa_ptr T103 p103_2 (by decide), load_p1 T101 a101, loadc_def, hp1, q1, callV_fn (g := 66) (by decide)]
  · have e : (tp R).ss.map Ts.c = R.ss.map Rc.who := by show (R.ss.map tc).map Ts.c = _; rw [List.map_map]; rfl
    rw [e, List.length_map, List.map_map]; exact q2
theorem L53 {I : Nat → Option (List AV → AH → Rs)} (h66 : I 66 = none) (h53 : I 53 = none) (m p : Nat) (Q : Tp) (off : Nat → Prop) (h : AH) (hQ : OkT h p Q off) (hn : Q.ws.length ≤ 200) :
    ∃ v h2, call F I T (m + 250) 53 [.ptr p 0] h = some (v, h2) ∧ RowC 1 h2 v (Q.ws.map Wt.c).length ((Q.ws.map Wt.c).map fun n => .int .i64 n) ∧ Fresh h v ∧ Grow h h2 := by
  obtain ⟨R, hR, rfl, rfl⟩ := hQ
  have hwl : R.ws.length ≤ 200 := hn
  have hp1 : h.get p = some (.cells [.int .i64 R.q, .int .i64 R.r, R.sv, R.wv, R.jv, R.qv, .int .i64 R.ap, .int .i64 R.sq] .own) := hR.g
  have hw1 := hR.w
  have hwl' : (R.ws.map rcw).length = R.ws.length := List.length_map ..
  rw [← hwl'] at hw1
  obtain ⟨v, h2, q1, q2, q3, q4⟩ := run66 h66 (m + 229) R.wv (R.ws.map rcw) h hw1 ⟨by omega, by omega⟩
  refine ⟨v, h2, ?_, ?_, q3, q4⟩
  · rw [call_F (by decide) h53 F53 rfl R53]; simp only [Tryd.f53, Option.getD]
    simp +contextual (maxSteps := 3000000) only [↓code_seq, ↓code_region, ↓code_ret, ↓ops_nil, ↓ops_cons, run_none, ↓run0_v, ↓run0_r, ↓seqK_normal, ↓retK_ret, put_same, put_ne, env0_at, ev_tmp, ev_const, ev_func, oc_nils, o_move, o_assign, o_call, o_load, o_nilCheck, o_fieldAddr, g_none, nil_ptr, resultsOf, oneOrAll, Option.map_some, Option.getD_some, not_false_eq_true, Nat.reduceAdd, reduceCtorEq, List.getElem?_cons_zero, List.getElem?_cons_succ, List.map_cons, List.map_nil, List.append_nil, List.nil_append, ne_eq, fa_ptr T103 p103_3 (by decide), load_p1 T101 a101, loadc_def, hp1, q1, callV_fn (g := 66) (by decide)]
  · have e : (tp R).ws.map Wt.c = (R.ws.map rcw).map Rc.who := by show R.ws.map Wt.c = _; rw [List.map_map]; rfl
    rw [e, List.length_map, List.map_map]; exact q2
theorem L55 {I : Nat → Option (List AV → AH → Rs)} (h55 : I 55 = none) (m p : Nat) (Q : Tp) (off : Nat → Prop) (h : AH) (hQ : OkT h p Q off) : call F I T (m + 2) 55 [.ptr p 0] h = some (.int .i64 (Q.qs.length : Nat), h) := by
  obtain ⟨R, hR, rfl, rfl⟩ := hQ
  have hp1 : h.get p = some (.cells [.int .i64 R.q, .int .i64 R.r, R.sv, R.wv, R.jv, R.qv, .int .i64 R.ap, .int .i64 R.sq] .own) := hR.g
  have hlen : ∀ h, aLen T 51 R.qv h = some (.int .i64 ((tp R).qs.length : Nat)) := fun h => by
    rw [show (tp R).qs = R.qs.map jv from rfl, List.length_map]; exact hR.u.1.len T51 d51
  rw [call_F (by decide) h55 F55 rfl R55]; simp only [Tryd.f55, Option.getD]
  simp +contextual (maxSteps := 3000000) only [↓code_seq, ↓code_region, ↓code_ret, ↓ops_nil, ↓ops_cons, run_none, ↓run0_v, ↓seqK_normal, ↓retK_ret, put_same, put_ne, env0_at, ev_tmp, ev_const, oc_int, o_move, o_assign, o_len, o_load, o_nilCheck, o_fieldAddr, g_none, nil_ptr, resultsOf, oneOrAll, Option.map_some, Option.getD_some, not_false_eq_true, Nat.reduceAdd, reduceCtorEq, List.getElem?_cons_zero, List.getElem?_cons_succ, ne_eq, fa_ptr T103 p103_5 (by decide), load_p1 T51 a51, loadc_def, hp1, hlen]
def spoolT : List UInt8 := [115, 112, 111, 111, 108, 105, 110, 103, 32]
def busyT : List UInt8 := [98, 117, 115, 121, 32]
def idleT : List UInt8 := [105, 100, 108, 101]
def statS (r n : Int) (l : List Int) : List UInt8 := if 0 < r then spoolT ++ Lib.itoa n else match l with
  | [] => idleT
  | c :: _ => busyT ++ Lib.itoa c
theorem dec_lenP : ∀ (k n : Nat), n < 10 ^ (k + 1) → (Lib.decDigits n).length ≤ k + 1
  | 0, n, h => by
    rw [Lib.decDigits, dif_pos (by simpa using h)]; simp
  | k + 1, n, h => by
    rw [Lib.decDigits]
    split
    · simp
    · have h1 : n / 10 < 10 ^ (k + 1) := by
        rw [Nat.pow_succ] at h
        exact Nat.div_lt_of_lt_mul (by omega)
      have := dec_lenP k (n / 10) h1
      simp only [List.length_append, List.length_cons, List.length_nil]
      omega
theorem itoa_lenP (n : Int) (h0 : -9223372036854775808 ≤ n ∧ n ≤ 9223372036854775807) : (Lib.itoa n).length ≤ 40 := by
  unfold Lib.itoa
  split
  · have := dec_lenP 20 n.natAbs (by have : (10 : Nat) ^ 21 = 1000000000000000000000 := by decide
                                     omega)
    simp only [List.length_cons]; omega
  · have := dec_lenP 20 n.toNat (by have : (10 : Nat) ^ 21 = 1000000000000000000000 := by decide
                                    omega)
    omega
theorem catP (s : List UInt8) (n : Int) (h : AH) (hs : s.length ≤ 20) (h0 : -9223372036854775808 ≤ n ∧ n ≤ 9223372036854775807) : aBin T .add 9 (.str s) (.str (Lib.itoa n)) h = some (.str (s ++ Lib.itoa n)) := by
  have := itoa_lenP n h0
  rw [str_add, if_neg (by omega)]
theorem L56 {I : Nat → Option (List AV → AH → Rs)} (h44 : I 44 = some itG) (h56 : I 56 = none) (m p : Nat) (Q : Tp) (off : Nat → Prop) (h : AH) (hQ : OkT h p Q off) (hn : Q.qs.length ≤ 1000000) (hc : ∀ s ∈ Q.ss, -9223372036854775808 ≤ s.c ∧ s.c ≤ 9223372036854775807) :
    call F I T (m + 5) 56 [.ptr p 0] h = some (.str (statS Q.r (Q.qs.length : Nat) (Q.ss.map Ts.c)), h) := by
  obtain ⟨R, hR, rfl, rfl⟩ := hQ
  have hp1 : h.get p = some (.cells [.int .i64 R.q, .int .i64 R.r, R.sv, R.wv, R.jv, R.qv, .int .i64 R.ap, .int .i64 R.sq] .own) := hR.g
  have hlen : ∀ h, aLen T 51 R.qv h = some (.int .i64 ((tp R).qs.length : Nat)) := fun h => by
    rw [show (tp R).qs = R.qs.map jv from rfl, List.length_map]; exact hR.u.1.len T51 d51
  have hlens : ∀ h, aLen T 101 R.sv h = some (.int .i64 (R.ss.length : Nat)) := fun h => hR.s.len T101 d101
  have hr : (tp R).r = R.r := rfl
  rw [hr]
  rw [call_F (by decide) h56 F56 rfl R56]; simp only [Tryd.f56, Option.getD]
  by_cases c1 : 0 < R.r
  · have b1 : -9223372036854775808 ≤ (((tp R).qs.length : Nat) : Int) ∧ (((tp R).qs.length : Nat) : Int) ≤ 9223372036854775807 := by omega
    have k44 := fun m h => K44 (by assumption) m (((tp R).qs.length : Nat) : Int) h b1
    have cat := fun h => catP spoolT (((tp R).qs.length : Nat) : Int) h (by decide) b1
    unfold spoolT at cat
    have e : statS R.r (((tp R).qs.length : Nat) : Int) ((tp R).ss.map Ts.c) = spoolT ++ Lib.itoa (((tp R).qs.length : Nat) : Int) := by unfold statS; rw [if_pos c1]
    rw [e]
    simp +contextual (maxSteps := 3000000) only [↓code_seq, ↓code_region, ↓code_cond, ↓code_block, ↓code_ret, aCond_bool, ↓ops_nil, ↓ops_cons, run_none, ↓run0_v, ↓run0_r, ↓seqK_normal, ↓seqK_ret, ↓blkK_ret, ↓retK_ret, put_same, put_ne, env0_at, ev_tmp, ev_const, ev_func, oc_int, oc_str, o_move, o_assign, o_bin, o_call, o_len, o_load, o_nilCheck, o_fieldAddr, g_none, bin_gtr, nil_ptr, resultsOf, oneOrAll, Option.map_some, Option.getD_some, decide_eq_true_eq, ↓reduceIte, not_false_eq_true, Nat.reduceAdd, reduceCtorEq, List.getElem?_cons_zero, List.getElem?_cons_succ, List.map_cons, List.map_nil, List.append_nil, List.nil_append, List.cons_append, gt_iff_lt, ne_eq, fa_ptr T103 p103_1 (by decide), load_p1 T3 a3, loadc_def, fa_ptr T103 p103_5 (by decide), load_p1 T51 a51, hp1, hlen, c1, k44, cat, callV_fn (g := 44) (by decide)]
    rfl
  · have e1 : ∀ l, statS R.r (((tp R).qs.length : Nat) : Int) l = match l with
      | [] => idleT
      | c :: _ => busyT ++ Lib.itoa c := fun l => by unfold statS; rw [if_neg c1]
    cases hss : R.ss with
    | nil =>
      have e : statS R.r (((tp R).qs.length : Nat) : Int) ((tp R).ss.map Ts.c) = idleT := by rw [e1, show (tp R).ss = R.ss.map tc from rfl, hss]; rfl
      rw [e]
      rw [hss] at hlens
      simp +contextual (maxSteps := 3000000) only [↓code_seq, ↓code_region, ↓code_cond, ↓code_block, ↓code_ret, aCond_bool, ↓ops_nil, ↓ops_cons, run_none, ↓run0_v, ↓seqK_normal, ↓seqK_ret, ↓blkK_ret, ↓retK_ret, put_same, put_ne, env0_at, ev_tmp, ev_const, oc_int, oc_str, o_move, o_assign, o_bin, o_len, o_load, o_nilCheck, o_fieldAddr, g_none, bin_eql, bin_gtr, nil_ptr, resultsOf, oneOrAll, Option.map_some, Option.getD_some, decide_eq_true_eq, ↓reduceIte, not_false_eq_true, Nat.reduceAdd, reduceCtorEq, List.getElem?_cons_zero, List.getElem?_cons_succ, gt_iff_lt, ne_eq, fa_ptr T103 p103_1 (by decide), load_p1 T3 a3, loadc_def, fa_ptr T103 p103_2 (by decide), load_p1 T101 a101, hp1, c1, hlens, List.length_nil, (show ((0 : Nat) : Int) = 0 from rfl)]
      rfl
    | cons x l =>
      have b1 := hc (tc x) (by show tc x ∈ R.ss.map tc; rw [hss]; simp)
      have e : statS R.r (((tp R).qs.length : Nat) : Int) ((tp R).ss.map Ts.c) = busyT ++ Lib.itoa x.who := by rw [e1, show (tp R).ss = R.ss.map tc from rfl, hss]; rfl
      rw [e]
      obtain ⟨b, cs, kk, g1, g2, g3, g4, g5, g6, _⟩ := loadC (i := 0) hR.s (by rw [hss]; rfl)
      have g1' : aIndexAddr T 101 R.sv (.int .i64 0) = some (.ptr b 0) := by
        have := g1; rw [Nat.zero_mul] at this; exact this
      rw [Nat.zero_mul] at g5
      have k44 := fun m h => K44 (by assumption) m x.who h b1
      have cat := fun h => catP busyT x.who h (by decide) b1
      unfold busyT at cat
      have c2 : ¬ ((R.ss.length : Nat) : Int) = 0 := by rw [hss, List.length_cons]; omega
      simp +contextual (maxSteps := 3000000) only [↓code_skip, ↓code_seq, ↓code_region, ↓code_cond, ↓code_block, ↓code_ret, aCond_bool, ↓ops_nil, ↓ops_cons, run_none, ↓run0_v, ↓run0_r, ↓seqK_normal, ↓blkK_normal, ↓retK_ret, put_same, put_ne, env0_at, ev_tmp, ev_const, ev_func, oc_int, oc_str, o_move, o_assign, o_bin, o_call, o_len, o_load, o_nilCheck, o_fieldAddr, o_indexAddr, g_none, bin_eql, bin_gtr, nil_ptr, resultsOf, oneOrAll, Option.map_some, Option.getD_some, decide_eq_true_eq, ↓reduceIte, not_false_eq_true, Nat.reduceAdd, reduceCtorEq, List.getElem?_cons_zero, List.getElem?_cons_succ, List.map_cons, List.map_nil, List.append_nil, List.nil_append, List.cons_append, gt_iff_lt, ne_eq, fa_ptr T103 p103_1 (by decide), load_p1 T3 a3, loadc_def, fa_ptr T103 p103_2 (by decide), load_p1 T101 a101, fa_ptr T106 p106_0 (by decide), hp1, c1, hlens, c2, g1', g2, g5, k44, cat, callV_fn (g := 44) (by decide)]
      rfl
end Go.AM.X
namespace Go.AM.X
open Go Go.AM Go.Proofs Go.AM.Sx
set_option maxHeartbeats 1600000
set_option maxRecDepth 100000
set_option linter.unusedVariables false
theorem F23 : F 23 = some { body := (Tryd.f23.body.getD .skip), results := Tryd.f23.results.toList, rf := false } := by kernel_rfl
theorem R23 : regsOk T (Tryd.f23.body.getD .skip) = true := by kernel_rfl
theorem V16 {I : Nat → Option (List AV → AH → Rs)} (h32 : I 32 = none) (h16 : I 16 = none) (m p : Nat) (V : Vp) (off : Nat → Prop) (h : AH) (hV : OkV h p V off) (hq : ¬ V.q = 0) :
    ∃ v h2, call F I T (m + 200) 16 [.ptr p 0] h = some (v, h2) ∧ RowC 1 h2 v (V.ws.map Wt.c).length ((V.ws.map Wt.c).map fun n => .int .i64 n) ∧ Fresh h v ∧ Grow h h2 := by
  obtain ⟨P, dat, js, hP, rfl, rfl⟩ := hV
  obtain ⟨v, h2, k1, k2, k3, k4⟩ := run16 h32 h16 m p P h hP.ok hq
  refine ⟨v, h2, k1, ?_, k3, k4⟩
  rw [List.length_map, List.map_map]
  exact k2
theorem V14' {I : Nat → Option (List AV → AH → Rs)} (h32 : I 32 = none) (h14 : I 14 = none) (m p : Nat) (V : Vp) (off : Nat → Prop) (h : AH) (hV : OkV h p V off) (hq : ¬ V.q = 0) :
    ∃ v h2, call F I T (m + 200) 14 [.ptr p 0] h = some (v, h2) ∧ RowC 1 h2 v (V.ss.map Vs.c).length ((V.ss.map Vs.c).map fun n => .int .i64 n) ∧ Fresh h v ∧ Grow h h2 := by
  obtain ⟨v, h2, k1, k2, k3, k4⟩ := V14 h32 h14 m p V off h hV hq
  refine ⟨v, h2, k1, ?_, k3, k4⟩
  rw [List.length_map, List.map_map]
  exact k2
theorem V19 {I : Nat → Option (List AV → AH → Rs)} (h32 : I 32 = none) (h25 : I 25 = none) (h44 : I 44 = some itG) (h19 : I 19 = none) (m p : Nat) (V : Vp) (off : Nat → Prop) (h : AH) (hV : OkV h p V off) (hq : ¬ V.q = 0) (hr : 0 ≤ V.r) (hn : V.js.length ≤ 1000000 ∧ 0 ≤ V.lf ∧ V.lf ≤ 1000000) (hc : ∀ s ∈ V.ss, -9223372036854775808 ≤ s.c ∧ s.c ≤ 9223372036854775807) :
    call F I T (m + 20) 19 [.ptr p 0] h = some (.str (statS V.r (((V.js.length : Nat) : Int) - V.lf) (V.ss.map Vs.c)), h) := by
  have k25 := V25 h32 h25 (m + 9) p V off h hV hq hn
  obtain ⟨P, dat, js, hP, rfl, rfl⟩ := hV
  have hq' : ¬ P.q = 0 := hq
  have k1 := fun m => run32 h32 m p P.q P.r P.wv P.sv P.jv P.lf h hP.ok.g hq'
  have hp : h.get p = some (.cells [.int .i64 P.q, .int .i64 P.r, P.wv, P.sv, P.jv, .int .i64 P.lf] .own) := hP.ok.g
  have hlens : ∀ h, aLen T 71 P.sv h = some (.int .i64 (P.ss.length : Nat)) := fun h => hP.ok.s.len T71 d71
  have er : (vp P dat js).r = P.r := rfl
  obtain ⟨N, hN⟩ : ∃ N, N = (((vp P dat js).js.length : Nat) : Int) - (vp P dat js).lf := ⟨_, rfl⟩
  rw [← hN] at k25 ⊢
  rw [er] at k25 ⊢
  rw [call_F (by decide) h19 F19 rfl R19]; simp only [Tryd.f19, Option.getD]
  by_cases c1 : 0 < P.r
  · have b1 : -9223372036854775808 ≤ N ∧ N ≤ 9223372036854775807 := by omega
    have k44 := fun m h => K44 (by assumption) m N h b1
    have cat := fun h => catP spoolT N h (by decide) b1
    unfold spoolT at cat
    rw [if_neg (show ¬ P.r = 0 by omega)] at k25
    have e : statS P.r N ((vp P dat js).ss.map Vs.c) = spoolT ++ Lib.itoa N := by unfold statS; rw [if_pos c1]
    rw [e]
    simp +contextual (maxSteps := 3000000) only [↓code_seq, ↓code_region, ↓code_cond, ↓code_block, ↓code_ret, aCond_bool, ↓ops_nil, ↓ops_cons, run_none, ↓run0_v, ↓run0_r, ↓seqK_normal, ↓seqK_ret, ↓blkK_ret, ↓retK_ret, put_same, put_ne, env0_at, ev_tmp, ev_const, ev_func, oc_int, oc_str, o_move, o_assign, o_bin, o_call, o_load, o_nilCheck, o_fieldAddr, g_none, bin_gtr, nil_ptr, resultsOf, oneOrAll, Option.map_some, Option.getD_some, decide_eq_true_eq, ↓reduceIte, not_false_eq_true, Nat.reduceAdd, reduceCtorEq, List.getElem?_cons_zero, List.getElem?_cons_succ, Bool.false_eq_true, List.map_cons, List.map_nil, List.append_nil, List.nil_append, List.cons_append, gt_iff_lt, ne_eq, fa_ptr T73 p73_1 (by decide), load_p1 T3 a3, loadc_def, k1, hp, c1, k25, k44, cat, callV_fn (g := 44) (by decide), callV_fn (g := 32) (by decide), callV_fn (g := 25) (by decide)]
    rfl
  · have e1 : ∀ l, statS P.r N l = match l with
      | [] => idleT
      | c :: _ => busyT ++ Lib.itoa c := fun l => by unfold statS; exact if_neg c1
    have ess : (vp P dat js).ss = P.ss.map (vs dat) := rfl
    cases hss : P.ss with
    | nil =>
      have e : statS P.r N ((vp P dat js).ss.map Vs.c) = idleT := by rw [e1, ess, hss]; rfl
      rw [e]
      have c2 : ¬ (0 : Int) < ((P.ss.length : Nat) : Int) := by rw [hss, List.length_nil]; omega
      simp +contextual (maxSteps := 3000000) only [↓code_skip, ↓code_seq, ↓code_region, ↓code_cond, ↓code_block, ↓code_ret, aCond_bool, ↓ops_nil, ↓ops_cons, run_none, ↓run0_v, ↓run0_r, ↓seqK_normal, ↓blkK_normal, ↓retK_ret, put_same, put_ne, env0_at, ev_tmp, ev_const, ev_func, oc_int, oc_str, o_move, o_assign, o_bin, o_call, o_len, o_load, o_nilCheck, o_fieldAddr, g_none, bin_gtr, nil_ptr, resultsOf, oneOrAll, Option.map_some, Option.getD_some, decide_eq_true_eq, ↓reduceIte, not_false_eq_true, Nat.reduceAdd, reduceCtorEq, List.getElem?_cons_zero, List.getElem?_cons_succ, Bool.false_eq_true, List.map_cons, List.map_nil, List.append_nil, List.nil_append, gt_iff_lt, ne_eq, fa_ptr T73 p73_1 (by decide), load_p1 T3 a3, loadc_def, fa_ptr T73 p73_3 (by decide), load_p1 T71 a71, k1, hp, c1, hlens, c2, callV_fn (g := 32) (by decide)]
      rfl
    | cons x l =>
      have hx : P.ss[0]? = some x := by rw [hss]; rfl
      have b1 := hc (vs dat x) (by rw [ess]; exact List.mem_map_of_mem (List.mem_of_getElem? hx))
      have e : statS P.r N ((vp P dat js).ss.map Vs.c) = busyT ++ Lib.itoa x.c := by rw [e1, ess, hss]; rfl
      rw [e]
      obtain ⟨b, cs, kk, g1, g2, g3⟩ := loadS hP.ok.s hx
      have g1' : aIndexAddr T 71 P.sv (.int .i64 0) = some (.ptr b 0) := g1
      have hok := (hP.ok.b x (List.mem_of_getElem? hx)).2
      unfold Sv.ok Sv.enc at hok
      have k44 := fun m h => K44 (by assumption) m x.c h b1
      have cat := fun h => catP busyT x.c h (by decide) b1
      unfold busyT at cat
      have c2 : (0 : Int) < ((P.ss.length : Nat) : Int) := by rw [hss, List.length_cons]; omega
      simp +contextual (maxSteps := 3000000) only [↓code_seq, ↓code_region, ↓code_cond, ↓code_block, ↓code_ret, aCond_bool, ↓ops_nil, ↓ops_cons, run_none, ↓run0_v, ↓run0_r, ↓seqK_normal, ↓seqK_ret, ↓blkK_ret, ↓retK_ret, put_same, put_ne, env0_at, ev_tmp, ev_const, ev_func, oc_int, oc_str, o_move, o_assign, o_bin, o_call, o_len, o_load, o_nilCheck, o_fieldAddr, o_indexAddr, g_none, bin_gtr, nil_ptr, resultsOf, oneOrAll, Option.map_some, Option.getD_some, decide_eq_true_eq, ↓reduceIte, not_false_eq_true, Nat.reduceAdd, reduceCtorEq, List.getElem?_cons_zero, List.getElem?_cons_succ, Bool.false_eq_true, List.map_cons, List.map_nil, List.append_nil, List.nil_append, List.cons_append, gt_iff_lt, ne_eq, fa_ptr T73 p73_1 (by decide), load_p1 T3 a3, loadc_def, fa_ptr T73 p73_3 (by decide), load_p1 T71 a71, load_p1 T82 a82, fa_ptr T84 p84_0 (by decide), k1, hp, c1, hlens, c2, g1', g2, g3, hok, k44, cat, callV_fn (g := 44) (by decide), callV_fn (g := 32) (by decide)]
      rfl
def giveV (V : Vp) (c : Int) : Int × Vp := if c < 1 then (5, V) else match V.ws.findIdx? (pW c) with
  | some i => (0, { V with ws := V.ws.eraseIdx i })
  | none => match V.ss.findIdx? (fun s => decide (s.c = c)) with
    | some i => (0, { V with ss := V.ss.eraseIdx i })
    | none => (5, V)
theorem V15 {I : Nat → Option (List AV → AH → Rs)} (h32 : I 32 = none) (h36 : I 36 = none) (h58 : I 58 = none) (h37 : I 37 = none) (h57 : I 57 = none) (h38 : I 38 = none) (h39 : I 39 = none) (h15 : I 15 = none) (h59 : I 59 = none) (h60 : I 60 = none) (m p : Nat) (c : Int) (V : Vp) (off : Nat → Prop) (h : AH) (hV : OkV h p V off) (hq : ¬ V.q = 0) :
    ∃ h2 off2, call F I T (m + 303) 15 [.ptr p 0, .int .i64 c] h = some (.int .i64 (giveV V c).1, h2) ∧ OkV h2 p (giveV V c).2 off2 ∧ Stf h h2 off off2 := by
  obtain ⟨P, dat, js, hP, rfl, rfl⟩ := hV
  obtain ⟨v2, u2, h2, k1, k2, k3⟩ := run15 h32 h36 h58 h37 h57 h38 h39 h15 h59 h60 m p c P h hP.ok hq
  have hsub : ∀ s ∈ giveS P c, s ∈ P.ss := fun s hs => by
    unfold giveS at hs
    split at hs
    · exact hs
    · split at hs
      · exact hs
      · split at hs
        · exact List.mem_of_mem_eraseIdx hs
        · exact hs
  have h1 := hP.stp (dat2 := dat) k2 k3 rfl fun s hs => .inr ⟨s, hsub s hs, rfl, rfl, rfl⟩
  have fs := find_v P dat js c
  have ew : (vp P dat js).ws = P.ws := rfl
  have ess : (vp P dat js).ss = P.ss.map (vs dat) := rfl
  have key : (giveV (vp P dat js) c).1 = giveE P c ∧ (giveV (vp P dat js) c).2 = vp { P with wv := v2, ws := giveW P c, sv := u2, ss := giveS P c } dat js := by
    unfold giveV giveE giveW giveS
    rw [fs, ew]
    by_cases c1 : c < 1
    · simp only [if_pos c1]; exact ⟨trivial, rfl⟩
    · simp only [if_neg c1]
      cases hw : P.ws.findIdx? (pW c) with
      | some i => exact ⟨rfl, rfl⟩
      | none =>
        cases hs : P.ss.findIdx? (pS c) with
        | some i => exact ⟨rfl, by show _ = _; rw [ess]; unfold vp; simp only [map_eraseIdx]⟩
        | none => exact ⟨rfl, rfl⟩
  refine ⟨h2, _, by rw [key.1]; exact k1, ⟨_, dat, js, h1.1, key.2, rfl⟩, h1.2⟩
theorem loadJG {h : AH} {v : AV} {js : List Jb} {i : Nat} {j : Jb} (hr : RowG 2 h v js.length (jcs js)) (hj : js[i]? = some j) :
    ∃ b o cs k, aIndexAddr T 51 v (.int .i64 (i : Nat)) = some (.ptr b (o + i * 2)) ∧ h.get b = some (.cells cs k) ∧ o + i * 2 + 2 ≤ cs.length ∧ (cs.drop (o + i * 2)).take 2 = [.int .i64 j.c, j.d] ∧ cs[o + i * 2]? = some (.int .i64 j.c) ∧ cs[o + i * 2 + 0]? = some (.int .i64 j.c) ∧ cs[o + i * 2 + 1]? = some j.d ∧ ∃ l k z x, v = .sl b o l k z x := by
  have hi := (List.getElem?_eq_some_iff.1 hj).1
  rcases hr with ⟨_, h0, _⟩ | ⟨b, o, cap, ex, pre, rest, rfl, h1, h2, h3, h4, h5⟩
  · omega
  · have hat := jcs_at hj rest
    have e : ((pre ++ (jcs js ++ rest)).drop (o + i * 2)).take 2 = [.int .i64 j.c, j.d] := by
      rw [← List.drop_drop, ← h1, List.drop_left]; exact hat
    have t2 := take2 e
    refine ⟨b, o, _, _, ?_, h5, ?_, e, t2.1, t2.1, t2.2, _, _, _, _, rfl⟩
    · rw [ia_sl T51 d51 T58 s58, if_pos ⟨by omega, by omega⟩]; simp
    · simp only [List.length_append, h1, h2]
      have : (i + 1) * 2 ≤ js.length * 2 := Nat.mul_le_mul_right _ hi
      omega
theorem run23G {I : Nat → Option (List AV → AH → Rs)} (h23 : I 23 = none) (m : Nat) (v w : AV) (J K : List Jb) (h0 h : AH) (hJ : JR h0 h v J) (hK : RowG 2 h w K.length (jcs K)) (hKd : ∀ j ∈ K, Dat h j.d j.bs) (hJK : J.map jv = K.map jv) (hn : J.length ≤ m ∧ J.length ≤ 1000000) : call F I T (m + 20) 23 [v, w] h = some (.bool true, h) := by
  have hl : K.length = J.length := by have := congrArg List.length hJK; rw [List.length_map, List.length_map] at this; exact this.symm
  have l1 : ∀ h, aLen T 51 v h = some (.int .i64 (J.length : Nat)) := fun h => hJ.r.len T51 d51
  have l2 : ∀ h, aLen T 51 w h = some (.int .i64 (J.length : Nat)) := fun h => by rw [← hl]; exact hK.len T51 d51
  rw [call_F (by decide) h23 F23 rfl R23]; simp only [Tryd.f23, Option.getD]
  simp +contextual (maxSteps := 3000000) only [↓code_skip, ↓code_seq, ↓code_region, ↓code_cond, ↓code_block, ↓code_loop, aCond_bool, ↓ops_nil, ↓ops_cons, run_none, ↓run0_v, ↓seqK_normal, put_same, put_ne, env0_at, ev_tmp, ev_const, oc_int, oc_bool, o_move, o_assign, o_bin, o_len, g_none, bin_neq, Option.getD_some, ↓reduceIte, Nat.reduceEqDiff, not_false_eq_true, reduceCtorEq, List.getElem?_cons_zero, List.getElem?_cons_succ, Bool.false_eq_true, Bool.not_true, ne_eq, l1, l2, decide_true]
  refine iterL_wp (Q := fun r => r = some (.bool true, h)) (N := J.length) (Inv := fun k e h' => ∃ i, k + i = J.length ∧ h' = h ∧ i ≤ J.length ∧ e 0 = v ∧ e 1 = w ∧ e 5 = .int .i64 (i : Nat)) ?_ ?_ (show J.length < m + 19 by omega)
  · rintro k e h' K' ⟨i, hk, hh, hil, e0, e1, e5⟩ hnext hexit
    subst hh
    by_cases hi : i < J.length
    · have c1 : (i : Int) < (J.length : Int) := by omega
      obtain ⟨a, ha⟩ : ∃ a, J[i]? = some a := ⟨J[i], List.getElem?_eq_getElem hi⟩
      obtain ⟨b, hb⟩ : ∃ b, K[i]? = some b := ⟨K[i]'(by omega), List.getElem?_eq_getElem (by omega)⟩
      have hab : jv a = jv b := by
        have := congrArg (fun l => l[i]?) hJK
        simp only [List.getElem?_map, ha, hb, Option.map_some] at this
        simpa using this
      have hc : b.c = a.c := (congrArg Prod.fst hab).symm
      have hd : b.bs = a.bs := (congrArg Prod.snd hab).symm
      obtain ⟨b1, x1, y1, g1, g2, g3, g4⟩ := loadJ hJ.r ha
      obtain ⟨b2, o2, x2, y2, q1, q2, q3, q4, q5, q6, q7, _⟩ := loadJG hK hb
      have g5 := take2 g4
      rw [hc] at q5 q6
      have s1' := dat_str (hJ.d a (List.mem_of_getElem? ha))
      have s2' := dat_str (hKd b (List.mem_of_getElem? hb))
      rw [hd] at s2'
      have g6 : x1[i * 2 + 0]? = some (.int .i64 a.c) := g5.1
      have c7 : IntKind.i64.wrap ((i : Int) + 1) = ((i + 1 : Nat) : Int) := by rw [wrap_i64 (by omega) (by omega)]; rfl
      simp +contextual (maxSteps := 3000000) only [↓code_skip, ↓code_seq, ↓code_region, ↓code_cond, ↓code_block, aCond_bool, ↓ops_nil, ↓ops_cons, run_none, run_someF, ↓run0_v, ↓run0_r, ↓seqK_normal, ↓blkK_normal, put_same, put_ne, ev_tmp, ev_const, oc_int, oc_bool, o_move, o_assign, o_pick, o_bin, o_len, o_load, o_convert, o_fieldAddr, o_indexAddr, g_none, g_some, pick_bool, bin_add, bin_neq, bin_lss, str_neq, Option.bind_some, ↓reduceIte, Nat.reduceEqDiff, not_false_eq_true, reduceCtorEq, List.getElem?_cons_zero, List.getElem?_cons_succ, List.getElem?_toArray, Bool.false_eq_true, Bool.not_true, ne_eq, fa_ptr T58 p58_0 (by decide), load_p1 T3 a3, loadc_def, fa_ptr T58 p58_1 (by decide), load_p1 T48 a48, e0, e1, e5, c1, l1, g1, g2, g5.2, g6, q1, q2, q6, q7, s1', s2', decide_true, c7]
      refine hnext (k - 1) _ _ (by omega) ⟨i + 1, by omega, ?_, ?_, ?_, ?_, ?_⟩
      · rfl
      · omega
      · simp only [put_ne, not_false_eq_true, reduceCtorEq, ne_eq, e0]
      · simp only [put_ne, Nat.reduceEqDiff, not_false_eq_true, ne_eq, e1]
      · simp only [put_same]
    · have c1 : ¬ (i : Int) < (J.length : Int) := by omega
      simp +contextual (maxSteps := 3000000) only [↓code_seq, ↓code_region, ↓code_cond, ↓code_exit, aCond_bool, ↓ops_nil, ↓ops_cons, run_none, ↓run0_v, ↓seqK_normal, ↓seqK_exit, put_same, put_ne, ev_tmp, o_move, o_bin, o_len, g_none, bin_lss, decide_eq_true_eq, ↓reduceIte, Nat.reduceEqDiff, not_false_eq_true, reduceCtorEq, ne_eq, e0, e5, c1, l1]
      refine hexit _ _ _ (by simp) ?_
      simp +contextual (maxSteps := 3000000) only [↓code_seq, ↓code_region, ↓code_ret, ↓ops_nil, ↓ops_cons, run_none, ↓run0_v, ↓seqK_normal, ↓blkK_exit, ↓retK_ret, put_same, ev_const, oc_bool, o_assign, g_none, resultsOf, oneOrAll, Option.map_some, ↓reduceIte]
  · refine ⟨0, by omega, ?_, ?_, ?_, ?_, ?_⟩
    · rfl
    · omega
    · simp only [put_ne, env0_at, Option.getD_some, not_false_eq_true, reduceCtorEq, List.getElem?_cons_zero, ne_eq]
    · simp only [put_ne, env0_at, Option.getD_some, Nat.reduceEqDiff, not_false_eq_true, List.getElem?_cons_zero, List.getElem?_cons_succ, ne_eq]
    · simp only [put_same]; rfl
end Go.AM.X
namespace Go.AM.X
open Go Go.AM Go.Proofs Go.AM.Sx
set_option maxHeartbeats 1600000
set_option maxRecDepth 100000
set_option linter.unusedVariables false
/-- The row of those that wait is written in place. -/
theorem OkR.putW {h h2 : AH} {p : Nat} {R : Rf} {l : List Wt} (hR : OkR h p R) (hn : h2.next = h.next) (hk : ∀ c, offRow R.wv c → h2.get c = h.get c) (hr : RowC 7 h2 R.wv l.length (rcs (l.map rcw))) (hm : ∀ w ∈ l, okB w.b) :
    OkR h2 p { R with ws := l } ∧ Stf h h2 (R.off p) (({ R with ws := l } : Rf).off p) := by
  have hS : Stf h h2 (R.off p) (({ R with ws := l } : Rf).off p) := ⟨by omega, fun c hc ho => ⟨hk c ho.2.2, ho⟩⟩
  exact ⟨{ g := by rw [hk p hR.wp]; exact hR.g, lt := by have := hR.lt; omega, s := hR.s.keep (by omega) fun b o l k z x e => hk b ((hR.sw b).resolve_left fun g => g _ _ _ _ _ _ e rfl), w := hr, sp := hR.sp, wp := hR.wp, sw := hR.sw, j := hR.j.stf hS, u := hR.u.stf hS, jd := fun j hj => (hR.jd j hj).stf hS, ud := fun j hj => (hR.ud j hj).stf hS, sd := fun c hc => ⟨(hR.sd c hc).1.stf hS, (hR.sd c hc).2⟩, wd := hm }, hS⟩
/-- The row of the served ones is written in place. -/
theorem OkR.putS {h h2 : AH} {p : Nat} {R : Rf} {l : List Rc} (hR : OkR h p R) (hn : h.next ≤ h2.next) (hk : ∀ c, c < h.next → offRow R.sv c → h2.get c = h.get c) (hr : RowC 7 h2 R.sv l.length (rcs l))
    (hm : ∀ c ∈ l, ImD h2 (R.off p) c.dv c.d ∧ okB c.by_) : OkR h2 p { R with ss := l } ∧ Stf h h2 (R.off p) (({ R with ss := l } : Rf).off p) := by
  have hS : Stf h h2 (R.off p) (({ R with ss := l } : Rf).off p) := ⟨hn, fun c hc ho => ⟨hk c hc ho.2.1, ho⟩⟩
  exact ⟨{ g := by rw [hk p hR.lt hR.sp]; exact hR.g, lt := Nat.lt_of_lt_of_le hR.lt hn, s := hr, w := hR.w.keep hn fun b o l k z x e => hk b (hR.w.lt e) ((hR.sw b).resolve_right fun g => g _ _ _ _ _ _ e rfl), sp := hR.sp, wp := hR.wp, sw := hR.sw, j := hR.j.stf hS, u := hR.u.stf hS, jd := fun j hj => (hR.jd j hj).stf hS, ud := fun j hj => (hR.ud j hj).stf hS, sd := hm, wd := hR.wd }, hS⟩
/-- One more is served. -/
theorem OkR.pushS {h : AH} {p : Nat} {R : Rf} (hR : OkR h p R) (c : Rc) (hb : okB c.by_) (hd : c.dv = .nils ∧ c.d = []) (hl : R.ss.length ≤ 1000) :
    ∃ v' h2, aAppend T 101 101 R.sv (.sl h.next 0 1 1 7 true) (h.alloc (.cells c.av .own)) = some (v', h2) ∧ aStore T 101 (.ptr p 2) v' h2 = some (h2.put p (.cells ({ R with sv := v', ss := R.ss ++ [c] } : Rf).cs .own)) ∧ OkR (h2.put p (.cells ({ R with sv := v', ss := R.ss ++ [c] } : Rf).cs .own)) p { R with sv := v', ss := R.ss ++ [c] } ∧
      Stf h (h2.put p (.cells ({ R with sv := v', ss := R.ss ++ [c] } : Rf).cs .own)) (R.off p) (({ R with sv := v', ss := R.ss ++ [c] } : Rf).off p) := by
  have hone : c.av.all AV.one = true := by
    have := hb.one.1
    simp only [Rc.av, hd.1, List.all_cons, List.all_nil, this]; rfl
  obtain ⟨v', h2, q1, q2, q3, q4, q5⟩ := hR.s.push (new := c.av) T101 d101 T106 s106 (by decide) (by rw [b106]; decide) rfl hone (by rw [b106]; simp [maxBytes]; omega)
  have hlt := hR.lt
  have hp2 : h2.get p = some (.cells R.cs .own) := by rw [q4 p hlt hR.sp]; exact hR.g
  have hcs : rcs R.ss ++ c.av = rcs (R.ss ++ [c]) := by rw [rcs, rcs, fl_app]; simp [fl]
  rw [hcs, show R.ss.length + 1 = (R.ss ++ [c]).length by simp] at q2
  have sp2 : offRow v' p := off_new q5 hlt hR.sp
  have hS : Stf h (h2.put p (.cells ({ R with sv := v', ss := R.ss ++ [c] } : Rf).cs .own)) (R.off p) (({ R with sv := v', ss := R.ss ++ [c] } : Rf).off p) :=
    ⟨by rw [AH.next_put]; omega, fun x hx ho => ⟨by rw [AH.get_put, if_neg ho.1, q4 x hx ho.2.1], ho.1, off_new q5 hx ho.2.1, ho.2.2⟩⟩
  refine ⟨v', h2, q1, store_1 (cs := R.cs) T101 s101 (RowC.cells q2).1 (RowC.cells q2).2 hp2 (by simp [Rf.cs]), { g := by rw [AH.get_put, if_pos rfl], lt := by rw [AH.next_put]; omega, s := q2.keep (Nat.le_refl _) fun b o l k z x e => by rw [AH.get_put, if_neg (fun g => sp2 _ _ _ _ _ _ e g.symm)], w := hR.w.keep (by rw [AH.next_put]; omega) fun b o l k z x e => ?_, sp := sp2, wp := hR.wp, sw := fun x => ?_, j := hR.j.stf hS, u := hR.u.stf hS, jd := fun j hj => (hR.jd j hj).stf hS, ud := fun j hj => (hR.ud j hj).stf hS, sd := fun x hx => ?_, wd := hR.wd }, hS⟩
  · have hbl := hR.w.lt e
    rw [AH.get_put, if_neg (fun g => hR.wp _ _ _ _ _ _ e g.symm), q4 b hbl ((hR.sw b).resolve_right fun g => g _ _ _ _ _ _ e rfl)]
  · rcases Nat.lt_or_ge x h.next with hx | hx
    · rcases hR.sw x with g | g
      · exact .inl (off_new q5 hx g)
      · exact .inr g
    · exact .inr fun b o l k z y e => by have := hR.w.lt e; omega
  · rcases List.mem_append.1 hx with g | g
    · exact ⟨(hR.sd x g).1.stf hS, (hR.sd x g).2⟩
    · rw [List.mem_singleton.1 g, hd.1, hd.2]; exact ⟨ImD.nil _ _, hb⟩
theorem store_c (h : AH) (c : Rc) (ho : c.av.all AV.one = true) : ∃ h2, aStore T 106 (.ptr h.next 0) (.agg [.int .i64 c.who, .int .i64 c.wt, .int .i64 c.si, .int .i64 c.nx, .bool c.tk, c.dv, c.by_]) (h.alloc (.cells [.int .i64 0, .int .i64 0, .int .i64 0, .int .i64 0, .bool false, .nils, .nilp] .own)) = some h2 ∧ h2.next = h.next + 1 ∧ h2.get h.next = some (.cells [.int .i64 c.who, .int .i64 c.wt, .int .i64 c.si, .int .i64 c.nx, .bool c.tk, c.dv, c.by_] .own) ∧ Grow h h2 := by
  have h1 := store_n (T := T) (t := 106) (b := h.next) (o := 0) (v := .agg c.av) (vs := c.av) (h := h.alloc (.cells [.int .i64 0, .int .i64 0, .int .i64 0, .int .i64 0, .bool false, .nils, .nilp] .own)) (cs := [.int .i64 0, .int .i64 0, .int .i64 0, .int .i64 0, .bool false, .nils, .nilp]) T106 rfl (by rw [s106]; rfl) ho (by rw [AH.get_alloc, if_pos rfl]) (by simp [Rc.len])
  exact ⟨_, h1, by simp, by rw [AH.get_put, if_pos rfl]; rfl, by simp, fun x hx => by rw [AH.get_put, if_neg (by omega), AH.get_alloc, if_neg (by omega)]⟩
def incR (c : Rc) : Rc := { c with si := c.si + 1 }
def stayR (c : Rc) : Bool := decide (c.si < 30)
def incT (s : Ts) : Ts := { s with s := s.s + 1 }
def stayT (s : Ts) : Bool := decide (s.s < 30)
def newT (w : Wt) : Ts := ⟨w.c, 0, 1, false, [], w.b⟩
def newR (w : Wt) : Rc := ⟨w.c, 0, 0, 1, false, .nils, [], w.b⟩
def keptT (Q : Tp) : List Ts := (Q.ss.map incT).filter stayT
def freeT (Q : Tp) : Nat := (max Q.r 1).toNat - (keptT Q).length
def tickT (Q : Tp) : Tp := { Q with ws := (serveL (freeT Q) (Q.ws.map incW)).2, ss := keptT Q ++ (serveL (freeT Q) (Q.ws.map incW)).1.map newT }
end Go.AM.X
