/- Printers: a spooler's queue. Own work. -/
import Derived.Test.YtleefbnanliliaaDoorPpgF
namespace Go.AM.X
open Go Go.AM Go.Proofs Go.AM.Sx
set_option maxHeartbeats 3200000
set_option maxRecDepth 100000
set_option linter.unusedVariables false
theorem run25 {I : Nat → Option (List AV → AH → Rs)} (h32 : I 32 = none) (h25 : I 25 = none) (m p : Nat) (P : Pr) (dat : Nat → List Int) (js : List Jb) (h : AH) (hP : OkD h p P dat js) (hq : ¬ P.q = 0) (hb : js.length ≤ 1000000 ∧ 0 ≤ P.lf ∧ P.lf ≤ 1000000) :
    call F I T (m + 10) 25 [.ptr p 0] h = some (.int .i64 (if P.r = 0 then 0 else (js.length : Nat) - P.lf), h) := by
  have k1 := fun m => run32 (by assumption) m p P.q P.r P.wv P.sv P.jv P.lf h hP.ok.g hq
  have hp : h.get p = some (.cells [.int .i64 P.q, .int .i64 P.r, P.wv, P.sv, P.jv, .int .i64 P.lf] .own) := hP.ok.g
  have hlen : ∀ h, aLen T 51 P.jv h = some (.int .i64 (js.length : Nat)) := fun h => hP.jr.len T51 d51
  have c1 : IntKind.i64.wrap ((js.length : Int) - P.lf) = (js.length : Int) - P.lf := wrap_i64 (by omega) (by omega)
  by_cases hr : P.r = 0
  · rw [if_pos hr]
    rw [call_F (by decide) h25 F25 rfl R25]; simp only [Tryd.f25, Option.getD]
    simp +contextual (maxSteps := 3000000) only [↓code_seq, ↓code_region, ↓code_cond, ↓code_ret, aCond_bool, ↓ops_nil, ↓ops_cons, run_none, run_someF, ↓run0_v, ↓run0_r, ↓seqK_normal, ↓seqK_ret, ↓retK_ret, put_same, put_ne, env0_at, ev_tmp, ev_const, ev_func, oc_int, oc_bool, o_move, o_assign, o_pick, o_bin, o_call, o_load, o_nilCheck, o_fieldAddr, g_none, g_some, pick_bool, bin_eql, nil_ptr, resultsOf, oneOrAll, Option.bind_some, Option.map_some, Option.getD_some, decide_eq_true_eq, ↓reduceIte, Nat.reduceEqDiff, not_false_eq_true, Nat.reduceAdd, reduceCtorEq, List.getElem?_cons_zero, List.getElem?_cons_succ, List.getElem?_toArray, Bool.false_eq_true, List.map_cons, List.map_nil, List.append_nil, List.nil_append, ne_eq, fa_ptr T73 p73_1 (by decide), load_p1 T3 a3, loadc_def, k1, hp, hr, callV_fn (g := 32) (by decide)]
  · rw [if_neg hr]
    rw [call_F (by decide) h25 F25 rfl R25]; simp only [Tryd.f25, Option.getD]
    simp +contextual (maxSteps := 3000000) only [↓code_skip, ↓code_seq, ↓code_region, ↓code_cond, ↓code_ret, aCond_bool, ↓ops_nil, ↓ops_cons, run_none, run_someF, ↓run0_v, ↓run0_r, ↓seqK_normal, ↓retK_ret, put_same, put_ne, env0_at, ev_tmp, ev_const, ev_func, oc_int, oc_bool, o_move, o_assign, o_pick, o_bin, o_call, o_len, o_load, o_nilCheck, o_fieldAddr, g_none, g_some, pick_bool, bin_sub, bin_eql, nil_ptr, resultsOf, oneOrAll, Option.bind_some, Option.map_some, Option.getD_some, decide_eq_true_eq, ↓reduceIte, Nat.reduceEqDiff, not_false_eq_true, Nat.reduceAdd, reduceCtorEq, List.getElem?_cons_zero, List.getElem?_cons_succ, List.getElem?_toArray, Bool.false_eq_true, List.map_cons, List.map_nil, List.append_nil, List.nil_append, ne_eq, fa_ptr T73 p73_1 (by decide), load_p1 T3 a3, loadc_def, fa_ptr T73 p73_4 (by decide), load_p1 T51 a51, fa_ptr T73 p73_5 (by decide), k1, hp, hr, hlen, c1, callV_fn (g := 32) (by decide)]
end Go.AM.X
namespace Go.AM.X
open Go Go.AM Go.Proofs Go.AM.Sx
set_option maxHeartbeats 3200000
set_option maxRecDepth 100000
set_option linter.unusedVariables false
theorem F21 : F 21 = some { body := (Tryd.f21.body.getD .skip), results := Tryd.f21.results.toList, rf := false } := by kernel_rfl
theorem R21 : regsOk T (Tryd.f21.body.getD .skip) = true := by kernel_rfl
/-- What bars a piece: none is served there (5), or the piece is no piece (2). -/
def sendBar (P : Pr) (c n : Int) (k : Nat) (en : Bool) : Option Int :=
  if c < 1 ∨ P.ss.findIdx? (pS c) = none then some 5
  else if P.q < (k : Int) ∨ (k = 0 ∧ en = false) ∨ within n 1 255 = false then some 2 else none
theorem run21no {I : Nat → Option (List AV → AH → Rs)} (h30 : I 30 = none) (h32 : I 32 = none) (h57 : I 57 = none) (h38 : I 38 = none) (h39 : I 39 = none) (h43 : I 43 = none) (h42 : I 42 = none) (h21 : I 21 = none) (h60 : I 60 = none) (m p : Nat) (c n : Int) (x : AV) (k : Nat) (en : Bool) (P : Pr) (h : AH) (hP : OkP h p P) (hq : ¬ P.q = 0) (hxl : ∀ h, aLen T 48 x h = some (.int .i64 (k : Nat))) (e : Int) (hB : sendBar P c n k en = some e) :
    call F I T (m + 310) 21 [.ptr p 0, .int .i64 c, .int .i64 n, x, .bool en] h = some (.int .i64 e, h.alloc (.cells [.int .i64 c] .own)) := by
  have k1 := run32 h32 (m + 308) p P.q P.r P.wv P.sv P.jv P.lf h hP.g hq
  have k3 := run38 h57 h38 h60 (m + 8) p c P h hP
  have hO3 := hP.grow (Grow.alloc h (.cells [.int .i64 c] .own))
  obtain ⟨h3, hh3⟩ : ∃ h3, h3 = h.alloc (.cells [.int .i64 c] .own) := ⟨_, rfl⟩
  rw [← hh3] at k3 hO3 ⊢
  have hp3 : h3.get p = some (.cells [.int .i64 P.q, .int .i64 P.r, P.wv, P.sv, P.jv, .int .i64 P.lf] .own) := hO3.g
  unfold sendBar at hB
  rcases idx_find (pS c) P.ss 0 with ⟨i, j1, j2, j3⟩ | ⟨j1, j2⟩
  · rw [j1, Nat.zero_add] at k3
    have c8 : ¬ ((i : Nat) : Int) < 0 := by omega
    by_cases c1 : c < 1
    · rw [if_pos (.inl c1)] at hB
      cases hB
      rw [call_F (by decide) h21 F21 rfl R21]; simp only [Tryd.f21, Option.getD]
      simp +contextual (maxSteps := 3000000) only [↓code_skip, ↓code_seq, ↓code_region, ↓code_cond, ↓code_block, ↓code_ret, aCond_bool, ↓ops_nil, ↓ops_cons, run_none, run_someF, ↓run0_v, ↓run0_r, ↓seqK_normal, ↓seqK_ret, ↓blkK_ret, ↓retK_ret, put_same, put_ne, env0_at, ev_tmp, ev_const, ev_func, oc_int, oc_bool, o_move, o_assign, o_pick, o_bin, o_call, g_none, g_some, pick_bool, bin_lss, resultsOf, oneOrAll, Option.bind_some, Option.map_some, Option.getD_some, decide_eq_true_eq, ↓reduceIte, Nat.reduceEqDiff, not_false_eq_true, reduceCtorEq, List.getElem?_cons_zero, List.getElem?_cons_succ, List.getElem?_toArray, Bool.false_eq_true, List.map_cons, List.map_nil, List.append_nil, List.nil_append, ne_eq, k1, k3, c8, c1, callV_fn (g := 32) (by decide), callV_fn (g := 38) (by decide)]
    · rw [if_neg (by rw [j2]; simp; omega)] at hB
      by_cases c2 : P.q < (k : Int)
      · rw [if_pos (.inl c2)] at hB
        cases hB
        rw [call_F (by decide) h21 F21 rfl R21]; simp only [Tryd.f21, Option.getD]
        simp +contextual (maxSteps := 3000000) only [↓code_skip, ↓code_seq, ↓code_region, ↓code_cond, ↓code_block, ↓code_ret, aCond_bool, ↓ops_nil, ↓ops_cons, run_none, run_someF, run_tup, ↓run0_v, ↓run0_r, ↓seqK_normal, ↓seqK_ret, ↓blkK_ret, ↓retK_ret, put_same, put_ne, env0_at, ev_tmp, ev_const, ev_func, oc_int, oc_bool, o_move, o_assign, o_pick, o_bin, o_call, o_len, o_load, o_nilCheck, o_un, o_fieldAddr, g_none, g_some, pick_bool, bin_lss, bin_gtr, nil_ptr, resultsOf, oneOrAll, Option.bind_some, Option.map_some, Option.getD_some, decide_eq_true_eq, ↓reduceIte, Nat.reduceEqDiff, not_false_eq_true, Nat.reduceAdd, reduceCtorEq, List.getElem?_cons_zero, List.getElem?_cons_succ, List.getElem?_toArray, Bool.false_eq_true, List.map_cons, List.map_nil, List.append_nil, List.nil_append, gt_iff_lt, ne_eq, fa_ptr T73 p73_0 (by decide), load_p1 T3 a3, loadc_def, callV_fn (g := 30) (by decide), k1, k3, c8, c1, c2, hp3, hxl, callV_fn (g := 32) (by decide), callV_fn (g := 38) (by decide)]
      · by_cases c3 : (k : Int) = 0
        · cases en with
          | false =>
            rw [if_pos (.inr (.inl ⟨by omega, rfl⟩))] at hB
            cases hB
            rw [call_F (by decide) h21 F21 rfl R21]; simp only [Tryd.f21, Option.getD]
            simp +contextual (maxSteps := 3000000) only [↓code_skip, ↓code_seq, ↓code_region, ↓code_cond, ↓code_block, ↓code_ret, aCond_bool, ↓ops_nil, ↓ops_cons, run_none, run_someT, run_someF, run_tup, ↓run0_v, ↓run0_r, ↓seqK_normal, ↓seqK_ret, ↓blkK_ret, ↓retK_ret, put_same, put_ne, env0_at, ev_tmp, ev_const, ev_func, oc_int, oc_bool, o_move, o_assign, o_pick, o_bin, o_call, o_len, o_load, o_nilCheck, o_un, o_fieldAddr, g_none, g_some, pick_bool, bin_eql, bin_lss, bin_gtr, un_not, nil_ptr, resultsOf, oneOrAll, Option.bind_some, Option.map_some, Option.getD_some, decide_eq_true_eq, ↓reduceIte, Nat.reduceEqDiff, not_false_eq_true, Nat.reduceAdd, reduceCtorEq, List.getElem?_cons_zero, List.getElem?_cons_succ, List.getElem?_toArray, Bool.false_eq_true, List.map_cons, List.map_nil, List.append_nil, List.nil_append, ite_self, gt_iff_lt, Bool.not_false, ne_eq, fa_ptr T73 p73_0 (by decide), load_p1 T3 a3, loadc_def, callV_fn (g := 30) (by decide), k1, k3, c8, c1, c3, hp3, hxl, callV_fn (g := 32) (by decide), callV_fn (g := 38) (by decide)]
          | true =>
            cases c4 : within n 1 255
            · rw [if_pos (.inr (.inr c4))] at hB
              cases hB
              rw [call_F (by decide) h21 F21 rfl R21]; simp only [Tryd.f21, Option.getD]
              simp +contextual (maxSteps := 3000000) only [↓code_skip, ↓code_seq, ↓code_region, ↓code_cond, ↓code_block, ↓code_ret, aCond_bool, ↓ops_nil, ↓ops_cons, run_none, run_someT, run_someF, run_tup, ↓run0_v, ↓run0_r, ↓seqK_normal, ↓seqK_ret, ↓blkK_ret, ↓retK_ret, put_same, put_ne, env0_at, ev_tmp, ev_const, ev_func, oc_int, oc_bool, o_move, o_assign, o_pick, o_bin, o_call, o_len, o_load, o_nilCheck, o_un, o_fieldAddr, g_none, g_some, pick_bool, bin_eql, bin_lss, bin_gtr, un_not, nil_ptr, resultsOf, oneOrAll, Option.bind_some, Option.map_some, Option.getD_some, decide_eq_true_eq, ↓reduceIte, Nat.reduceEqDiff, not_false_eq_true, Nat.reduceAdd, reduceCtorEq, List.getElem?_cons_zero, List.getElem?_cons_succ, List.getElem?_toArray, Bool.false_eq_true, List.map_cons, List.map_nil, List.append_nil, List.nil_append, ite_self, gt_iff_lt, Bool.not_true, Bool.not_false, ne_eq, fa_ptr T73 p73_0 (by decide), load_p1 T3 a3, loadc_def, K30 h30, k1, k3, c8, c1, c3, c4, hp3, hxl, callV_fn (g := 32) (by decide), callV_fn (g := 38) (by decide), callV_fn (g := 30) (by decide)]
            · rw [if_neg (by rw [c4]; simp; omega)] at hB; cases hB
        · cases c4 : within n 1 255
          · rw [if_pos (.inr (.inr c4))] at hB
            cases hB
            rw [call_F (by decide) h21 F21 rfl R21]; simp only [Tryd.f21, Option.getD]
            simp +contextual (maxSteps := 3000000) only [↓code_skip, ↓code_seq, ↓code_region, ↓code_cond, ↓code_block, ↓code_ret, aCond_bool, ↓ops_nil, ↓ops_cons, run_none, run_someT, run_someF, ↓run0_v, ↓run0_r, ↓seqK_normal, ↓seqK_ret, ↓blkK_ret, ↓retK_ret, put_same, put_ne, env0_at, ev_tmp, ev_const, ev_func, oc_int, oc_bool, o_move, o_assign, o_pick, o_bin, o_call, o_len, o_load, o_nilCheck, o_un, o_fieldAddr, g_none, g_some, pick_bool, bin_eql, bin_lss, bin_gtr, un_not, nil_ptr, resultsOf, oneOrAll, Option.bind_some, Option.map_some, Option.getD_some, decide_eq_true_eq, ↓reduceIte, Nat.reduceEqDiff, not_false_eq_true, Nat.reduceAdd, reduceCtorEq, List.getElem?_cons_zero, List.getElem?_cons_succ, List.getElem?_toArray, Bool.false_eq_true, List.map_cons, List.map_nil, List.append_nil, List.nil_append, gt_iff_lt, Bool.not_false, ne_eq, fa_ptr T73 p73_0 (by decide), load_p1 T3 a3, loadc_def, K30 h30, k1, k3, c8, c1, c2, c3, c4, hp3, hxl, callV_fn (g := 32) (by decide), callV_fn (g := 38) (by decide), callV_fn (g := 30) (by decide)]
          · rw [if_neg (by rw [c4]; simp; omega)] at hB; cases hB
  · rw [j1] at k3
    rw [if_pos (.inr j2)] at hB
    cases hB
    rw [call_F (by decide) h21 F21 rfl R21]; simp only [Tryd.f21, Option.getD]
    simp +contextual (maxSteps := 3000000) only [↓code_skip, ↓code_seq, ↓code_region, ↓code_cond, ↓code_block, ↓code_ret, aCond_bool, ↓ops_nil, ↓ops_cons, run_none, run_someF, ↓run0_v, ↓run0_r, ↓seqK_normal, ↓seqK_ret, ↓blkK_ret, ↓retK_ret, put_same, put_ne, env0_at, ev_tmp, ev_const, ev_func, oc_int, oc_bool, o_move, o_assign, o_pick, o_bin, o_call, g_none, g_some, pick_bool, bin_lss, resultsOf, oneOrAll, Option.bind_some, Option.map_some, Option.getD_some, decide_eq_true_eq, ↓reduceIte, Nat.reduceEqDiff, not_false_eq_true, reduceCtorEq, List.getElem?_cons_zero, List.getElem?_cons_succ, List.getElem?_toArray, Bool.false_eq_true, List.map_cons, List.map_nil, List.append_nil, List.nil_append, ne_eq, k1, k3, (show (-1 : Int) < 0 by decide), callV_fn (g := 32) (by decide), callV_fn (g := 38) (by decide)]
end Go.AM.X
namespace Go.AM.X
open Go Go.AM Go.Proofs Go.AM.Sx
set_option maxHeartbeats 3200000
set_option maxRecDepth 100000
set_option linter.unusedVariables false
/-- A piece that nothing bars goes on to `send`. -/
theorem run21yes {I : Nat → Option (List AV → AH → Rs)} (h30 : I 30 = none) (h32 : I 32 = none) (h57 : I 57 = none) (h38 : I 38 = none) (h39 : I 39 = none) (h43 : I 43 = none) (h42 : I 42 = none) (h21 : I 21 = none) (h60 : I 60 = none) (m p i : Nat) (c n : Int) (x : AV) (k : Nat) (en : Bool) (P : Pr) (h : AH) (hP : OkP h p P) (hq : ¬ P.q = 0) (hxl : ∀ h, aLen T 48 x h = some (.int .i64 (k : Nat))) (hi : P.ss.findIdx? (pS c) = some i) (hB : sendBar P c n k en = none) (r : AV) (h2 : AH)
    (k42 : call F I T (m + 309) 42 [.ptr p 0, .int .i64 (i : Nat), .int .i64 n, x, .bool en] (h.alloc (.cells [.int .i64 c] .own)) = some (r, h2)) :
    call F I T (m + 310) 21 [.ptr p 0, .int .i64 c, .int .i64 n, x, .bool en] h = some (r, h2) := by
  have k1 := run32 h32 (m + 308) p P.q P.r P.wv P.sv P.jv P.lf h hP.g hq
  have k3 := run38 h57 h38 h60 (m + 8) p c P h hP
  have hO3 := hP.grow (Grow.alloc h (.cells [.int .i64 c] .own))
  obtain ⟨h3, hh3⟩ : ∃ h3, h3 = h.alloc (.cells [.int .i64 c] .own) := ⟨_, rfl⟩
  rw [← hh3] at k3 hO3 k42
  have hp3 : h3.get p = some (.cells [.int .i64 P.q, .int .i64 P.r, P.wv, P.sv, P.jv, .int .i64 P.lf] .own) := hO3.g
  unfold sendBar at hB
  rcases idx_find (pS c) P.ss 0 with ⟨i', j1, j2, j3⟩ | ⟨j1, j2⟩
  · rw [hi] at j2
    cases j2
    rw [j1, Nat.zero_add] at k3
    have c8 : ¬ ((i : Nat) : Int) < 0 := by omega
    by_cases c1 : c < 1
    · rw [if_pos (.inl c1)] at hB; cases hB
    · rw [if_neg (by rw [hi]; simp; omega)] at hB
      by_cases c2 : P.q < (k : Int)
      · rw [if_pos (.inl c2)] at hB; cases hB
      · cases c4 : within n 1 255
        · rw [if_pos (.inr (.inr c4))] at hB; cases hB
        · by_cases c3 : (k : Int) = 0
          · cases en with
            | false => rw [if_pos (.inr (.inl ⟨by omega, rfl⟩))] at hB; cases hB
            | true =>
              have c5 : ¬ P.q < 0 := by omega
              rw [call_F (by decide) h21 F21 rfl R21]; simp only [Tryd.f21, Option.getD]
              simp +contextual (maxSteps := 3000000) only [↓code_skip, ↓code_seq, ↓code_region, ↓code_cond, ↓code_block, ↓code_ret, aCond_bool, ↓ops_nil, ↓ops_cons, run_none, run_someT, run_someF, ↓run0_v, ↓run0_r, ↓seqK_normal, ↓blkK_normal, ↓retK_ret, put_same, put_ne, env0_at, ev_tmp, ev_const, ev_func, oc_int, oc_bool, o_move, o_assign, o_pick, o_bin, o_call, o_len, o_load, o_nilCheck, o_un, o_fieldAddr, g_none, g_some, pick_bool, bin_eql, bin_lss, bin_gtr, un_not, nil_ptr, resultsOf, oneOrAll, Option.bind_some, Option.map_some, Option.getD_some, decide_eq_true_eq, ↓reduceIte, Nat.reduceEqDiff, not_false_eq_true, Nat.reduceAdd, reduceCtorEq, List.getElem?_cons_zero, List.getElem?_cons_succ, List.getElem?_toArray, Bool.false_eq_true, List.map_cons, List.map_nil, List.append_nil, List.nil_append, gt_iff_lt, Bool.not_true, ne_eq, fa_ptr T73 p73_0 (by decide), load_p1 T3 a3, loadc_def, K30 h30, k1, k3, c8, c1, c5, c3, c4, hp3, hxl, k42, callV_fn (g := 32) (by decide), callV_fn (g := 38) (by decide), callV_fn (g := 30) (by decide), callV_fn (g := 42) (by decide)]
          · rw [call_F (by decide) h21 F21 rfl R21]; simp only [Tryd.f21, Option.getD]
            simp +contextual (maxSteps := 3000000) only [↓code_skip, ↓code_seq, ↓code_region, ↓code_cond, ↓code_block, ↓code_ret, aCond_bool, ↓ops_nil, ↓ops_cons, run_none, run_someT, run_someF, ↓run0_v, ↓run0_r, ↓seqK_normal, ↓blkK_normal, ↓retK_ret, put_same, put_ne, env0_at, ev_tmp, ev_const, ev_func, oc_int, oc_bool, o_move, o_assign, o_pick, o_bin, o_call, o_len, o_load, o_nilCheck, o_un, o_fieldAddr, g_none, g_some, pick_bool, bin_eql, bin_lss, bin_gtr, un_not, nil_ptr, resultsOf, oneOrAll, Option.bind_some, Option.map_some, Option.getD_some, decide_eq_true_eq, ↓reduceIte, Nat.reduceEqDiff, not_false_eq_true, Nat.reduceAdd, reduceCtorEq, List.getElem?_cons_zero, List.getElem?_cons_succ, List.getElem?_toArray, Bool.false_eq_true, List.map_cons, List.map_nil, List.append_nil, List.nil_append, gt_iff_lt, Bool.not_true, ne_eq, fa_ptr T73 p73_0 (by decide), load_p1 T3 a3, loadc_def, K30 h30, k1, k3, c8, c1, c2, c3, c4, hp3, hxl, k42, callV_fn (g := 32) (by decide), callV_fn (g := 38) (by decide), callV_fn (g := 30) (by decide), callV_fn (g := 42) (by decide)]
  · rw [hi] at j2; cases j2
end Go.AM.X
namespace Go.AM.X
open Go Go.AM Go.Proofs Go.AM.Sx
set_option maxHeartbeats 3200000
set_option maxRecDepth 100000
set_option linter.unusedVariables false
/-- One that is served, and a printer, without the places where they lie. -/
structure Vs where
  c : Int
  b : AV
  j : Int
  q : Int
  s : Int
  d : List Int
structure Vp where
  q : Int
  r : Int
  lf : Int
  ws : List Wt
  ss : List Vs
  js : List (Int × List Int)
def vs (dat : Nat → List Int) (s : Sv) : Vs := ⟨s.c, s.b, s.j, s.q, s.s, dat s.a⟩
def vp (P : Pr) (dat : Nat → List Int) (js : List Jb) : Vp := ⟨P.q, P.r, P.lf, P.ws, P.ss.map (vs dat), js.map fun j => (j.c, j.bs)⟩
def OkV (h : AH) (p : Nat) (V : Vp) (off : Nat → Prop) : Prop := ∃ P dat js, OkD h p P dat js ∧ V = vp P dat js ∧ off = P.offD js p
theorem OkV.grow {h h2 : AH} {p : Nat} {V : Vp} {off : Nat → Prop} (hV : OkV h p V off) (hg : Grow h h2) : OkV h2 p V off := by
  obtain ⟨P, dat, js, h1, h3, h4⟩ := hV
  exact ⟨P, dat, js, h1.grow hg, h3, h4⟩
theorem OkV.keep {h h2 : AH} {p : Nat} {V : Vp} {off : Nat → Prop} (hV : OkV h p V off) (hn : h.next ≤ h2.next) (hk : ∀ c, c < h.next → ¬ off c → h2.get c = h.get c) : OkV h2 p V off := by
  obtain ⟨P, dat, js, h1, h3, rfl⟩ := hV
  exact ⟨P, dat, js, h1.keepD hn hk, h3, rfl⟩
theorem OkV.off_ge {h : AH} {p : Nat} {V : Vp} {off : Nat → Prop} (hV : OkV h p V off) {c : Nat} (hc : h.next ≤ c) : off c := by
  obtain ⟨P, dat, js, h1, h3, rfl⟩ := hV
  exact h1.off_ge hc
/-- Two things of which no block is a part of both. -/
def Apt (o o2 : Nat → Prop) : Prop := ∀ c, o c ∨ o2 c
theorem Apt.symm {o o2 : Nat → Prop} (h : Apt o o2) : Apt o2 o := fun c => (h c).symm
theorem Apt.step {h h2 : AH} {o o2 u : Nat → Prop} (hA : Apt o u) (hS : Stf h h2 o o2) (hu : ∀ c, h.next ≤ c → u c) : Apt o2 u := fun c => by
  rcases Nat.lt_or_ge c h.next with hc | hc
  · rcases hA c with h1 | h1
    · exact .inl (hS.2 c hc h1).2
    · exact .inr h1
  · exact .inr (hu c hc)
theorem OkV.other {h h2 : AH} {p : Nat} {V : Vp} {off o o2 : Nat → Prop} (hV : OkV h p V off) (hA : Apt o off) (hS : Stf h h2 o o2) : OkV h2 p V off ∧ Apt o2 off :=
  ⟨hV.keep hS.1 fun c hc hn => (hS.2 c hc ((hA c).resolve_right hn)).1, hA.step hS fun _ hc => hV.off_ge hc⟩
/-- What is told to one who wants. -/
def wantEV (V : Vp) (w : Wt) : Int := if V.ws.any (pW w.c) = true ∨ V.ss.any (fun s => decide (s.c = w.c)) = true then 8 else if V.ws.length = 100 then 4 else 0
def wantPV (V : Vp) (w : Wt) : List Wt := if wantEV V w = 0 then V.ws ++ [w] else V.ws
theorem wantE_v (P : Pr) (dat : Nat → List Int) (js : List Jb) (w : Wt) : wantE P w = wantEV (vp P dat js) w := by
  have : (vp P dat js).ss.any (fun s => decide (s.c = w.c)) = P.ss.any (pS w.c) := by
    show (P.ss.map (vs dat)).any _ = _
    rw [List.any_map]; rfl
  unfold wantE wantEV
  rw [this]
  simp only [idxAt_nonneg]
  rfl
theorem wantP_v (P : Pr) (dat : Nat → List Int) (js : List Jb) (w : Wt) : wantP P w = wantPV (vp P dat js) w := by
  unfold wantP wantPV
  rw [wantE_v P dat js]; rfl
def WantEV (V : Vp) (c w : Int) : Int := if c < 1 ∨ within w 0 100000 = false then 2 else wantEV V ⟨c, w, .nilp⟩
def WantPV (V : Vp) (c w : Int) : List Wt := if c < 1 ∨ within w 0 100000 = false then V.ws else wantPV V ⟨c, w, .nilp⟩
theorem V33 {I : Nat → Option (List AV → AH → Rs)} (h58 : I 58 = none) (h37 : I 37 = none) (h57 : I 57 = none) (h38 : I 38 = none) (h33 : I 33 = none) (h59 : I 59 = none) (h60 : I 60 = none) (m p : Nat) (w : Wt) (V : Vp) (off : Nat → Prop) (h : AH) (hV : OkV h p V off) (hwb : okB w.b) :
    ∃ h2 off2, call F I T (m + 302) 33 [.ptr p 0, .agg w.enc] h = some (.int .i64 (wantEV V w), h2) ∧ OkV h2 p { V with ws := wantPV V w } off2 ∧ Stf h h2 off off2 := by
  obtain ⟨P, dat, js, hP, rfl, rfl⟩ := hV
  obtain ⟨v2, h2, k1, k2, k3⟩ := run33 h58 h37 h57 h38 h33 h59 h60 m p w P h hP.ok hwb
  have h1 := hP.stp (dat2 := dat) k2 k3 rfl fun s hs => .inr ⟨s, hs, rfl, rfl, rfl⟩
  refine ⟨h2, _, by rw [← wantE_v]; exact k1, ⟨_, dat, js, h1.1, ?_, rfl⟩, h1.2⟩
  rw [← wantP_v]; rfl
theorem V12 {I : Nat → Option (List AV → AH → Rs)} (h30 : I 30 = none) (h32 : I 32 = none) (h58 : I 58 = none) (h37 : I 37 = none) (h57 : I 57 = none) (h38 : I 38 = none) (h33 : I 33 = none) (h12 : I 12 = none) (h59 : I 59 = none) (h60 : I 60 = none) (m p : Nat) (c w : Int) (V : Vp) (off : Nat → Prop) (h : AH) (hV : OkV h p V off) (hq : ¬ V.q = 0) :
    ∃ h2 off2, call F I T (m + 303) 12 [.ptr p 0, .int .i64 c, .int .i64 w] h = some (.int .i64 (WantEV V c w), h2) ∧ OkV h2 p { V with ws := WantPV V c w } off2 ∧ Stf h h2 off off2 := by
  obtain ⟨P, dat, js, hP, rfl, rfl⟩ := hV
  obtain ⟨v2, h2, k1, k2, k3⟩ := run12 h30 h32 h58 h37 h57 h38 h33 h12 h59 h60 m p c w P h hP.ok hq
  have h1 := hP.stp (dat2 := dat) k2 k3 rfl fun s hs => .inr ⟨s, hs, rfl, rfl, rfl⟩
  have e1 : WantE P c w = WantEV (vp P dat js) c w := by unfold WantE WantEV; rw [wantE_v P dat js]
  have e2 : WantP P c w = WantPV (vp P dat js) c w := by unfold WantP WantPV; rw [wantP_v P dat js]; rfl
  refine ⟨h2, _, by rw [← e1]; exact k1, ⟨_, dat, js, h1.1, ?_, rfl⟩, h1.2⟩
  rw [← e2]; rfl
def incV (s : Vs) : Vs := { s with s := s.s + 1 }
def keepV (s : Vs) : Bool := !decide (s.s = 30)
def newV (w : Wt) : Vs := ⟨w.c, w.b, 0, 0, 0, []⟩
def keptV (V : Vp) : List Vs := (V.ss.map incV).filter keepV
def freeV (V : Vp) : Nat := (max V.r 1).toNat - (keptV V).length
def tickV (V : Vp) : Vp := { V with ws := (serveL (freeV V) (V.ws.map incW)).2, ss := keptV V ++ (serveL (freeV V) (V.ws.map incW)).1.map newV }
theorem keptV_eq (P : Pr) (dat : Nat → List Int) (js : List Jb) : keptV (vp P dat js) = (kept P).map (vs dat) := by
  show ((P.ss.map (vs dat)).map incV).filter keepV = ((P.ss.map incS).filter keepS).map (vs dat)
  rw [List.map_map, List.filter_map, List.filter_map, List.map_map]
  rfl
theorem nEnc_inv {s : Sv} {w : Wt} (h : s.enc = nEnc w) : s.c = w.c ∧ s.b = w.b ∧ s.j = 0 ∧ s.q = 0 ∧ s.s = 0 ∧ s.d = .nils := by
  simp [Sv.enc, nEnc] at h
  exact h
theorem V13 {I : Nat → Option (List AV → AH → Rs)} (h32 : I 32 = none) (h57 : I 57 = none) (h34 : I 34 = none) (h35 : I 35 = none) (h36 : I 36 = none) (h13 : I 13 = none) (h35 : I 35 = none) (m p : Nat) (V : Vp) (off : Nat → Prop) (h : AH) (hV : OkV h p V off) (hq : ¬ V.q = 0) (hr : 0 ≤ V.r ∧ V.r ≤ 20) (hwb : ∀ w ∈ V.ws, 0 ≤ w.w ∧ w.w ≤ 1000000000) (hsb : ∀ s ∈ V.ss, 0 ≤ s.s ∧ s.s ≤ 1000000000) :
    ∃ h2 off2, call F I T (m + 400) 13 [.ptr p 0] h = some (.int .i64 0, h2) ∧ OkV h2 p (tickV V) off2 ∧ Stf h h2 off off2 := by
  obtain ⟨P, dat, js, hP, rfl, rfl⟩ := hV
  obtain ⟨P2, h2, k1, k2, k3, t1, t2, t3, t4, t5, nw, t6, t7⟩ := run13 h32 h57 h34 h35 h36 h13 h35 m p P h hP.ok hq hr hwb (fun s hs => hsb (vs dat s) (List.mem_map_of_mem hs))
  have hnd := k2.nd
  rw [t6, List.map_append] at hnd
  have hdis := (List.nodup_append.1 hnd).2.2
  obtain ⟨dat2, hdat2⟩ : ∃ dat2 : Nat → List Int, dat2 = fun a => if a ∈ (kept P).map Sv.a then dat a else [] := ⟨_, rfl⟩
  have hk : ∀ s ∈ kept P, dat2 s.a = dat s.a := fun s hs => by rw [hdat2]; exact if_pos (List.mem_map_of_mem hs)
  have hn : ∀ s ∈ nw, dat2 s.a = [] := fun s hs => by rw [hdat2]; exact if_neg fun h => hdis s.a h s.a (List.mem_map_of_mem hs) rfl
  have hget : ∀ (i : Nat) (s : Sv), nw[i]? = some s → ∃ w, (serveL (free P (kept P)) (P.ws.map incW)).1[i]? = some w ∧ s.enc = nEnc w := fun i s hi => by
    have := congrArg (fun l => l[i]?) t7
    simp only [List.getElem?_map, hi, Option.map_some] at this
    cases hw : (serveL (free P (kept P)) (P.ws.map incW)).1[i]? with
    | none => rw [hw] at this; cases this
    | some w => rw [hw] at this; exact ⟨w, rfl, by simpa using this⟩
  have h1 := hP.stp (dat2 := dat2) k2 k3 t4 fun s hs => by
    rw [t6] at hs
    rcases List.mem_append.1 hs with g | g
    · obtain ⟨s0, g0, rfl⟩ := List.mem_map.1 (List.mem_filter.1 g).1
      exact .inr ⟨s0, g0, rfl, rfl, hk _ g⟩
    · obtain ⟨i, hi⟩ := List.mem_iff_getElem?.1 g
      obtain ⟨w, _, e⟩ := hget i s hi
      exact .inl ⟨(nEnc_inv e).2.2.2.2.2, hn s g⟩
  refine ⟨h2, _, k1, ⟨P2, dat2, js, h1.1, ?_, rfl⟩, h1.2⟩
  have hfr : freeV (vp P dat js) = free P (kept P) := by
    unfold freeV; rw [keptV_eq, List.length_map]; rfl
  have e1 : (kept P).map (vs dat2) = (kept P).map (vs dat) := List.map_congr_left fun s hs => by unfold vs; rw [hk s hs]
  have e2 : nw.map (vs dat2) = (serveL (free P (kept P)) (P.ws.map incW)).1.map newV := by
    apply List.ext_getElem?
    intro i
    rw [List.getElem?_map, List.getElem?_map]
    cases hi : nw[i]? with
    | none =>
      have hl := congrArg List.length t7
      rw [List.length_map, List.length_map] at hl
      rw [List.getElem?_eq_none (by have := List.getElem?_eq_none_iff.1 hi; omega)]
      rfl
    | some s =>
      obtain ⟨w, g1, g2⟩ := hget i s hi
      obtain ⟨a1, a2, a3, a4, a5, a6⟩ := nEnc_inv g2
      rw [g1]
      simp only [Option.map_some, vs, newV, a1, a2, a3, a4, a5, hn s (List.mem_of_getElem? hi)]
  unfold tickV
  rw [hfr, keptV_eq]
  show _ = Vp.mk P2.q P2.r P2.lf P2.ws (P2.ss.map (vs dat2)) _
  rw [t1, t2, t3, t5, t6, List.map_append, e1, e2]
  rfl
/-- A piece for the one at a place. -/
def sendV (V : Vp) (i : Nat) (n : Int) (new : List Int) (en : Bool) : Int × Vp :=
  match V.ss[i]? with
  | none => (0, V)
  | some s =>
    if n = s.q then (0, { V with ss := V.ss.set i { s with s := 0 } })
    else if n ≠ s.q % 255 + 1 then (90, V)
    else if 5000 < s.d.length + new.length then (4, { V with ss := V.ss.eraseIdx i })
    else if en = true then (0, { V with ss := V.ss.eraseIdx i, js := V.js ++ [(s.c, s.d ++ new)] })
    else (0, { V with ss := V.ss.set i { s with q := n, s := 0, d := s.d ++ new } })
theorem map_set_nd {l : List Sv} {i : Nat} {s s' : Sv} (hnd : (l.map Sv.a).Nodup) (hs : l[i]? = some s) (f g : Sv → Vs) (hfg : ∀ t ∈ l, t.a ≠ s.a → f t = g t) : (l.set i s').map f = (l.map g).set i (f s') := by
  apply List.ext_getElem?
  intro j
  rw [List.getElem?_map, List.getElem?_set, List.getElem?_set, List.getElem?_map, List.length_map]
  by_cases hij : i = j
  · subst hij
    rw [if_pos rfl, if_pos rfl]
    split <;> rfl
  · rw [if_neg hij, if_neg hij]
    cases hj : l[j]? with
    | none => rfl
    | some t =>
      simp only [Option.map_some]
      rw [hfg t (List.mem_of_getElem? hj) fun e => hij ?_]
      have hi := (List.getElem?_eq_some_iff.1 hs).1
      exact (List.getElem?_inj (l := l.map Sv.a) (by rw [List.length_map]; exact hi) hnd).1 (by rw [List.getElem?_map, List.getElem?_map, hs, hj]; simp [e])
theorem map_erase_nd {l : List Sv} {i : Nat} {s : Sv} (hnd : (l.map Sv.a).Nodup) (hs : l[i]? = some s) (f g : Sv → Vs) (hfg : ∀ t ∈ l, t.a ≠ s.a → f t = g t) : (l.eraseIdx i).map f = (l.map g).eraseIdx i := by
  apply List.ext_getElem?
  intro j
  rw [List.getElem?_map, List.getElem?_eraseIdx, List.getElem?_eraseIdx, List.getElem?_map, List.getElem?_map]
  have key : ∀ k, i ≠ k → (l[k]?).map f = (l[k]?).map g := fun k hik => by
    cases hj : l[k]? with
    | none => rfl
    | some t =>
      simp only [Option.map_some]
      rw [hfg t (List.mem_of_getElem? hj) fun e => hik ?_]
      have hi := (List.getElem?_eq_some_iff.1 hs).1
      exact (List.getElem?_inj (l := l.map Sv.a) (by rw [List.length_map]; exact hi) hnd).1 (by rw [List.getElem?_map, List.getElem?_map, hs, hj]; simp [e])
  split
  · exact key j (by omega)
  · exact key (j + 1) (by omega)
theorem addD_ne {dat : Nat → List Int} {a : Nat} {new : List Int} {t : Sv} (h : t.a ≠ a) : vs (addD dat a new) t = vs dat t := by unfold vs addD; rw [if_neg h]
theorem Pc.grow {off : Nat → Prop} {h h2 : AH} {x : AV} {new : List Int} (hx : Pc off h x new) (hg : Grow h h2) : Pc off h2 x new :=
  ⟨hx.1, fun h3 hn hk => hx.2 h3 (Nat.le_trans hg.1 hn) fun c hc ho => by rw [hk c (Nat.lt_of_lt_of_le hc hg.1) ho, hg.2 c hc]⟩
theorem V42 {I : Nat → Option (List AV → AH → Rs)} (h39 : I 39 = none) (h43 : I 43 = none) (h42 : I 42 = none) (m p i : Nat) (n : Int) (x : AV) (en : Bool) (V : Vp) (off : Nat → Prop) (h : AH) (new : List Int) (hV : OkV h p V off) (hi : i < V.ss.length) (hq : ∀ s ∈ V.ss, 0 ≤ s.q ∧ s.q ≤ 255 ∧ s.d.length ≤ 5000)
    (hx : Pc off h x new) (hnl : new.length ≤ 100000000000) (hjl : V.js.length ≤ 1000000) :
    ∃ h2 off2, call F I T (m + 100) 42 [.ptr p 0, .int .i64 (i : Nat), .int .i64 n, x, .bool en] h = some (.int .i64 (sendV V i n new en).1, h2) ∧ OkV h2 p (sendV V i n new en).2 off2 ∧ Stf h h2 off off2 := by
  obtain ⟨P, dat, js, hP, rfl, rfl⟩ := hV
  have hi' : i < P.ss.length := by rw [show (vp P dat js).ss = P.ss.map (vs dat) from rfl, List.length_map] at hi; exact hi
  obtain ⟨s, hs⟩ : ∃ s, P.ss[i]? = some s := ⟨P.ss[i], List.getElem?_eq_getElem hi'⟩
  have hsm := List.mem_of_getElem? hs
  have hsv : (vp P dat js).ss[i]? = some (vs dat s) := by show (P.ss.map (vs dat))[i]? = _; rw [List.getElem?_map, hs]; rfl
  obtain ⟨hq1, hq2, hq3⟩ := hq (vs dat s) (List.mem_map_of_mem hsm)
  replace hq1 : 0 ≤ s.q := hq1
  replace hq2 : s.q ≤ 255 := hq2
  replace hq3 : (dat s.a).length ≤ 5000 := hq3
  have hjl' : js.length ≤ 1000000 := by rw [show (vp P dat js).js = js.map fun j => (j.c, j.bs) from rfl, List.length_map] at hjl; exact hjl
  unfold sendV
  rw [hsv]
  simp only
  by_cases c1 : n = s.q
  · rw [if_pos (show n = (vs dat s).q from c1)]
    have k1 := run42A h39 h43 h42 m p i n x (.bool en) P s h hP.ok hs c1
    have k2 := hP.putS (s2 := { s with s := 0 }) hs rfl rfl
    refine ⟨_, _, k1, ⟨_, dat, js, k2.1, ?_, rfl⟩, k2.2⟩
    show Vp.mk _ _ _ _ _ _ = Vp.mk _ _ _ _ ((P.ss.set i _).map (vs dat)) _
    rw [List.map_set]; rfl
  · rw [if_neg (show ¬ n = (vs dat s).q from c1)]
    by_cases c2 : n = s.q % 255 + 1
    rotate_left
    · rw [if_pos (show n ≠ (vs dat s).q % 255 + 1 from c2)]
      exact ⟨h, _, run42B h39 h43 h42 m p i n x (.bool en) P s h hP.ok hs ⟨hq1, hq2⟩ c1 c2, ⟨P, dat, js, hP, rfl, rfl⟩, Stf.refl _ _⟩
    rw [if_neg (show ¬ n ≠ (vs dat s).q % 255 + 1 from fun h => h c2)]
    by_cases c3 : 5000 < (dat s.a).length + new.length
    · rw [if_pos (show 5000 < (vs dat s).d.length + new.length from c3)]
      obtain ⟨v2, h3, k1, k2, k3⟩ := run42C h39 h43 h42 m p i n x (.bool en) new.length P s h dat js hP hs ⟨hq1, hq2⟩ c2 hx.1 c3 (by omega)
      refine ⟨h3, _, k1, ⟨_, dat, js, k2, ?_, rfl⟩, k3⟩
      show Vp.mk _ _ _ _ _ _ = Vp.mk _ _ _ _ ((P.ss.eraseIdx i).map (vs dat)) _
      rw [map_erase_nd hP.ok.nd hs _ (vs dat) fun _ _ _ => rfl]; rfl
    rw [if_neg (show ¬ 5000 < (vs dat s).d.length + new.length from c3)]
    cases en with
    | true =>
      obtain ⟨v2, jv2, sv2, h3, k1, k2, k3⟩ := run42E h39 h43 h42 m p i n x P s h dat js new hP hs ⟨hq1, hq2⟩ c2 hx (by omega) hjl'
      refine ⟨h3, _, k1, ⟨_, _, _, k2, ?_, rfl⟩, k3⟩
      show Vp.mk _ _ _ _ _ _ = Vp.mk _ _ _ _ ((P.ss.eraseIdx i).map (vs (addD dat s.a new))) _
      rw [map_erase_nd hP.ok.nd hs _ (vs dat) fun t _ ht => addD_ne ht, List.map_append]; rfl
    | false =>
      obtain ⟨v2, h3, k1, k2, k3⟩ := run42D h39 h43 h42 m p i n x P s h dat js new hP hs ⟨hq1, hq2⟩ c2 hx (by omega)
      refine ⟨h3, _, k1, ⟨_, _, _, k2, ?_, rfl⟩, k3⟩
      show Vp.mk _ _ _ _ _ _ = Vp.mk _ _ _ _ ((P.ss.set i _).map (vs (addD dat s.a new))) _
      rw [map_set_nd hP.ok.nd hs _ (vs dat) fun t _ ht => addD_ne ht]
      have : vs (addD dat s.a new) { s with q := n, s := 0, d := v2 } = ⟨s.c, s.b, s.j, n, 0, dat s.a ++ new⟩ := by unfold vs addD; simp
      rw [this]; rfl
/-- What bars a piece. -/
def barV (V : Vp) (c n : Int) (k : Nat) (en : Bool) : Option Int :=
  if c < 1 ∨ V.ss.findIdx? (fun s => decide (s.c = c)) = none then some 5
  else if V.q < (k : Int) ∨ (k = 0 ∧ en = false) ∨ within n 1 255 = false then some 2 else none
def SendV (V : Vp) (c n : Int) (new : List Int) (en : Bool) : Int × Vp :=
  match barV V c n new.length en with
  | some e => (e, V)
  | none => match V.ss.findIdx? (fun s => decide (s.c = c)) with
    | some i => sendV V i n new en
    | none => (5, V)
theorem find_v (P : Pr) (dat : Nat → List Int) (js : List Jb) (c : Int) : (vp P dat js).ss.findIdx? (fun s => decide (s.c = c)) = P.ss.findIdx? (pS c) := by
  show (P.ss.map (vs dat)).findIdx? _ = _
  rw [List.findIdx?_map]; rfl
theorem V21 {I : Nat → Option (List AV → AH → Rs)} (h30 : I 30 = none) (h32 : I 32 = none) (h57 : I 57 = none) (h38 : I 38 = none) (h39 : I 39 = none) (h43 : I 43 = none) (h42 : I 42 = none) (h21 : I 21 = none) (h60 : I 60 = none) (m p : Nat) (c n : Int) (x : AV) (en : Bool) (V : Vp) (off : Nat → Prop) (h : AH) (new : List Int) (hV : OkV h p V off) (hq0 : ¬ V.q = 0) (hq : ∀ s ∈ V.ss, 0 ≤ s.q ∧ s.q ≤ 255 ∧ s.d.length ≤ 5000)
    (hx : Pc off h x new) (hnl : new.length ≤ 100000000000) (hjl : V.js.length ≤ 1000000) :
    ∃ h2 off2, call F I T (m + 310) 21 [.ptr p 0, .int .i64 c, .int .i64 n, x, .bool en] h = some (.int .i64 (SendV V c n new en).1, h2) ∧ OkV h2 p (SendV V c n new en).2 off2 ∧ Stf h h2 off off2 := by
  have hV0 := hV
  obtain ⟨P, dat, js, hP, hVe, hoe⟩ := hV
  have hbar : sendBar P c n new.length en = barV V c n new.length en := by
    unfold sendBar barV; rw [hVe, find_v]; rfl
  have hg := Grow.alloc h (.cells [.int .i64 c] .own)
  unfold SendV
  cases hb : barV V c n new.length en with
  | some e =>
    refine ⟨_, off, run21no h30 h32 h57 h38 h39 h43 h42 h21 h60 m p c n x new.length en P h hP.ok (by rw [hVe] at hq0; exact hq0) hx.1 e (by rw [hbar]; exact hb), hV0.grow hg, Stf.grow off hg⟩
  | none =>
    cases hf : V.ss.findIdx? (fun s => decide (s.c = c)) with
    | none => unfold barV at hb; rw [hf] at hb; simp at hb
    | some i =>
      have hil : i < V.ss.length := (List.findIdx?_eq_some_iff_getElem.1 hf).1
      obtain ⟨h2, off2, k1, k2, k3⟩ := V42 h39 h43 h42 (m + 209) p i n x en V off _ new (hV0.grow hg) hil hq (hx.grow hg) hnl hjl
      refine ⟨h2, off2, ?_, k2, (Stf.grow off hg).trans k3⟩
      exact run21yes h30 h32 h57 h38 h39 h43 h42 h21 h60 m p i c n x new.length en P h hP.ok (by rw [hVe] at hq0; exact hq0) hx.1 (by rw [← find_v P dat js, ← hVe]; exact hf) (by rw [hbar]; exact hb) _ _ k1
theorem V25 {I : Nat → Option (List AV → AH → Rs)} (h32 : I 32 = none) (h25 : I 25 = none) (m p : Nat) (V : Vp) (off : Nat → Prop) (h : AH) (hV : OkV h p V off) (hq : ¬ V.q = 0) (hb : V.js.length ≤ 1000000 ∧ 0 ≤ V.lf ∧ V.lf ≤ 1000000) :
    call F I T (m + 10) 25 [.ptr p 0] h = some (.int .i64 (if V.r = 0 then 0 else (V.js.length : Nat) - V.lf), h) := by
  obtain ⟨P, dat, js, hP, rfl, rfl⟩ := hV
  have hl : (vp P dat js).js.length = js.length := by show (js.map _).length = _; rw [List.length_map]
  rw [hl] at hb ⊢
  exact run25 h32 h25 m p P dat js h hP hq hb
end Go.AM.X
namespace Go.AM.X
open Go Go.AM Go.Proofs Go.AM.Sx
set_option maxHeartbeats 3200000
set_option maxRecDepth 100000
set_option linter.unusedVariables false
theorem F45 : F 45 = some { body := (Tryd.f45.body.getD .skip), results := Tryd.f45.results.toList, rf := false } := by kernel_rfl
theorem R45 : regsOk T (Tryd.f45.body.getD .skip) = true := by kernel_rfl
theorem F24 : F 24 = some { body := (Tryd.f24.body.getD .skip), results := Tryd.f24.results.toList, rf := false } := by kernel_rfl
section
variable {T : TT} {t e : Nat} {ti te : TI} {b o b' o' : Nat} {h : AH} {cs cs' : List AV}
theorem isPtr_of (ht : T t = some ti) (hd : ti.desc = .pointer e) (he : T e = some te) (hz : te.size ≠ 0) : isPtr T t = true := by
  unfold isPtr
  simp only [ht, hd, he]
  cases hb : Nat.beq te.size 0 with
  | true => exact absurd (Nat.eq_of_beq_eq_true hb) hz
  | false => rfl
theorem pp_eql (ht : T t = some ti) (hd : ti.desc = .pointer e) (he : T e = some te) (hz : te.size ≠ 0) (hb : h.get b = some (.cells cs .own)) (hb' : h.get b' = some (.cells cs' .own)) : aBin T .eql t (.ptr b o) (.ptr b' o') h = some (.bool (Nat.beq b b' && Nat.beq o o')) := by
  simp only [aBin, isPtr_of ht hd he hz, eqP, hb, hb', Option.map_some]
theorem pp_neq (ht : T t = some ti) (hd : ti.desc = .pointer e) (he : T e = some te) (hz : te.size ≠ 0) (hb : h.get b = some (.cells cs .own)) (hb' : h.get b' = some (.cells cs' .own)) : aBin T .neq t (.ptr b o) (.ptr b' o') h = some (.bool !(Nat.beq b b' && Nat.beq o o')) := by
  simp only [aBin, isPtr_of ht hd he hz, eqP, hb, hb', Option.map_some]
theorem beq_ne (hne : b ≠ b') (x : Bool) : (Nat.beq b b' && x) = false := by
  cases hb : Nat.beq b b' with
  | true => exact absurd (Nat.eq_of_beq_eq_true hb) hne
  | false => rfl
theorem beq_same (b o : Nat) : (Nat.beq b b && Nat.beq o o) = true := by rw [Nat.beq_refl, Nat.beq_refl]; rfl
theorem sn_eql {el l k z : Nat} {x : Bool} (ht : T t = some ti) (hd : ti.desc = .slice el) : aBin T .eql t (.sl b o l k z x) .nils h = some (.bool false) := by simp [aBin, eqV, ht, hd]
theorem snn_eql {el : Nat} (ht : T t = some ti) (hd : ti.desc = .slice el) : aBin T .eql t .nils .nils h = some (.bool true) := by simp [aBin, eqV, ht, hd]
end
theorem run45 {I : Nat → Option (List AV → AH → Rs)} (h45 : I 45 = none) (m : Nat) (v : AV) (bs : List Int) (h : AH) (hd : Dat h v bs) (hl : bs.length ≤ 100000) :
    ∃ v2 h2, call F I T (m + 1) 45 [v] h = some (v2, h2) ∧ Dat h2 v2 bs ∧ Fresh h v2 ∧ Grow h h2 := by
  have hd0 := hd
  rcases hd with ⟨rfl, h0, _⟩ | ⟨b, cap, ex, rest, rfl, h1, h2, h3, h4⟩
  · refine ⟨.nils, h, ?_, by rw [List.length_eq_zero_iff.1 h0]; exact RowC.nil _ _, (fun _ _ _ _ _ _ e => by cases e), Grow.refl h⟩
    rw [call_F (by decide) h45 F45 rfl R45]; simp only [Tryd.f45, Option.getD]
    simp +contextual (maxSteps := 3000000) only [↓code_seq, ↓code_region, ↓code_cond, ↓code_ret, aCond_bool, ↓ops_nil, ↓ops_cons, run_none, ↓run0_v, ↓seqK_normal, ↓seqK_ret, ↓retK_ret, put_same, put_ne, env0_at, ev_tmp, ev_const, oc_nils, o_move, o_assign, o_bin, g_none, resultsOf, oneOrAll, Option.map_some, Option.getD_some, ↓reduceIte, not_false_eq_true, reduceCtorEq, List.getElem?_cons_zero, ne_eq, snn_eql T48 d48]
  · have hg := Grow.alloc h (.cells [] .own)
    have hsrc : aSource 1 (.sl b 0 bs.length cap 1 ex) (h.alloc (.cells [] .own)) = some (bs.length, bytes bs) := by
      rw [src_sl]
      have : (h.alloc (.cells [] .own)).get b = some (.cells ((bs.map fun b => .int .u8 b) ++ rest) .own) := by rw [AH.get_alloc, if_neg (by omega)]; exact h4
      simp only [AH.loadn, this]
      rw [if_pos (by simp), List.drop_zero, List.take_append_of_le_length (by simp), List.take_of_length_le (by simp)]
      rfl
    have hr0 : RowC 1 (h.alloc (.cells [] .own)) (.sl h.next 0 0 0 1 true) 0 [] := .inr ⟨h.next, 0, true, [], rfl, rfl, rfl, by simp, by rw [AH.get_alloc, if_pos rfl]; rfl⟩
    obtain ⟨v2, h2', r1, r2, r3, r4, r5⟩ := RowC.app' (new := bytes bs) (m := bs.length) (xt := 48) T48 d48 T5 (isSrc_sl T48 d48) s5 (by decide) (by rw [b5]; decide) hr0 (by rw [s5]; exact hsrc) (by simp [bytes]) (by simp [bytes, AV.one]) (by rw [b5]; simp [maxBytes]; omega)
    rw [List.nil_append, Nat.zero_add] at r2
    refine ⟨v2, h2', ?_, r2, fun b' o l k z x e => ?_, by have := r3; simp at this; omega, fun c hc => ?_⟩
    · rw [call_F (by decide) h45 F45 rfl R45]; simp only [Tryd.f45, Option.getD]
      simp +contextual (maxSteps := 3000000) only [↓code_skip, ↓code_seq, ↓code_region, ↓code_cond, ↓code_ret, aCond_bool, ↓ops_nil, ↓ops_cons, run_none, ↓run0_v, ↓run0_r, ↓seqK_normal, ↓retK_ret, put_same, put_ne, env0_at, ev_tmp, ev_const, oc_nils, o_move, o_assign, o_bin, o_buildSlice, o_append, g_none, resultsOf, oneOrAll, Option.bind_some, Option.map_some, Option.getD_some, ↓reduceIte, Nat.reduceEqDiff, not_false_eq_true, reduceCtorEq, List.getElem?_cons_zero, Bool.false_eq_true, List.map_nil, ne_eq, buildSl T48 d48 T5 (n := 0) (by rw [s5]; decide), s5, parts_eq, fillA, repl, sn_eql T48 d48, r1]
    · rcases r5 _ _ _ _ _ _ e with g | ⟨_, _, _, _, _, g⟩
      · simp at g; omega
      · cases g; exact Nat.le_refl _
    · rw [r4 c (by simp; omega) (fun b' o l k z x e => by cases e; omega), AH.get_alloc, if_neg (by omega)]
/-- Jobs, told: a row that is all new, and whose data are. -/
structure JR (h0 h : AH) (v : AV) (J : List Jb) : Prop where
  r : RowC 2 h v J.length (jcs J)
  f : Fresh h0 v
  d : ∀ j ∈ J, Dat h j.d j.bs
  df : ∀ j ∈ J, Fresh h0 j.d
  o : ∀ j ∈ J, ∀ b o l k z x, j.d = .sl b o l k z x → offRow v b
theorem JR.grow {h0 h h2 : AH} {v : AV} {J : List Jb} (hj : JR h0 h v J) (hg : Grow h h2) : JR h0 h2 v J :=
  { r := hj.r.grow hg, f := hj.f, d := fun j h => (hj.d j h).grow hg, df := hj.df, o := hj.o }
theorem JR.push {h0 h : AH} {v : AV} {J : List Jb} (hj : JR h0 h v J) (hg : Grow h0 h) (j : Jb) (hd : Dat h j.d j.bs) (hf : Fresh h0 j.d) (ho : ∀ b o l k z x, j.d = .sl b o l k z x → offRow v b) (hl : J.length ≤ 1000000) :
    ∃ v' h2, aAppend T 51 51 v (.sl h.next 0 1 1 2 true) (h.alloc (.cells [.int .i64 j.c, j.d] .own)) = some (v', h2) ∧ JR h0 h2 v' (J ++ [j]) ∧ Grow h0 h2 := by
  have hone : ([.int .i64 j.c, j.d] : List AV).all AV.one = true := by simp only [List.all_cons, List.all_nil, (RowC.cells hd).2]; rfl
  obtain ⟨v', h2, q1, q2, q3, q4, q5⟩ := hj.r.push (new := [.int .i64 j.c, j.d]) T51 d51 T58 s58 (by decide) (by rw [b58]; decide) rfl hone (by rw [b58]; simp [maxBytes]; omega)
  have g1 := hg.1
  have hall : ∀ i ∈ J ++ [j], Dat h i.d i.bs ∧ Fresh h0 i.d ∧ ∀ b o l k z x, i.d = .sl b o l k z x → offRow v b := fun i hi => by
    rcases List.mem_append.1 hi with g | g
    · exact ⟨hj.d i g, hj.df i g, hj.o i g⟩
    · rw [List.mem_singleton] at g; subst g; exact ⟨hd, hf, ho⟩
  refine ⟨v', h2, q1, { r := ?_, f := fun b o l k z x e => ?_, d := fun i hi => ?_, df := fun i hi => (hall i hi).2.1, o := fun i hi b o l k z x e => ?_ }, by omega, fun c hc => ?_⟩
  · rw [jcs_app, List.length_append]; exact q2
  · rcases q5 _ _ _ _ _ _ e with g | ⟨_, _, _, _, _, g⟩
    · omega
    · exact hj.f _ _ _ _ _ _ g
  · exact (hall i hi).1.keep (by omega) fun b o l k z x e => q4 b (RowC.lt (hall i hi).1 e) ((hall i hi).2.2 _ _ _ _ _ _ e)
  · exact off_new (h := h) q5 (RowC.lt (hall i hi).1 e) ((hall i hi).2.2 _ _ _ _ _ _ e)
  · rw [q4 c (by omega) (hj.f.off hc), hg.2 c hc]
theorem jcs_at {js : List Jb} {i : Nat} {j : Jb} (hj : js[i]? = some j) (rest : List AV) : ((jcs js ++ rest).drop (i * 2)).take 2 = [.int .i64 j.c, j.d] := by
  induction js generalizing i with
  | nil => simp at hj
  | cons a js ih =>
    cases i with
    | zero => simp at hj; subst hj; rfl
    | succ i =>
      have := ih (by simpa using hj)
      rw [show (i + 1) * 2 = i * 2 + 2 by omega]
      show (([.int .i64 a.c, a.d] ++ jcs js ++ rest).drop _).take 2 = _
      exact this
theorem jcs_len (js : List Jb) : (jcs js).length = js.length * 2 := by
  induction js with
  | nil => rfl
  | cons a js ih => show ([AV.int .i64 a.c, a.d] ++ jcs js).length = _; rw [List.length_append, ih]; simp; omega
theorem loadJ {h : AH} {v : AV} {js : List Jb} {i : Nat} {j : Jb} (hr : RowC 2 h v js.length (jcs js)) (hj : js[i]? = some j) :
    ∃ b cs k, aIndexAddr T 51 v (.int .i64 (i : Nat)) = some (.ptr b (i * 2)) ∧ h.get b = some (.cells cs k) ∧ i * 2 + 2 ≤ cs.length ∧ (cs.drop (i * 2)).take 2 = [.int .i64 j.c, j.d] := by
  have hi := (List.getElem?_eq_some_iff.1 hj).1
  obtain ⟨b, rest, _, h1, h2, h3⟩ := hr.at_ T51 d51 T58 s58 hi
  exact ⟨b, _, _, h1, h2, by rw [List.length_append, jcs_len]; omega, jcs_at hj _⟩
theorem take2 {cs : List AV} {o : Nat} {a b : AV} (h : (cs.drop o).take 2 = [a, b]) : cs[o]? = some a ∧ cs[o + 1]? = some b := by
  have h0 := congrArg (fun l => l[0]?) h
  have h1 := congrArg (fun l => l[1]?) h
  simp [List.getElem?_drop] at h0 h1
  exact ⟨h0, h1⟩
theorem store_j (h : AH) (c : Int) (d : AV) (hd : d.one = true) : ∃ h2, aStore T 58 (.ptr h.next 0) (.agg [.int .i64 c, d]) (h.alloc (.cells [.int .i64 0, .nils] .own)) = some h2 ∧ h2.next = h.next + 1 ∧ h2.get h.next = some (.cells [.int .i64 c, d] .own) ∧ Grow h h2 := by
  have h1 := store_n (T := T) (t := 58) (b := h.next) (o := 0) (v := .agg [.int .i64 c, d]) (vs := [.int .i64 c, d]) (h := h.alloc (.cells [.int .i64 0, .nils] .own)) (cs := [.int .i64 0, .nils]) T58 rfl (by rw [s58]; rfl)
    (by simp only [List.all_cons, List.all_nil, hd]; rfl) (by rw [AH.get_alloc, if_pos rfl]) (by simp)
  refine ⟨_, h1, by simp, by rw [AH.get_put, if_pos rfl]; rfl, by simp, fun c hc => ?_⟩
  rw [AH.get_put, if_neg (by omega), AH.get_alloc, if_neg (by omega)]
def jv (j : Jb) : Int × List Int := (j.c, j.bs)
theorem V24 {I : Nat → Option (List AV → AH → Rs)} (h32 : I 32 = none) (h45 : I 45 = none) (h24 : I 24 = none) (m p : Nat) (V : Vp) (off : Nat → Prop) (h : AH) (hV : OkV h p V off) (hq : ¬ V.q = 0) (hjl : V.js.length ≤ m + 100 ∧ V.js.length ≤ 1000000) (hdl : ∀ j ∈ V.js, j.2.length ≤ 5000) :
    ∃ v J h2, call F I T (m + 200) 24 [.ptr p 0] h = some (v, h2) ∧ JR h h2 v J ∧ J.map jv = V.js ∧ Grow h h2 := by
  obtain ⟨P, dat, js, hP, rfl, rfl⟩ := hV
  have hjs : (vp P dat js).js = js.map jv := rfl
  rw [hjs] at hjl hdl ⊢
  rw [List.length_map] at hjl
  have k1 := run32 h32 (m + 198) p P.q P.r P.wv P.sv P.jv P.lf h hP.ok.g hq
  have hp : h.get p = some (.cells [.int .i64 P.q, .int .i64 P.r, P.wv, P.sv, P.jv, .int .i64 P.lf] .own) := hP.ok.g
  have hlen : ∀ h, aLen T 51 P.jv h = some (.int .i64 (js.length : Nat)) := fun h => hP.jr.len T51 d51
  rw [call_code (by decide) h24 F24 rfl]; simp only [Tryd.f24, Option.getD]
  simp +contextual (maxSteps := 3000000) only [aCond_bool, ↓ops_nil, ↓ops_cons, run_none, ↓run0_v, ↓run0_r, ↓seqK_normal, put_same, put_ne, env0_at, ev_tmp, ev_const, ev_func, oc_int, oc_nils, o_move, o_assign, o_call, o_len, o_load, o_nilCheck, o_fieldAddr, g_none, nil_ptr, Option.getD_some, ↓reduceIte, not_false_eq_true, Nat.reduceAdd, reduceCtorEq, List.getElem?_cons_zero, List.getElem?_cons_succ, Bool.false_eq_true, List.map_cons, List.map_nil, List.append_nil, List.nil_append, ne_eq, ↓cd_skip, ↓cd_seq, ↓cd_region, ↓cd_cond, ↓cd_block, fa_ptr T73 p73_4 (by decide), load_p1 T51 a51, loadc_def, k1, hp, hlen, callV_fn (g := 32) (by decide)]
  refine iterL_wp (Q := fun r => ∃ v J h2, r = some (v, h2) ∧ JR h h2 v J ∧ J.map jv = js.map jv ∧ Grow h h2) (N := js.length) (Inv := fun k e h' => ∃ i v J, k + i = js.length ∧ JR h h' v J ∧ J.map jv = (js.take i).map jv ∧ Grow h h' ∧ i ≤ js.length ∧ e 3 = v ∧ e 11 = P.jv ∧ e 12 = .int .i64 (js.length : Nat) ∧ e 13 = .int .i64 (i : Nat)) ?_ ?_ (by omega)
  · rintro k e h' K' ⟨i, v, J, hk, hJ, hJe, hg, hil, e3, e11, e12, e13⟩ hnext hexit
    by_cases hi : i < js.length
    · have c1 : (i : Int) < (js.length : Int) := by omega
      obtain ⟨j, hj⟩ : ∃ j, js[i]? = some j := ⟨js[i], List.getElem?_eq_getElem hi⟩
      have hjm := List.mem_of_getElem? hj
      obtain ⟨b, cs, bk, g1, g2, g3, g4⟩ := loadJ ((hP.grow hg).jr) hj
      have hd := (hP.grow hg).jd j hjm
      obtain ⟨u1, u2⟩ := RowC.cells hd
      obtain ⟨hz, y1, y2, y3, y4⟩ := store_j h' j.c j.d u2
      obtain ⟨w, h3, k2, k3, k4, k5⟩ := run45 h45 (m + 198) j.d j.bs hz (hd.grow y4) (by have := hdl (jv j) (List.mem_map_of_mem hjm); simp only [jv] at this; omega)
      have hJl : J.length = i := by have := congrArg List.length hJe; rw [List.length_map, List.length_map, List.length_take] at this; omega
      have hgz := hg.trans y4
      have hJ3 := (hJ.grow y4).grow k5
      have hfw : Fresh h w := fun b o l k z x e => by have := k4 _ _ _ _ _ _ e; have := hgz.1; omega
      have how : ∀ b o l k z x, w = .sl b o l k z x → offRow v b := fun b o l k z x e b' o' l' k' z' x' e' => by
        have := k4 _ _ _ _ _ _ e
        have := (hJ.grow y4).r.lt e'
        omega
      obtain ⟨v', h4, q1, q2, q3⟩ := hJ3.push (hgz.trans k5) ⟨j.c, w, j.bs⟩ k3 hfw how (by omega)
      simp only at q1
      have y3' : h3.get h'.next = some (.cells [.int .i64 j.c, j.d] .own) := by rw [k5.2 _ (by omega)]; exact y3
      have c7 : IntKind.i64.wrap ((i : Int) + 1) = ((i + 1 : Nat) : Int) := by rw [wrap_i64 (by omega) (by omega)]; rfl
      have hnx : (J ++ [(⟨j.c, w, j.bs⟩ : Jb)]).map jv = (js.take (i + 1)).map jv := by
        rw [List.take_add_one, hj, List.map_append, List.map_append, hJe]; rfl
      have hshd : j.d = .nils ∨ ∃ b o l k z x, j.d = .sl b o l k z x := by
        rcases hd with ⟨e, _⟩ | ⟨b, cap, ex, rest, e, _⟩
        · exact .inl e
        · exact .inr ⟨_, _, _, _, _, _, e⟩
      have hshw : w = .nils ∨ ∃ b o l k z x, w = .sl b o l k z x := by
        rcases k3 with ⟨e, _⟩ | ⟨b, cap, ex, rest, e, _⟩
        · exact .inl e
        · exact .inr ⟨_, _, _, _, _, _, e⟩
      have hy3h : (h'.alloc (.cells [.int .i64 0, .nils] .own)).next = h'.next + 1 := rfl
      rcases hshw with hw | ⟨_, _, _, _, _, _, hw⟩
      · rw [hw] at k2 q1
        simp +contextual (maxSteps := 3000000) only [aCond_bool, ↓ops_nil, ↓ops_cons, run_none, ↓run0_v, ↓run0_h, ↓run0_r, ↓seqK_normal, put_same, put_ne, put_none, ev_tmp, o_bin, o_alloc, o_load, o_store, o_indexAddr, g_none, bin_lss, Option.map_some, decide_eq_true_eq, ↓reduceIte, Nat.reduceEqDiff, not_false_eq_true, ne_eq, ↓cd_skip, ↓cd_seq, ↓cd_region, ↓cd_cond, ↓cd_block, load_pA T58 a58, s58, loadn_def, alloc_t T58, z58, e11, e12, e13, c1, g1, g2, g3, g4, y1]
        rw [code_soft (ss := [(2, 0, 7)]) (by kernel_rfl) (by kernel_rfl) (by simp)]
        simp +contextual (maxSteps := 3000000) only [↓ops_nil, ↓ops_cons, run_none, ↓run0_v, ↓run0_r, ↓seqK_normal, ↓blkK_normal, put_same, put_ne, ev_tmp, ev_const, ev_func, oc_int, o_move, o_assign, o_bin, o_call, o_build, o_buildSlice, o_load, o_fieldAddr, o_append, g_none, bin_add, Option.bind_some, Option.map_some, ↓reduceIte, Nat.reduceEqDiff, not_false_eq_true, Nat.reduceAdd, Nat.reduceMul, List.getElem?_cons_zero, List.getElem?_cons_succ, List.map_cons, List.map_nil, List.append_nil, List.nil_append, List.cons_append, and_true, Nat.reduceLeDiff, Nat.le_refl, ne_eq, ↓cd_region, loadc_def, s58, z58, fa_ptr T58 p58_0 (by decide), load_p1 T3 a3, fa_ptr T58 p58_1 (by decide), load_p1 T48 a48, build_struct T58 d58, parts_eq, fillA, AV.cells, AH.splice, List.take_succ_cons, List.take_zero, List.drop_succ_cons, List.drop_zero, List.drop_nil, List.length_cons, List.length_nil, p58_0, p58_1, buildSl T51 d51 T58 (n := 1) (by rw [s58]; decide), repl, opsTr_nil, opsTr_cons, e3, e13, y3, k2, q1, c7, callV_fn (g := 45) (by decide)]
        refine soft_Q (fun r => ∃ v J h2, r = some (v, h2) ∧ JR h h2 v J ∧ J.map jv = js.map jv ∧ Grow h h2) ?_ ?_
        rotate_left
        · simp +contextual (maxSteps := 3000000) only [run_none, ↓run0_v, put_same, ev_tmp, o_load, g_none, Nat.reduceAdd, List.getElem?_cons_zero, List.getElem?_cons_succ, List.getElem?_toArray, loadc_def, load_p1 T3 a3, softOk, sameAt, stepV, same_int, Bool.and_true, y3, y3']
        refine hnext (k - 1) _ _ (by omega) ⟨i + 1, v', J ++ [(⟨j.c, w, j.bs⟩ : Jb)], by omega, ?_, ?_, ?_, ?_, ?_, ?_, ?_, ?_⟩
        · exact q2
        · exact hnx
        · exact q3
        · omega
        · simp only [put_same, put_ne, Nat.reduceEqDiff, not_false_eq_true, ne_eq]
        · simp only [put_ne, Nat.reduceEqDiff, not_false_eq_true, ne_eq, e11]
        · simp only [put_ne, Nat.reduceEqDiff, not_false_eq_true, ne_eq, e12]
        · simp only [put_same]
      · rw [hw] at k2 q1
        simp +contextual (maxSteps := 3000000) only [aCond_bool, ↓ops_nil, ↓ops_cons, run_none, ↓run0_v, ↓run0_h, ↓run0_r, ↓seqK_normal, put_same, put_ne, put_none, ev_tmp, o_bin, o_alloc, o_load, o_store, o_indexAddr, g_none, bin_lss, Option.map_some, decide_eq_true_eq, ↓reduceIte, Nat.reduceEqDiff, not_false_eq_true, ne_eq, ↓cd_skip, ↓cd_seq, ↓cd_region, ↓cd_cond, ↓cd_block, load_pA T58 a58, s58, loadn_def, alloc_t T58, z58, e11, e12, e13, c1, g1, g2, g3, g4, y1]
        rw [code_soft (ss := [(2, 0, 7)]) (by kernel_rfl) (by kernel_rfl) (by simp)]
        simp +contextual (maxSteps := 3000000) only [↓ops_nil, ↓ops_cons, run_none, ↓run0_v, ↓run0_r, ↓seqK_normal, ↓blkK_normal, put_same, put_ne, ev_tmp, ev_const, ev_func, oc_int, o_move, o_assign, o_bin, o_call, o_build, o_buildSlice, o_load, o_fieldAddr, o_append, g_none, bin_add, Option.bind_some, Option.map_some, ↓reduceIte, Nat.reduceEqDiff, not_false_eq_true, Nat.reduceAdd, Nat.reduceMul, List.getElem?_cons_zero, List.getElem?_cons_succ, List.map_cons, List.map_nil, List.append_nil, List.nil_append, List.cons_append, and_true, Nat.reduceLeDiff, Nat.le_refl, ne_eq, ↓cd_region, loadc_def, s58, z58, fa_ptr T58 p58_0 (by decide), load_p1 T3 a3, fa_ptr T58 p58_1 (by decide), load_p1 T48 a48, build_struct T58 d58, parts_eq, fillA, AV.cells, AH.splice, List.take_succ_cons, List.take_zero, List.drop_succ_cons, List.drop_zero, List.drop_nil, List.length_cons, List.length_nil, p58_0, p58_1, buildSl T51 d51 T58 (n := 1) (by rw [s58]; decide), repl, opsTr_nil, opsTr_cons, e3, e13, y3, k2, q1, c7, callV_fn (g := 45) (by decide)]
        refine soft_Q (fun r => ∃ v J h2, r = some (v, h2) ∧ JR h h2 v J ∧ J.map jv = js.map jv ∧ Grow h h2) ?_ ?_
        rotate_left
        · simp +contextual (maxSteps := 3000000) only [run_none, ↓run0_v, put_same, ev_tmp, o_load, g_none, Nat.reduceAdd, List.getElem?_cons_zero, List.getElem?_cons_succ, List.getElem?_toArray, loadc_def, load_p1 T3 a3, softOk, sameAt, stepV, same_int, Bool.and_true, y3, y3']
        refine hnext (k - 1) _ _ (by omega) ⟨i + 1, v', J ++ [(⟨j.c, w, j.bs⟩ : Jb)], by omega, ?_, ?_, ?_, ?_, ?_, ?_, ?_, ?_⟩
        · exact q2
        · exact hnx
        · exact q3
        · omega
        · simp only [put_same, put_ne, Nat.reduceEqDiff, not_false_eq_true, ne_eq]
        · simp only [put_ne, Nat.reduceEqDiff, not_false_eq_true, ne_eq, e11]
        · simp only [put_ne, Nat.reduceEqDiff, not_false_eq_true, ne_eq, e12]
        · simp only [put_same]
    · have c1 : ¬ (i : Int) < (js.length : Int) := by omega
      have hin : i = js.length := by omega
      rw [hin, List.take_length] at hJe
      simp +contextual (maxSteps := 3000000) only [aCond_bool, ↓ops_nil, ↓ops_cons, run_none, ↓run0_v, ↓seqK_normal, ↓seqK_exit, put_same, ev_tmp, o_bin, g_none, bin_lss, decide_eq_true_eq, ↓reduceIte, ↓cd_seq, ↓cd_region, ↓cd_cond, ↓cd_exit, e12, e13, c1]
      refine hexit _ _ _ (by simp) ⟨v, J, h', ?_, hJ, hJe, hg⟩
      simp +contextual (maxSteps := 3000000) only [↓ops_nil, ↓ops_cons, run_none, ↓run0_v, ↓seqK_normal, ↓blkK_exit, ↓retK_ret, put_same, put_ne, ev_tmp, o_move, o_assign, g_none, resultsOf, oneOrAll, Option.map_some, ↓reduceIte, Nat.reduceEqDiff, not_false_eq_true, ne_eq, ↓cd_seq, ↓cd_region, ↓cd_ret, e3]
  · refine ⟨0, .nils, [], by omega, ?_, ?_, ?_, ?_, ?_, ?_, ?_, ?_⟩
    · exact ⟨RowC.nil _ _, (fun _ _ _ _ _ _ e => by cases e), (fun j hj => by cases hj), (fun j hj => by cases hj), fun j hj => by cases hj⟩
    · rfl
    · exact Grow.refl _
    · omega
    · simp only [put_same, put_ne, Nat.reduceEqDiff, not_false_eq_true, ne_eq]
    · simp only [put_same, put_ne, Nat.reduceEqDiff, not_false_eq_true, ne_eq]
    · simp only [put_same, put_ne, Nat.reduceEqDiff, not_false_eq_true, ne_eq]
    · simp only [put_same]; rfl
end Go.AM.X
