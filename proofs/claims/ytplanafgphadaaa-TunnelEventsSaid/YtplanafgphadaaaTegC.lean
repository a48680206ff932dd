/- The bytes of events: the walk. Own work. -/
import Derived.Test.YtplanafgphadaaaTegB
namespace Go.AM.X
open Go Go.AM Go.Proofs Go.AM.Sx
set_option maxHeartbeats 1600000
set_option maxRecDepth 100000
set_option linter.unusedVariables false
theorem F13 : F 13 = some { body := (Try.f13.body.getD .skip), results := Try.f13.results.toList, rf := false } := by kernel_rfl
theorem R13 : regsOk T (Try.f13.body.getD .skip) = true := by kernel_rfl
theorem F12 : F 12 = some { body := (Try.f12.body.getD .skip), results := Try.f12.results.toList, rf := false } := by kernel_rfl
def evL (l : List Ev) : AV := .lst false 4 l.length (fl Ev.av l)
theorem evAt {l : List Ev} {i : Nat} {x : Ev} (hx : l[i]? = some x) : ∃ pl, aIndexAddr T 33 (evL l) (.int .i64 (i : Nat)) = some (.fp pl) ∧ 4 ≤ pl.length ∧ pl.take 4 = [.int .i64 x.d, .int .i64 x.lo, .int .i64 x.hi, .int .i64 x.di] := by
  have hi := (List.getElem?_eq_some_iff.1 hx).1
  have h1 := fl_at Ev.av 4 Ev.len hx []
  rw [List.append_nil] at h1
  have hlt : (i + 1) * 4 ≤ l.length * 4 := Nat.mul_le_mul_right _ hi
  have h2 : 4 ≤ ((fl Ev.av l).drop (i * 4)).length := by rw [List.length_drop, fl_len Ev.av 4 Ev.len]; omega
  refine ⟨(fl Ev.av l).drop (i * 4), ?_, h2, h1⟩
  unfold evL
  rw [ia_lst T33 d33 T92 s92, if_pos ⟨by omega, by omega⟩]; simp
theorem store_e (h : AH) (x : Ev) : ∃ h2, aStore T 92 (.ptr h.next 0) (.agg [.int .i64 x.d, .int .i64 x.lo, .int .i64 x.hi, .int .i64 x.di]) (h.alloc (.cells [.int .i64 0, .int .i64 0, .int .i64 0, .int .i64 0] .own)) = some h2 ∧ h2.next = h.next + 1 ∧ h2.get h.next = some (.cells [.int .i64 x.d, .int .i64 x.lo, .int .i64 x.hi, .int .i64 x.di] .own) ∧ Grow h h2 := by
  have h1 := store_n (T := T) (t := 92) (b := h.next) (o := 0) (v := .agg x.av) (vs := x.av) (h := h.alloc (.cells [.int .i64 0, .int .i64 0, .int .i64 0, .int .i64 0] .own)) (cs := [.int .i64 0, .int .i64 0, .int .i64 0, .int .i64 0]) T92 rfl (by rw [s92]; rfl) rfl (by rw [AH.get_alloc, if_pos rfl]) (by simp [Ev.len])
  exact ⟨_, h1, by simp, by rw [AH.get_put, if_pos rfl]; rfl, by simp, fun c hc => by rw [AH.get_put, if_neg (by omega), AH.get_alloc, if_neg (by omega)]⟩
def PE (l : List Ev) (r : Rs) : Prop := ∃ h' w, r = some (.tup [w, .int .i64 (putE l).2], h') ∧ RowC 1 h' w (putE l).1.length (bytes (putE l).1)
theorem PE.bad {l : List Ev} {h' : AH} (hb : putE l = ([], 2)) : PE l (some (.tup [.nils, .int .i64 2], h')) := by
  unfold PE; rw [hb]; exact ⟨_, _, rfl, RowC.nil _ _⟩
theorem put_bad {l : List Ev} {x : Ev} (hx : x ∈ l) (hb : okEv x = false) : putE l = ([], 2) := by
  unfold putE
  rw [if_neg]
  intro h
  have := List.all_eq_true.1 h.2 x hx
  rw [hb] at this; cases this
theorem bytes_app (a b : List Int) : bytes (a ++ b) = bytes a ++ bytes b := by simp [bytes]
theorem ok_not {x : Ev} (h : okEv x = false) : x.d < 0 ∨ (¬ x.d < 0 ∧ 2 < x.d) ∨ (¬ x.d < 0 ∧ ¬ 2 < x.d ∧ okT x.lo x.hi x.di = false) := by
  simp only [okEv, Bool.and_eq_false_iff, decide_eq_false_iff_not] at h
  by_cases h1 : x.d < 0
  · exact .inl h1
  · by_cases h2 : 2 < x.d
    · exact .inr (.inl ⟨h1, h2⟩)
    · refine .inr (.inr ⟨h1, h2, ?_⟩)
      rcases h with (h | h) | h
      · omega
      · omega
      · exact h
theorem okT_b {lo hi di : Int} (h : okT lo hi di = true) : (1 ≤ lo ∧ lo ≤ 65279) ∧ (1 ≤ hi ∧ hi ≤ 65279) ∧ 0 ≤ di ∧ di ≤ 15 := by
  simp only [okT, Bool.and_eq_true, decide_eq_true_eq] at h
  omega
theorem run13 {I : Nat → Option (List AV → AH → Rs)} (h39 : I 39 = some (pureG g39)) (h13 : I 13 = none) (l : List Ev) (m : Nat) (hl : l.length ≤ 1000000) : PE l (call F I T (m + 110) 13 [evL l] e0) := by
  have hlen : ∀ h, aLen T 33 (evL l) h = some (.int .i64 (l.length : Nat)) := fun h => by simp [aLen, T33, d33, evL]
  have ia := fun i x (hx : l[i]? = some x) => evAt hx
  obtain ⟨VL, hVL⟩ : ∃ VL, VL = evL l := ⟨_, rfl⟩
  rw [← hVL] at hlen ia ⊢
  rw [call_F (by decide) h13 F13 rfl R13]; simp only [Try.f13, Option.getD]
  by_cases q1 : (l.length : Int) < 1
  · simp +contextual (maxSteps := 3000000) only [↓code_seq, ↓code_region, ↓code_cond, ↓code_ret, aCond_bool, ↓ops_nil, ↓ops_cons, run_none, run_someF, ↓run0_v, ↓seqK_normal, ↓seqK_ret, ↓retK_ret, put_same, put_ne, env0_at, ev_tmp, ev_const, oc_int, oc_bool, oc_nils, o_move, o_assign, o_pick, o_bin, o_len, g_none, g_some, pick_bool, bin_lss, resultsOf, oneOrAll, Option.bind_some, Option.map_some, Option.getD_some, decide_eq_true_eq, ↓reduceIte, Nat.reduceEqDiff, not_false_eq_true, reduceCtorEq, List.getElem?_cons_zero, List.getElem?_cons_succ, List.getElem?_toArray, ne_eq, hlen, q1]
    exact PE.bad (by unfold putE; rw [if_neg (by omega)])
  by_cases q2 : (4 : Int) < (l.length : Int)
  · simp +contextual (maxSteps := 3000000) only [↓code_seq, ↓code_region, ↓code_cond, ↓code_ret, aCond_bool, ↓ops_nil, ↓ops_cons, run_none, run_someF, ↓run0_v, ↓seqK_normal, ↓seqK_ret, ↓retK_ret, put_same, put_ne, env0_at, ev_tmp, ev_const, oc_int, oc_bool, oc_nils, o_move, o_assign, o_pick, o_bin, o_len, g_none, g_some, pick_bool, bin_lss, bin_gtr, resultsOf, oneOrAll, Option.bind_some, Option.map_some, Option.getD_some, decide_eq_true_eq, ↓reduceIte, Nat.reduceEqDiff, not_false_eq_true, reduceCtorEq, List.getElem?_cons_zero, List.getElem?_cons_succ, List.getElem?_toArray, gt_iff_lt, ne_eq, hlen, q1, q2]
    exact PE.bad (by unfold putE; rw [if_neg (by omega)])
  simp +contextual (maxSteps := 3000000) only [↓code_skip, ↓code_seq, ↓code_region, ↓code_cond, ↓code_block, ↓code_loop, aCond_bool, ↓ops_nil, ↓ops_cons, run_none, run_someF, ↓run0_v, ↓seqK_normal, put_same, put_ne, env0_at, ev_tmp, ev_const, oc_int, oc_bool, oc_nils, o_move, o_assign, o_pick, o_bin, o_len, g_none, g_some, pick_bool, bin_lss, bin_gtr, Option.bind_some, Option.getD_some, decide_eq_true_eq, ↓reduceIte, Nat.reduceEqDiff, not_false_eq_true, reduceCtorEq, List.getElem?_cons_zero, List.getElem?_cons_succ, List.getElem?_toArray, gt_iff_lt, ne_eq, hlen, q1, q2]
  refine iterL_wp (Q := fun r => PE l r) (N := l.length) (Inv := fun k e h' => ∃ i w, k + i = l.length ∧ RowC 1 h' w (6 * i) (bytes ((l.take i).flatMap evB)) ∧ (l.take i).all okEv = true ∧ i ≤ l.length ∧ e 0 = VL ∧ e 4 = w ∧ e 5 = .int .i64 (i : Nat)) ?_ ?_ (by omega)
  · rintro k e h' K' ⟨i, w, hk, hr, hall, hil, e0, e4, e5⟩ hnext hexit
    by_cases hi : i < l.length
    · have c1 : (i : Int) < (l.length : Int) := by omega
      obtain ⟨x, hx⟩ : ∃ x, l[i]? = some x := ⟨l[i], List.getElem?_eq_getElem hi⟩
      obtain ⟨pl, g1, g2, g3⟩ := ia i x hx
      obtain ⟨hZ, y1, y2, y3, y4⟩ := store_e h' x
      have c7 : IntKind.i64.wrap ((i : Int) + 1) = ((i + 1 : Nat) : Int) := by rw [wrap_i64 (by omega) (by omega)]; rfl
      cases hok : okEv x with
      | false =>
        have hb := put_bad (List.mem_of_getElem? hx) hok
        rcases ok_not hok with c2 | ⟨c2, c3⟩ | ⟨c2, c3, c4⟩
        · simp +contextual (maxSteps := 3000000) only [↓code_skip, ↓code_seq, ↓code_region, ↓code_cond, ↓code_block, ↓code_ret, aCond_bool, ↓ops_nil, ↓ops_cons, run_none, run_someF, ↓run0_v, ↓run0_h, ↓run0_r, ↓seqK_normal, ↓seqK_ret, ↓blkK_ret, put_same, put_ne, put_none, ev_tmp, ev_const, ev_func, oc_int, oc_bool, oc_nils, o_move, o_assign, o_pick, o_bin, o_call, o_len, o_alloc, o_load, o_store, o_un, o_fieldAddr, o_indexAddr, g_none, g_some, pick_bool, bin_lss, Option.bind_some, decide_eq_true_eq, ↓reduceIte, Nat.reduceEqDiff, not_false_eq_true, reduceCtorEq, List.getElem?_cons_zero, List.getElem?_cons_succ, List.getElem?_toArray, List.map_cons, List.map_nil, List.append_nil, List.nil_append, ne_eq, load_fpA T92 a92, s92, alloc_t T92, z92, fa_ptr T92 p92_0 (by decide), load_p1 T3 a3, loadc_def, fa_ptr T92 p92_1 (by decide), callV_fn (g := 39) (by decide), Nat.zero_add, Nat.add_zero, e0, e5, c1, hlen, g1, g2, g3, y1, y3, c2]
          refine hexit _ _ _ (by simp) ?_
          simp +contextual (maxSteps := 3000000) only [↓seqK_ret, ↓blkK_ret, ↓retK_ret, put_same, put_ne, resultsOf, oneOrAll, Option.map_some, Nat.reduceEqDiff, not_false_eq_true, ne_eq]
          exact PE.bad hb
        · simp +contextual (maxSteps := 3000000) only [↓code_skip, ↓code_seq, ↓code_region, ↓code_cond, ↓code_block, ↓code_ret, aCond_bool, ↓ops_nil, ↓ops_cons, run_none, run_someF, ↓run0_v, ↓run0_h, ↓run0_r, ↓seqK_normal, ↓seqK_ret, ↓blkK_ret, put_same, put_ne, put_none, ev_tmp, ev_const, ev_func, oc_int, oc_bool, oc_nils, o_move, o_assign, o_pick, o_bin, o_call, o_len, o_alloc, o_load, o_store, o_un, o_fieldAddr, o_indexAddr, g_none, g_some, pick_bool, bin_lss, bin_gtr, Option.bind_some, decide_eq_true_eq, ↓reduceIte, Nat.reduceEqDiff, not_false_eq_true, reduceCtorEq, List.getElem?_cons_zero, List.getElem?_cons_succ, List.getElem?_toArray, List.map_cons, List.map_nil, List.append_nil, List.nil_append, gt_iff_lt, ne_eq, load_fpA T92 a92, s92, alloc_t T92, z92, fa_ptr T92 p92_0 (by decide), load_p1 T3 a3, loadc_def, fa_ptr T92 p92_1 (by decide), callV_fn (g := 39) (by decide), Nat.zero_add, Nat.add_zero, e0, e5, c1, hlen, g1, g2, g3, y1, y3, c2, c3]
          refine hexit _ _ _ (by simp) ?_
          simp +contextual (maxSteps := 3000000) only [↓seqK_ret, ↓blkK_ret, ↓retK_ret, put_same, put_ne, resultsOf, oneOrAll, Option.map_some, Nat.reduceEqDiff, not_false_eq_true, ne_eq]
          exact PE.bad hb
        · simp +contextual (maxSteps := 3000000) only [↓code_skip, ↓code_seq, ↓code_region, ↓code_cond, ↓code_block, ↓code_ret, aCond_bool, ↓ops_nil, ↓ops_cons, run_none, run_someF, ↓run0_v, ↓run0_h, ↓run0_r, ↓seqK_normal, ↓seqK_ret, ↓blkK_ret, put_same, put_ne, put_none, ev_tmp, ev_const, ev_func, oc_int, oc_bool, oc_nils, o_move, o_assign, o_pick, o_bin, o_call, o_len, o_alloc, o_load, o_store, o_un, o_fieldAddr, o_indexAddr, g_none, g_some, pick_bool, bin_lss, bin_gtr, un_not, Option.bind_some, Option.map_some, decide_eq_true_eq, ↓reduceIte, Nat.reduceEqDiff, not_false_eq_true, Nat.reduceAdd, reduceCtorEq, List.getElem?_cons_zero, List.getElem?_cons_succ, List.getElem?_toArray, List.map_cons, List.map_nil, List.append_nil, List.nil_append, Nat.le_refl, gt_iff_lt, Bool.not_false, ne_eq, load_fpA T92 a92, s92, loadn_def, alloc_t T92, z92, fa_ptr T92 p92_0 (by decide), load_p1 T3 a3, loadc_def, fa_ptr T92 p92_1 (by decide), load_pA T90 a90, s90, List.take_succ_cons, List.take_nil, List.drop_succ_cons, List.drop_zero, List.length_cons, List.length_nil, callV_fn (g := 39) (by decide), K39 h39, List.length_cons, List.length_nil, List.drop_zero, List.take_succ_cons, List.take_nil, Nat.zero_add, Nat.add_zero, e0, e5, c1, hlen, g1, g2, g3, y1, y3, c2, c3, c4]
          refine hexit _ _ _ (by simp) ?_
          simp +contextual (maxSteps := 3000000) only [↓seqK_ret, ↓blkK_ret, ↓retK_ret, put_same, put_ne, resultsOf, oneOrAll, Option.map_some, Nat.reduceEqDiff, not_false_eq_true, ne_eq]
          exact PE.bad hb
      | true =>
        have hok' := hok
        simp only [okEv, Bool.and_eq_true, decide_eq_true_eq] at hok'
        obtain ⟨⟨p1, p2⟩, c4⟩ := hok'
        obtain ⟨b1, b2, b3⟩ := okT_b c4
        have c2 : ¬ x.d < 0 := by omega
        have c3 : ¬ 2 < x.d := by omega
        have w1 : IntKind.u8.wrap x.d = x.d := wrap_u8 (by omega) (by omega)
        have w2 : IntKind.u8.wrap (IntKind.i64.wrap (x.lo.tdiv 256)) = x.lo / 256 := by rw [Int.tdiv_eq_ediv_of_nonneg (by omega), wrap_i64 (by omega) (by omega), wrap_u8 (by omega) (by omega)]
        have w3 : IntKind.u8.wrap (x.lo.tmod 256) = x.lo % 256 := by rw [Int.tmod_eq_emod_of_nonneg (by omega), wrap_u8 (by omega) (by omega)]
        have w4 : IntKind.u8.wrap (IntKind.i64.wrap (x.hi.tdiv 256)) = x.hi / 256 := by rw [Int.tdiv_eq_ediv_of_nonneg (by omega), wrap_i64 (by omega) (by omega), wrap_u8 (by omega) (by omega)]
        have w5 : IntKind.u8.wrap (x.hi.tmod 256) = x.hi % 256 := by rw [Int.tmod_eq_emod_of_nonneg (by omega), wrap_u8 (by omega) (by omega)]
        have w6 : IntKind.u8.wrap x.di = x.di := wrap_u8 (by omega) (by omega)
        have hgZ := Grow.alloc hZ (.cells [.int .u8 x.d, .int .u8 (x.lo / 256), .int .u8 (x.lo % 256), .int .u8 (x.hi / 256), .int .u8 (x.hi % 256), .int .u8 x.di] .own)
        obtain ⟨w', h2, q1', q2', q3', _, _⟩ := ((hr.grow y4).grow hgZ).app' (x := .sl hZ.next 0 6 6 1 true) (new := bytes (evB x)) (m := 6) (xt := 34) T34 d34 T5 (isSrc_sl T34 d34) s5 (by decide) (by rw [b5]; decide)
          (by rw [s5, src_sl]; simp [AH.loadn, AH.get_alloc]; simp [bytes, evB]) rfl rfl (by rw [b5]; simp [maxBytes]; omega)
        have htk : (l.take (i + 1)).flatMap evB = (l.take i).flatMap evB ++ evB x := by rw [List.take_add_one, hx, List.flatMap_append]; simp
        rw [← bytes_app, ← htk, show 6 * i + 6 = 6 * (i + 1) by omega] at q2'
        simp +contextual (maxSteps := 3000000) only [↓code_skip, ↓code_seq, ↓code_region, ↓code_cond, ↓code_block, aCond_bool, ↓ops_nil, ↓ops_cons, run_none, run_someF, ↓run0_v, ↓run0_h, ↓run0_r, ↓seqK_normal, ↓blkK_normal, put_same, put_ne, put_none, ev_tmp, ev_const, ev_func, oc_int, oc_bool, o_move, o_assign, o_pick, o_bin, o_call, o_len, o_alloc, o_buildSlice, o_load, o_store, o_un, o_convert, o_fieldAddr, o_indexAddr, o_append, g_none, g_some, pick_bool, bin_add, bin_quo, bin_rem, bin_lss, bin_gtr, un_not, Option.bind_some, Option.map_some, decide_eq_true_eq, ↓reduceIte, Nat.reduceEqDiff, not_false_eq_true, Nat.reduceAdd, Nat.reduceMul, reduceCtorEq, Nat.succ_ne_self, List.getElem?_cons_zero, List.getElem?_cons_succ, List.getElem?_toArray, Bool.false_eq_true, List.map_cons, List.map_nil, List.append_nil, List.nil_append, List.cons_append, and_true, Nat.reduceLeDiff, Nat.le_refl, gt_iff_lt, Bool.not_true, ne_eq, load_fpA T92 a92, s92, loadn_def, alloc_t T92, z92, fa_ptr T92 p92_0 (by decide), load_p1 T3 a3, loadc_def, fa_ptr T92 p92_1 (by decide), load_pA T90 a90, s90, conv_int T3 T5 d5, fa_ptr T90 p90_0 (by decide), fa_ptr T90 p90_1 (by decide), fa_ptr T90 p90_2 (by decide), buildSl T34 d34 T5 (n := 6) (by rw [s5]; decide), s5, z5, parts_eq, fillA, AV.cells, AH.splice, List.take_succ_cons, List.take_zero, List.take_nil, List.drop_succ_cons, List.drop_zero, List.drop_nil, List.length_cons, List.length_nil, repl, callV_fn (g := 39) (by decide), K39 h39, List.length_cons, List.length_nil, List.drop_zero, List.take_succ_cons, List.take_zero, List.take_nil, Nat.zero_add, Nat.add_zero, e0, e4, e5, c1, hlen, g1, g2, g3, y1, y3, c2, c3, c4, w1, w2, w3, w4, w5, w6, q1', c7, (show ¬ (256 : Int) = 0 by decide)]
        refine hnext (k - 1) _ _ (by omega) ⟨i + 1, w', by omega, ?_, ?_, ?_, ?_, ?_, ?_⟩
        · exact q2'
        · (rw [List.take_add_one, hx, List.all_append, hall]; simp [hok])
        · omega
        · simp only [put_ne, not_false_eq_true, reduceCtorEq, ne_eq, e0]
        · simp only [put_same, put_ne, Nat.reduceEqDiff, not_false_eq_true, ne_eq]
        · simp only [put_same]
    · have c1 : ¬ (i : Int) < (l.length : Int) := by omega
      rw [List.take_of_length_le (by omega)] at hr hall
      have hG : putE l = (l.flatMap evB, 0) := by unfold putE; rw [if_pos ⟨⟨by omega, by omega⟩, hall⟩]
      simp +contextual (maxSteps := 3000000) only [↓code_seq, ↓code_region, ↓code_cond, ↓code_exit, aCond_bool, ↓ops_nil, ↓ops_cons, run_none, ↓run0_v, ↓seqK_normal, ↓seqK_exit, put_same, put_ne, ev_tmp, o_move, o_bin, o_len, g_none, bin_lss, decide_eq_true_eq, ↓reduceIte, Nat.reduceEqDiff, not_false_eq_true, reduceCtorEq, ne_eq, e0, e5, c1, hlen]
      refine hexit _ _ _ (by simp) ?_
      simp +contextual (maxSteps := 3000000) only [↓code_seq, ↓code_region, ↓code_ret, ↓ops_nil, ↓ops_cons, run_none, ↓run0_v, ↓seqK_normal, ↓blkK_exit, ↓retK_ret, put_same, put_ne, ev_tmp, ev_const, oc_int, o_move, o_assign, g_none, resultsOf, oneOrAll, Option.map_some, ↓reduceIte, Nat.reduceEqDiff, not_false_eq_true, ne_eq, e4]
      unfold PE
      rw [hG]
      refine ⟨_, _, rfl, ?_⟩
      show RowC 1 h' w (l.flatMap evB).length (bytes (l.flatMap evB))
      rw [evs_len, show 6 * l.length = 6 * i by omega]; exact hr
  · refine ⟨0, .nils, by omega, ?_, ?_, ?_, ?_, ?_, ?_⟩
    · exact RowC.nil _ _
    · rfl
    · omega
    · simp only [put_ne, env0_at, Option.getD_some, not_false_eq_true, reduceCtorEq, List.getElem?_cons_zero, ne_eq]
    · simp only [put_same, put_ne, Nat.reduceEqDiff, not_false_eq_true, ne_eq]
    · simp only [put_same]; rfl
theorem run12 {I : Nat → Option (List AV → AH → Rs)} (h37 : I 37 = some (pureG g37)) (h38 : I 38 = some (pureG g38)) (h12 : I 12 = none) (l : List Ev) (m : Nat) (hl : l.length ≤ 1000000) : PE l (call F I T (m + 110) 12 [evL l] e0) := by
  have hlen : ∀ h, aLen T 33 (evL l) h = some (.int .i64 (l.length : Nat)) := fun h => by simp [aLen, T33, d33, evL]
  have ia := fun i x (hx : l[i]? = some x) => evAt hx
  obtain ⟨VL, hVL⟩ : ∃ VL, VL = evL l := ⟨_, rfl⟩
  rw [← hVL] at hlen ia ⊢
  rw [call_code (by decide) h12 F12 rfl]; simp only [Try.f12, Option.getD]
  by_cases q1 : (l.length : Int) < 1
  · simp +contextual (maxSteps := 3000000) only [aCond_bool, ↓ops_nil, ↓ops_cons, run_none, run_someF, ↓run0_v, ↓seqK_normal, ↓seqK_ret, ↓retK_ret, put_same, put_ne, env0_at, ev_tmp, ev_const, oc_int, oc_bool, oc_nils, o_move, o_assign, o_pick, o_bin, o_len, g_none, g_some, pick_bool, bin_lss, resultsOf, oneOrAll, Option.bind_some, Option.map_some, Option.getD_some, decide_eq_true_eq, ↓reduceIte, Nat.reduceEqDiff, not_false_eq_true, reduceCtorEq, List.getElem?_cons_zero, List.getElem?_cons_succ, List.getElem?_toArray, ne_eq, ↓cd_seq, ↓cd_region, ↓cd_cond, ↓cd_ret, hlen, q1]
    exact PE.bad (by unfold putE; rw [if_neg (by omega)])
  by_cases q2 : (4 : Int) < (l.length : Int)
  · simp +contextual (maxSteps := 3000000) only [aCond_bool, ↓ops_nil, ↓ops_cons, run_none, run_someF, ↓run0_v, ↓seqK_normal, ↓seqK_ret, ↓retK_ret, put_same, put_ne, env0_at, ev_tmp, ev_const, oc_int, oc_bool, oc_nils, o_move, o_assign, o_pick, o_bin, o_len, g_none, g_some, pick_bool, bin_lss, bin_gtr, resultsOf, oneOrAll, Option.bind_some, Option.map_some, Option.getD_some, decide_eq_true_eq, ↓reduceIte, Nat.reduceEqDiff, not_false_eq_true, reduceCtorEq, List.getElem?_cons_zero, List.getElem?_cons_succ, List.getElem?_toArray, gt_iff_lt, ne_eq, ↓cd_seq, ↓cd_region, ↓cd_cond, ↓cd_ret, hlen, q1, q2]
    exact PE.bad (by unfold putE; rw [if_neg (by omega)])
  simp +contextual (maxSteps := 3000000) only [aCond_bool, ↓ops_nil, ↓ops_cons, run_none, run_someF, ↓run0_v, ↓seqK_normal, put_same, put_ne, env0_at, ev_tmp, ev_const, oc_int, oc_bool, oc_nils, o_move, o_assign, o_pick, o_bin, o_len, g_none, g_some, pick_bool, bin_lss, bin_gtr, Option.bind_some, Option.getD_some, decide_eq_true_eq, ↓reduceIte, Nat.reduceEqDiff, not_false_eq_true, reduceCtorEq, List.getElem?_cons_zero, List.getElem?_cons_succ, List.getElem?_toArray, gt_iff_lt, ne_eq, ↓cd_skip, ↓cd_seq, ↓cd_region, ↓cd_cond, ↓cd_block, hlen, q1, q2]
  refine iterL_wp (Q := fun r => PE l r) (N := l.length) (Inv := fun k e h' => ∃ i w, k + i = l.length ∧ RowC 1 h' w (6 * i) (bytes ((l.take i).flatMap evB)) ∧ (l.take i).all okEv = true ∧ i ≤ l.length ∧ e 4 = w ∧ e 19 = VL ∧ e 20 = .int .i64 (l.length : Nat) ∧ e 21 = .int .i64 (i : Nat)) ?_ ?_ (by omega)
  · rintro k e h' K' ⟨i, w, hk, hr, hall, hil, e4, e19, e20, e21⟩ hnext hexit
    by_cases hi : i < l.length
    · have c1 : (i : Int) < (l.length : Int) := by omega
      obtain ⟨x, hx⟩ : ∃ x, l[i]? = some x := ⟨l[i], List.getElem?_eq_getElem hi⟩
      obtain ⟨pl, g1, g2, g3⟩ := ia i x hx
      obtain ⟨hZ, y1, y2, y3, y4⟩ := store_e h' x
      have c7 : IntKind.i64.wrap ((i : Int) + 1) = ((i + 1 : Nat) : Int) := by rw [wrap_i64 (by omega) (by omega)]; rfl
      cases hok : okEv x with
      | false =>
        have hb := put_bad (List.mem_of_getElem? hx) hok
        rcases ok_not hok with c2 | ⟨c2, c3⟩ | ⟨c2, c3, c4⟩
        · simp +contextual (maxSteps := 3000000) only [aCond_bool, ↓ops_nil, ↓ops_cons, run_none, run_someF, ↓run0_v, ↓run0_h, ↓run0_r, ↓seqK_normal, ↓seqK_ret, ↓blkK_ret, put_same, put_ne, put_none, ev_tmp, ev_const, ev_func, oc_int, oc_bool, oc_nils, o_move, o_assign, o_pick, o_bin, o_call, o_alloc, o_load, o_store, o_un, o_fieldAddr, o_indexAddr, g_none, g_some, pick_bool, bin_lss, Option.bind_some, decide_eq_true_eq, ↓reduceIte, Nat.reduceEqDiff, not_false_eq_true, List.getElem?_cons_zero, List.getElem?_cons_succ, List.getElem?_toArray, List.map_cons, List.map_nil, List.append_nil, List.nil_append, ne_eq, ↓cd_skip, ↓cd_seq, ↓cd_region, ↓cd_cond, ↓cd_block, ↓cd_ret, load_fpA T92 a92, s92, alloc_t T92, z92, fa_ptr T92 p92_0 (by decide), load_p1 T3 a3, loadc_def, fa_ptr T92 p92_1 (by decide), callV_fn (g := 37) (by decide), Nat.zero_add, Nat.add_zero, e19, e20, e21, c1, g1, g2, g3, y1, y3, c2]
          refine hexit _ _ _ (by simp) ?_
          simp +contextual (maxSteps := 3000000) only [↓seqK_ret, ↓blkK_ret, ↓retK_ret, put_same, put_ne, resultsOf, oneOrAll, Option.map_some, Nat.reduceEqDiff, not_false_eq_true, ne_eq]
          exact PE.bad hb
        · simp +contextual (maxSteps := 3000000) only [aCond_bool, ↓ops_nil, ↓ops_cons, run_none, run_someF, ↓run0_v, ↓run0_h, ↓run0_r, ↓seqK_normal, ↓seqK_ret, ↓blkK_ret, put_same, put_ne, put_none, ev_tmp, ev_const, ev_func, oc_int, oc_bool, oc_nils, o_move, o_assign, o_pick, o_bin, o_call, o_alloc, o_load, o_store, o_un, o_fieldAddr, o_indexAddr, g_none, g_some, pick_bool, bin_lss, bin_gtr, Option.bind_some, decide_eq_true_eq, ↓reduceIte, Nat.reduceEqDiff, not_false_eq_true, List.getElem?_cons_zero, List.getElem?_cons_succ, List.getElem?_toArray, List.map_cons, List.map_nil, List.append_nil, List.nil_append, gt_iff_lt, ne_eq, ↓cd_skip, ↓cd_seq, ↓cd_region, ↓cd_cond, ↓cd_block, ↓cd_ret, load_fpA T92 a92, s92, alloc_t T92, z92, fa_ptr T92 p92_0 (by decide), load_p1 T3 a3, loadc_def, fa_ptr T92 p92_1 (by decide), callV_fn (g := 37) (by decide), Nat.zero_add, Nat.add_zero, e19, e20, e21, c1, g1, g2, g3, y1, y3, c2, c3]
          refine hexit _ _ _ (by simp) ?_
          simp +contextual (maxSteps := 3000000) only [↓seqK_ret, ↓blkK_ret, ↓retK_ret, put_same, put_ne, resultsOf, oneOrAll, Option.map_some, Nat.reduceEqDiff, not_false_eq_true, ne_eq]
          exact PE.bad hb
        · simp +contextual (maxSteps := 3000000) only [aCond_bool, ↓ops_nil, ↓ops_cons, run_none, run_someF, ↓run0_v, ↓run0_h, ↓run0_r, ↓seqK_normal, ↓seqK_ret, ↓blkK_ret, put_same, put_ne, put_none, ev_tmp, ev_const, ev_func, oc_int, oc_bool, oc_nils, o_move, o_assign, o_pick, o_bin, o_call, o_alloc, o_load, o_store, o_un, o_fieldAddr, o_indexAddr, g_none, g_some, pick_bool, bin_lss, bin_gtr, un_not, Option.bind_some, Option.map_some, decide_eq_true_eq, ↓reduceIte, Nat.reduceEqDiff, not_false_eq_true, Nat.reduceAdd, List.getElem?_cons_zero, List.getElem?_cons_succ, List.getElem?_toArray, List.map_cons, List.map_nil, List.append_nil, List.nil_append, Nat.le_refl, gt_iff_lt, Bool.not_false, ne_eq, ↓cd_skip, ↓cd_seq, ↓cd_region, ↓cd_cond, ↓cd_block, ↓cd_ret, load_fpA T92 a92, s92, loadn_def, alloc_t T92, z92, fa_ptr T92 p92_0 (by decide), load_p1 T3 a3, loadc_def, fa_ptr T92 p92_1 (by decide), load_pA T90 a90, s90, List.take_succ_cons, List.take_nil, List.drop_succ_cons, List.drop_zero, List.length_cons, List.length_nil, callV_fn (g := 37) (by decide), K37 h37, List.length_cons, List.length_nil, List.drop_zero, List.take_succ_cons, List.take_nil, Nat.zero_add, Nat.add_zero, e19, e20, e21, c1, g1, g2, g3, y1, y3, c2, c3, c4]
          refine hexit _ _ _ (by simp) ?_
          simp +contextual (maxSteps := 3000000) only [↓seqK_ret, ↓blkK_ret, ↓retK_ret, put_same, put_ne, resultsOf, oneOrAll, Option.map_some, Nat.reduceEqDiff, not_false_eq_true, ne_eq]
          exact PE.bad hb
      | true =>
        have hok' := hok
        simp only [okEv, Bool.and_eq_true, decide_eq_true_eq] at hok'
        obtain ⟨⟨p1, p2⟩, c4⟩ := hok'
        obtain ⟨b1, b2, b3⟩ := okT_b c4
        have c2 : ¬ x.d < 0 := by omega
        have c3 : ¬ 2 < x.d := by omega
        have l1 : 0 ≤ x.lo := by omega
        have l2 : x.lo ≤ 65535 := by omega
        have l3 : 0 ≤ x.hi := by omega
        have l4 : x.hi ≤ 65535 := by omega
        simp +contextual (maxSteps := 3000000) only [aCond_bool, ↓ops_nil, ↓ops_cons, run_none, run_someF, ↓run0_v, ↓run0_h, ↓run0_r, ↓seqK_normal, put_same, put_ne, put_none, ev_tmp, ev_const, ev_func, oc_int, oc_bool, o_move, o_assign, o_pick, o_bin, o_call, o_alloc, o_load, o_store, o_un, o_fieldAddr, o_indexAddr, o_extract, g_none, g_some, pick_bool, bin_lss, bin_gtr, un_not, extract_tup, Option.bind_some, Option.map_some, decide_eq_true_eq, ↓reduceIte, Nat.reduceEqDiff, not_false_eq_true, Nat.reduceAdd, List.getElem?_cons_zero, List.getElem?_cons_succ, List.getElem?_toArray, Bool.false_eq_true, List.map_cons, List.map_nil, List.append_nil, List.nil_append, and_true, Nat.le_refl, gt_iff_lt, Bool.not_true, ne_eq, ↓cd_skip, ↓cd_seq, ↓cd_region, ↓cd_cond, ↓cd_block, load_fpA T92 a92, s92, loadn_def, alloc_t T92, z92, fa_ptr T92 p92_0 (by decide), load_p1 T3 a3, loadc_def, fa_ptr T92 p92_1 (by decide), load_pA T90 a90, s90, fa_ptr T90 p90_0 (by decide), fa_ptr T90 p90_1 (by decide), List.take_succ_cons, List.take_nil, List.drop_succ_cons, List.drop_zero, List.length_cons, List.length_nil, callV_fn (g := 37) (by decide), K37 h37, callV_fn (g := 38) (by decide), K38 h38, List.length_cons, List.length_nil, List.drop_zero, List.take_succ_cons, List.take_nil, Nat.zero_add, Nat.add_zero, e19, e20, e21, c1, g1, g2, g3, y1, y3, c2, c3, c4, l1, l2, l3, l4]
        obtain ⟨HB, hHB⟩ : ∃ HB : AH, HB = ⟨hZ.next + 17, hZ.t⟩ := ⟨_, rfl⟩
        rw [code_F (mt := [5, 5, 5, 5, 5, 7, 7, 9, 9, 15, 15, 15, 15, 15, 15, 17, 17]) (ss := [(12, 0, 15)]) (tb := [(false, []), (false, []), (false, []), (false, []), (true, []), (false, [4]), (false, []), (false, []), (false, []), (false, []), (false, []), (false, []), (false, []), (false, []), (true, []), (false, [14]), (false, []), (false, [])]) (HB := HB) (by kernel_rfl) (by kernel_rfl) (by kernel_rfl) (by kernel_rfl) (by kernel_rfl) rfl hHB]
        have nB := next_bump hHB
        have gBd := get_bump hHB
        have w1 : IntKind.u8.wrap x.d = x.d := wrap_u8 (by omega) (by omega)
        have w6 : IntKind.u8.wrap x.di = x.di := wrap_u8 (by omega) (by omega)
        have gn := y4.1
        have z5' : tt5.zero.length = 1 := by kernel_rfl
        obtain ⟨H1, hH1⟩ : ∃ H1, H1 = HB.put (hZ.next + 4) (.cells [.int .u8 x.d] .own) := ⟨_, rfl⟩
        have n1 : H1.next = hZ.next + 17 := by rw [hH1]; exact nB
        have r1 : RowC 1 H1 w (6 * i) (bytes ((l.take i).flatMap evB)) := hr.keep (by omega) fun b o l k z x e => by
          have := hr.lt e
          rw [hH1, AH.get_put, if_neg (by omega), gBd, y4.2 b this]
        obtain ⟨v1, H2, ta, tb, tc, td, te⟩ := r1.app' (x := .sl (hZ.next + 4) 0 1 1 1 true) (new := [.int .u8 x.d]) (m := 1) (xt := 34) T34 d34 T5 (isSrc_sl T34 d34) s5 (by decide) (by rw [b5]; decide)
          (by rw [s5, src_sl, hH1]; simp [AH.loadn, AH.get_put]) rfl rfl (by rw [b5]; simp [maxBytes]; omega)
        have o1 : ∀ b o l k z x, v1 = .sl b o l k z x → b < h'.next ∨ hZ.next + 17 ≤ b := fun b o l k z x e => by
          rcases te _ _ _ _ _ _ e with g | ⟨_, _, _, _, _, g⟩
          · right; omega
          · left; exact hr.lt g
        obtain ⟨v2, H3, ua, ub, uc, ud, ue⟩ := tb.app' (x := .lst false 1 2 [.int .u8 (x.lo / 256), .int .u8 (x.lo % 256)]) (new := [.int .u8 (x.lo / 256), .int .u8 (x.lo % 256)]) (m := 2) (xt := 34) T34 d34 T5 (isSrc_sl T34 d34) s5 (by decide) (by rw [b5]; decide)
          (by rw [s5]; exact src_lst) rfl rfl (by rw [b5]; simp [maxBytes]; omega)
        have o2 : ∀ b o l k z x, v2 = .sl b o l k z x → b < h'.next ∨ hZ.next + 17 ≤ b := fun b o l k z x e => by
          rcases ue _ _ _ _ _ _ e with g | ⟨_, _, _, _, _, g⟩
          · right; omega
          · exact o1 _ _ _ _ _ _ g
        obtain ⟨v3, H4, va, vb, vc, vd, ve⟩ := ub.app' (x := .lst false 1 2 [.int .u8 (x.hi / 256), .int .u8 (x.hi % 256)]) (new := [.int .u8 (x.hi / 256), .int .u8 (x.hi % 256)]) (m := 2) (xt := 34) T34 d34 T5 (isSrc_sl T34 d34) s5 (by decide) (by rw [b5]; decide)
          (by rw [s5]; exact src_lst) rfl rfl (by rw [b5]; simp [maxBytes]; omega)
        have o3 : ∀ b o l k z x, v3 = .sl b o l k z x → b < h'.next ∨ hZ.next + 17 ≤ b := fun b o l k z x e => by
          rcases ve _ _ _ _ _ _ e with g | ⟨_, _, _, _, _, g⟩
          · right; omega
          · exact o2 _ _ _ _ _ _ g
        obtain ⟨H5, hH5⟩ : ∃ H5, H5 = H4.put (hZ.next + 14) (.cells [.int .u8 x.di] .own) := ⟨_, rfl⟩
        have r5 := vb.keep (h2 := H5) (by rw [hH5]; exact Nat.le_refl _) fun b o l k z x e => by
          have := o3 _ _ _ _ _ _ e
          rw [hH5, AH.get_put, if_neg (by omega)]
        obtain ⟨v4, H6, xa, xb, xc, xd, xe⟩ := r5.app' (x := .sl (hZ.next + 14) 0 1 1 1 true) (new := [.int .u8 x.di]) (m := 1) (xt := 34) T34 d34 T5 (isSrc_sl T34 d34) s5 (by decide) (by rw [b5]; decide)
          (by rw [s5, src_sl, hH5]; simp [AH.loadn, AH.get_put]) rfl rfl (by rw [b5]; simp [maxBytes]; omega)
        have htk : (l.take (i + 1)).flatMap evB = (l.take i).flatMap evB ++ evB x := by rw [List.take_add_one, hx, List.flatMap_append]; simp
        have hcs : ((((bytes ((l.take i).flatMap evB) ++ [AV.int .u8 x.d]) ++ [.int .u8 (x.lo / 256), .int .u8 (x.lo % 256)]) ++ [.int .u8 (x.hi / 256), .int .u8 (x.hi % 256)]) ++ [.int .u8 x.di]) = bytes ((l.take (i + 1)).flatMap evB) := by
          rw [htk, bytes_app]; simp [bytes, evB]
        rw [hcs, show 6 * i + 1 + 2 + 2 + 1 = 6 * (i + 1) by omega] at xb
        have k0 : HB.get h'.next = some (.cells [.int .i64 x.d, .int .i64 x.lo, .int .i64 x.hi, .int .i64 x.di] .own) := by rw [gBd]; exact y3
        have k1 : H2.get h'.next = some (.cells [.int .i64 x.d, .int .i64 x.lo, .int .i64 x.hi, .int .i64 x.di] .own) := by
          rw [td _ (by omega) (fun b o l k z x e => by have := hr.lt e; omega), hH1, AH.get_put, if_neg (by omega)]; exact k0
        have k2 : H3.get h'.next = some (.cells [.int .i64 x.d, .int .i64 x.lo, .int .i64 x.hi, .int .i64 x.di] .own) := by
          rw [ud _ (by omega) (fun b o l k z x e => by have := o1 _ _ _ _ _ _ e; omega)]; exact k1
        have k3 : H4.get h'.next = some (.cells [.int .i64 x.d, .int .i64 x.lo, .int .i64 x.hi, .int .i64 x.di] .own) := by
          rw [vd _ (by omega) (fun b o l k z x e => by have := o2 _ _ _ _ _ _ e; omega)]; exact k2
        simp +contextual (maxSteps := 3000000) only [↓ops_nil, ↓ops_cons, run_none, ↓run0_v, ↓run0_r, ↓seqK_normal, ↓blkK_normal, put_same, put_ne, ev_tmp, ev_const, oc_int, o_move, o_assign, o_bin, o_load, o_convert, o_fieldAddr, o_append, g_none, bin_add, Nat.reduceEqDiff, not_false_eq_true, Nat.reduceAdd, List.getElem?_cons_zero, List.getElem?_cons_succ, List.nil_append, List.cons_append, ne_eq, ↓cd_region, fa_ptr T92 p92_0 (by decide), load_p1 T3 a3, loadc_def, fa_ptr T92 p92_1 (by decide), conv_int T3 T5 d5, fa_ptr T90 p90_2 (by decide), Nat.zero_add, Nat.add_zero, e4, e21, c7, opsG_nil, opsG_t, opsG_f, lay_nil, lay_one, updC_same, isI_int, mk_one T34 d34 T5 s5 z5', k0, k3, w1, w6, ← hH1, ta, ua, va, ← hH5, xa]
        refine soft_Q (PE l) ?_ ?_
        · refine hnext (k - 1) _ _ (by omega) ⟨i + 1, v4, by omega, ?_, ?_, ?_, ?_, ?_, ?_, ?_⟩
          · exact xb
          · (rw [List.take_add_one, hx, List.all_append, hall]; simp [hok])
          · omega
          · simp only [put_same, put_ne, Nat.reduceEqDiff, not_false_eq_true, ne_eq]
          · simp only [put_ne, Nat.reduceEqDiff, not_false_eq_true, ne_eq, e19]
          · simp only [put_ne, Nat.reduceEqDiff, not_false_eq_true, ne_eq, e20]
          · simp only [put_same]
        · simp +contextual (maxSteps := 3000000) only [run_none, ↓run0_v, put_same, ev_tmp, o_load, g_none, Nat.reduceAdd, List.getElem?_cons_zero, List.getElem?_cons_succ, List.getElem?_toArray, load_p1 T3 a3, loadc_def, softOk, sameAt, stepV, same_int, Bool.and_true, k0, k1, k2, k3]
    · have c1 : ¬ (i : Int) < (l.length : Int) := by omega
      rw [List.take_of_length_le (by omega)] at hr hall
      have hG : putE l = (l.flatMap evB, 0) := by unfold putE; rw [if_pos ⟨⟨by omega, by omega⟩, hall⟩]
      simp +contextual (maxSteps := 3000000) only [aCond_bool, ↓ops_nil, ↓ops_cons, run_none, ↓run0_v, ↓seqK_normal, ↓seqK_exit, put_same, ev_tmp, o_bin, g_none, bin_lss, decide_eq_true_eq, ↓reduceIte, ↓cd_seq, ↓cd_region, ↓cd_cond, ↓cd_exit, e20, e21, c1]
      refine hexit _ _ _ (by simp) ?_
      simp +contextual (maxSteps := 3000000) only [↓ops_nil, ↓ops_cons, run_none, ↓run0_v, ↓seqK_normal, ↓blkK_exit, ↓retK_ret, put_same, put_ne, ev_tmp, ev_const, oc_int, o_move, o_assign, g_none, resultsOf, oneOrAll, Option.map_some, ↓reduceIte, Nat.reduceEqDiff, not_false_eq_true, ne_eq, ↓cd_seq, ↓cd_region, ↓cd_ret, e4]
      unfold PE
      rw [hG]
      refine ⟨_, _, rfl, ?_⟩
      show RowC 1 h' w (l.flatMap evB).length (bytes (l.flatMap evB))
      rw [evs_len, show 6 * l.length = 6 * i by omega]; exact hr
  · refine ⟨0, .nils, by omega, ?_, ?_, ?_, ?_, ?_, ?_, ?_⟩
    · exact RowC.nil _ _
    · rfl
    · omega
    · simp only [put_same, put_ne, Nat.reduceEqDiff, not_false_eq_true, ne_eq]
    · simp only [put_same, put_ne, Nat.reduceEqDiff, not_false_eq_true, ne_eq]
    · simp only [put_same, put_ne, Nat.reduceEqDiff, not_false_eq_true, ne_eq]
    · simp only [put_same]; rfl
end Go.AM.X
