/- Tables of routes: what their laws share. Own work. -/
import Derived.Test.YtekoffjfbjonmaaRtgJ
namespace Go.AM.X
open Go Go.AM Go.Proofs Go.AM.Sx
set_option maxHeartbeats 3200000
set_option maxRecDepth 100000
set_option linter.unusedVariables false
theorem len45 (l : List Ac) (h : AH) : aLen T 45 (.lst false 4 l.length (fl Ac.av l)) h = some (.int .i64 (l.length : Nat)) := by simp [aLen, T45, d45]
theorem actAt {l : List Ac} {i : Nat} {a : Ac} (ha : l[i]? = some a) : ∃ pl, aIndexAddr T 45 (.lst false 4 l.length (fl Ac.av l)) (.int .i64 (i : Nat)) = some (.fp pl) ∧ 4 ≤ pl.length ∧ pl.take 4 = [.int .i64 a.dd, .int .i64 a.po, .int .i64 a.fr, .lst false 3 a.tu.length (fl Tp.av a.tu)] := by
  obtain ⟨pl, g1, g2, g3, _⟩ := loadA ha
  have g5 := g2 e0
  rw [load_fpA T55 a55, s55, if_pos g3] at g5
  exact ⟨pl, g1, g3, by injection g5 with g6; injection g6⟩
theorem tell_len (ps : List Pt) (es : List E6) (n : Int) : (tellR ps es n).1.length ≤ es.length := by
  unfold tellR
  repeat' split
  all_goals simp only [List.length_nil]
  all_goals first | omega | (unfold tellL; rw [List.length_map]; exact List.length_filter_le _ _)
end Go.AM.X
namespace Go.AM.X
open Go Go.AM Go.Proofs Go.AM.Sx
set_option maxHeartbeats 3200000
set_option maxRecDepth 100000
set_option linter.unusedVariables false
theorem F6 : F 6 = some { body := (Try.f6.body.getD .skip), results := Try.f6.results.toList, rf := false } := by kernel_rfl
theorem R6 : regsOk T (Try.f6.body.getD .skip) = true := by kernel_rfl
theorem law6 {I : Nat → Option (List AV → AH → Rs)} (h13 : I 13 = some (pureG g13)) (h27 : I 27 = none) (h28 : I 28 = none) (h53 : I 53 = none) (h104 : I 104 = none) (h88 : I 88 = none) (h108 : I 108 = some (srtG 109)) (h114 : I 114 = none) (h110 : I 110 = none) (h109 : I 109 = none) (h96 : I 96 = none) (h60 : I 60 = none) (h71 : I 71 = none) (h103 : I 103 = none) (h86 : I 86 = none) (h47 : I 47 = none) (h48 : I 48 = none) (h106 : I 106 = none) (h90 : I 90 = none) (h49 : I 49 = none) (h91 : I 91 = none) (h50 : I 50 = none) (h98 : I 98 = none) (h99 : I 99 = none) (h68 : I 68 = none) (h97 : I 97 = none) (h67 : I 67 = none) (h111 : I 111 = none) (h100 : I 100 = none) (h69 : I 69 = none) (h70 : I 70 = none) (h29 : I 29 = none) (h34 : I 34 = none) (h35 : I 35 = none) (h6 : I 6 = none) (h56 : I 56 = none) (h87 : I 87 = none) (h89 : I 89 = none) (h95 : I 95 = none) (h105 : I 105 = none) (h107 : I 107 = none) (l : List Ac) (w : List Int) (m : Nat) (hm : l.length ≤ m ∧ l.length < 140737488355328) (hw : w.length < 140737488355328) : ∃ h', call F I T (m + 20001) 6 [.lst false 4 l.length (fl Ac.av l), .lst false 1 w.length (w.map (.int .i64))] e0 = some (.bool true, h') := by
  have hlen := len45 l
  have hlw : ∀ h, aLen T 39 (.lst false 1 w.length (w.map (AV.int .i64))) h = some (.int .i64 (w.length : Nat)) := fun h => by simp [aLen, T39, d39]
  have k27 := fun h => run27 h27 (m + 19980) l h ⟨by omega, hm.2⟩
  have ia : ∀ (i : Nat) (a : Ac), l[i]? = some a → ∃ pl, aIndexAddr T 45 (.lst false 4 l.length (fl Ac.av l)) (.int .i64 (i : Nat)) = some (.fp pl) ∧ 4 ≤ pl.length ∧ pl.take 4 = [.int .i64 a.dd, .int .i64 a.po, .int .i64 a.fr, .lst false 3 a.tu.length (fl Tp.av a.tu)] := fun i a ha => actAt ha
  have iw : ∀ (i : Nat) (x : Int), w[i]? = some x → ∃ pl, aIndexAddr T 39 (.lst false 1 w.length (w.map (AV.int .i64))) (.int .i64 (i : Nat)) = some (.fp pl) ∧ pl[0]? = some (.int .i64 x) := fun i x hx => by
    have hi := (List.getElem?_eq_some_iff.1 hx).1
    refine ⟨_, by rw [ia_lst T39 d39 T3 s3, if_pos ⟨by omega, by omega⟩], ?_⟩
    rw [List.getElem?_drop]; simp [hx]
  obtain ⟨V, hV⟩ : ∃ V, V = AV.lst false 4 l.length (fl Ac.av l) := ⟨_, rfl⟩
  obtain ⟨W, hW⟩ : ∃ W, W = AV.lst false 1 w.length (w.map (AV.int .i64)) := ⟨_, rfl⟩
  rw [← hV] at hlen k27 ia ⊢
  rw [← hW] at hlw iw ⊢
  have k13 := fun m h => K13 h13 m h
  cases hlo : longL l
  rotate_left
  · rw [hlo] at k27
    refine ⟨e0, ?_⟩
    rw [call_F (by decide) h6 F6 rfl R6]; simp only [Try.f6, Option.getD]
    simp +contextual (maxSteps := 3000000) only [↓code_seq, ↓code_region, ↓code_cond, ↓code_ret, aCond_bool, ↓ops_nil, ↓ops_cons, run_none, run_someF, ↓run0_v, ↓run0_r, ↓seqK_normal, ↓seqK_ret, ↓retK_ret, put_same, put_ne, env0_at, ev_tmp, ev_const, ev_func, oc_int, oc_bool, o_move, o_assign, o_pick, o_bin, o_call, o_len, g_none, g_some, pick_bool, resultsOf, oneOrAll, Option.bind_some, Option.map_some, Option.getD_some, ↓reduceIte, Nat.reduceEqDiff, not_false_eq_true, reduceCtorEq, List.getElem?_cons_zero, List.getElem?_cons_succ, List.getElem?_toArray, List.map_cons, List.map_nil, List.append_nil, List.nil_append, ne_eq, K13 h13, k27, callV_fn (g := 27) (by decide), callV_fn (g := 13) (by decide)]
  rw [hlo] at k27
  by_cases cw : (200 : Int) < (w.length : Int)
  · refine ⟨e0, ?_⟩
    rw [call_F (by decide) h6 F6 rfl R6]; simp only [Try.f6, Option.getD]
    simp +contextual (maxSteps := 3000000) only [↓code_seq, ↓code_region, ↓code_cond, ↓code_ret, aCond_bool, ↓ops_nil, ↓ops_cons, run_none, run_someF, ↓run0_v, ↓run0_r, ↓seqK_normal, ↓seqK_ret, ↓retK_ret, put_same, put_ne, env0_at, ev_tmp, ev_const, ev_func, oc_int, oc_bool, o_move, o_assign, o_pick, o_bin, o_call, o_len, g_none, g_some, pick_bool, bin_gtr, resultsOf, oneOrAll, Option.bind_some, Option.map_some, Option.getD_some, decide_eq_true_eq, ↓reduceIte, Nat.reduceEqDiff, not_false_eq_true, reduceCtorEq, List.getElem?_cons_zero, List.getElem?_cons_succ, List.getElem?_toArray, Bool.false_eq_true, List.map_cons, List.map_nil, List.append_nil, List.nil_append, gt_iff_lt, ne_eq, K13 h13, k27, hlw, cw, callV_fn (g := 27) (by decide), callV_fn (g := 13) (by decide)]
  obtain ⟨hl1, hl2⟩ := longL_no hlo
  obtain ⟨t, hA, k28, hT0⟩ := two0 h28 (m + 19999) e0
  obtain ⟨h0, hh0⟩ : ∃ h0, h0 = hA.alloc (.cells [.nils, .nils] .own) := ⟨_, rfl⟩
  rw [← hh0] at hT0
  rw [call_F (by decide) h6 F6 rfl R6]; simp only [Try.f6, Option.getD]
  simp +contextual (maxSteps := 3000000) only [↓code_skip, ↓code_seq, ↓code_region, ↓code_cond, ↓code_block, ↓code_loop, aCond_bool, ↓ops_nil, ↓ops_cons, run_none, run_someF, ↓run0_v, ↓run0_r, ↓seqK_normal, put_same, put_ne, env0_at, ev_tmp, ev_const, ev_func, oc_int, oc_bool, o_move, o_assign, o_pick, o_bin, o_call, o_len, o_box, o_build, g_none, g_some, pick_bool, bin_gtr, Option.bind_some, Option.map_some, Option.getD_some, decide_eq_true_eq, ↓reduceIte, Nat.reduceEqDiff, not_false_eq_true, reduceCtorEq, List.getElem?_cons_zero, List.getElem?_cons_succ, List.getElem?_toArray, Bool.false_eq_true, List.map_cons, List.map_nil, List.append_nil, List.nil_append, gt_iff_lt, ne_eq, build_struct T52 d52, z52, parts_eq, fillA, box_agg, k27, hlw, cw, k28, ← hh0, callV_fn (g := 27) (by decide), callV_fn (g := 28) (by decide)]
  refine iterL_wp (Q := fun r => ∃ h', r = some (.bool true, h')) (N := l.length) (Inv := fun k e h' => ∃ i ps es rs, k + i = l.length ∧ Two h' t hA.next ps es rs ∧ es.length ≤ 81 * i ∧ i ≤ l.length ∧ e 0 = V ∧ e 1 = W ∧ e 5 = .ptr t 0 ∧ e 6 = .ptr hA.next 0 ∧ e 7 = .int .i64 (i : Nat)) ?_ ?_ (by omega)
  · rintro k e h' K' ⟨i, ps, es, rs, hk, hT, hes, hil, e0, e1, e5, e6, e7⟩ hnext hexit
    by_cases hi : i < l.length
    · have c1 : (i : Int) < (l.length : Int) := by omega
      obtain ⟨a, ha⟩ : ∃ a, l[i]? = some a := ⟨l[i], List.getElem?_eq_getElem hi⟩
      have hal := hl2 a (List.mem_of_getElem? ha)
      obtain ⟨pl, g1, g2, g3⟩ := ia i a ha
      obtain ⟨h2, ps2, es2, rs2, q1, q2, q3⟩ := run29 h53 h104 h88 h108 h114 h110 h109 h96 h60 h71 h103 h86 h47 h48 h106 h90 h49 h91 h50 h98 h99 h68 h97 h67 h111 h100 h69 h70 h29 h56 h87 h89 h95 h105 h107 (m + 19800) t hA.next a ps es rs h' hT ⟨by omega, by omega⟩
      have c7 : IntKind.i64.wrap ((i : Int) + 1) = ((i + 1 : Nat) : Int) := by rw [wrap_i64 (by omega) (by omega)]; rfl
      simp +contextual (maxSteps := 3000000) only [↓code_skip, ↓code_seq, ↓code_region, ↓code_cond, ↓code_block, aCond_bool, ↓ops_nil, ↓ops_cons, run_none, ↓run0_v, ↓run0_r, ↓seqK_normal, ↓blkK_normal, put_same, put_ne, ev_tmp, ev_const, ev_func, oc_int, o_move, o_assign, o_bin, o_call, o_len, o_load, o_indexAddr, g_none, bin_add, bin_lss, decide_eq_true_eq, ↓reduceIte, Nat.reduceEqDiff, not_false_eq_true, reduceCtorEq, List.map_cons, List.map_nil, List.append_nil, List.nil_append, ne_eq, load_fpA T55 a55, s55, e0, e5, e6, e7, c1, hlen, g1, g2, g3, q1, c7, callV_fn (g := 29) (by decide)]
      refine hnext (k - 1) _ _ (by omega) ⟨i + 1, ps2, es2, rs2, by omega, ?_, ?_, ?_, ?_, ?_, ?_, ?_, ?_⟩
      · exact q2
      · omega
      · omega
      · simp only [put_ne, not_false_eq_true, reduceCtorEq, ne_eq, e0]
      · simp only [put_ne, Nat.reduceEqDiff, not_false_eq_true, ne_eq, e1]
      · simp only [put_ne, Nat.reduceEqDiff, not_false_eq_true, ne_eq, e5]
      · simp only [put_ne, Nat.reduceEqDiff, not_false_eq_true, ne_eq, e6]
      · simp only [put_same]
    · have c1 : ¬ (i : Int) < (l.length : Int) := by omega
      simp +contextual (maxSteps := 3000000) only [↓code_seq, ↓code_region, ↓code_cond, ↓code_exit, aCond_bool, ↓ops_nil, ↓ops_cons, run_none, ↓run0_v, ↓seqK_normal, ↓seqK_exit, put_same, put_ne, ev_tmp, o_move, o_bin, o_len, g_none, bin_lss, decide_eq_true_eq, ↓reduceIte, Nat.reduceEqDiff, not_false_eq_true, reduceCtorEq, ne_eq, e0, e7, c1, hlen]
      refine hexit _ _ _ (by simp) ?_
      simp +contextual (maxSteps := 3000000) only [↓code_seq, ↓code_region, ↓code_block, ↓code_loop, ↓ops_nil, ↓ops_cons, run_none, ↓run0_v, ↓seqK_normal, ↓blkK_exit, ev_const, oc_int, o_assign, g_none, ↓reduceIte]
      rename AH => H
      have hTT := hT
      refine iterL_wp (Q := fun r => ∃ h', r = some (.bool true, h')) (N := w.length) (Inv := fun k e h' => ∃ j, k + j = w.length ∧ Two h' t hA.next ps es rs ∧ j ≤ w.length ∧ e 1 = W ∧ e 5 = .ptr t 0 ∧ e 6 = .ptr hA.next 0 ∧ e 8 = .int .i64 (j : Nat)) ?_ ?_ (by omega)
      · rintro k e h' K' ⟨j, hk, hT, hjl, e1, e5, e6, e8⟩ hnext hexit
        by_cases hj : j < w.length
        · have c1 : (j : Int) < (w.length : Int) := by omega
          obtain ⟨x, hx⟩ : ∃ x, w[j]? = some x := ⟨w[j], List.getElem?_eq_getElem hj⟩
          obtain ⟨pl, g1, g2⟩ := iw j x hx
          have c7 : IntKind.i64.wrap ((j : Int) + 1) = ((j + 1 : Nat) : Int) := by rw [wrap_i64 (by omega) (by omega)]; rfl
          obtain ⟨oP, oD, hP, hD, hAp, hal⟩ := hT
          have hrl : rs.length = es.length := hal.p.length_eq.symm
          obtain ⟨h1, q1, q2⟩ := run34 h71 h34 (m + 19980) t x ps es oP h' hP ⟨by omega, by omega⟩
          obtain ⟨e, n2, hwv⟩ : ∃ (e : E6) (n2 : Int), wayV es x = .tup [.agg [.int .i64 e.lo, .int .i64 e.hi, .int .i64 e.di, .int .i64 e.po, .int .i64 e.nx, .int .i64 e.st], .int .i64 n2] := by
            unfold wayV
            split
            · exact ⟨_, _, rfl⟩
            · exact ⟨⟨0, 0, 0, 0, 0, 0⟩, _, rfl⟩
          have q1' := q1
          rw [hwv] at q1
          obtain ⟨h1', s1', s2, s3', s4'⟩ := store_e h1 e
          have hg1 := q2.trans s4'
          have hD1 := hD.grow hg1
          obtain ⟨h3, r1, r2⟩ := run35 h35 (m + 19980) hA.next x ps rs oD h1' hD1 ⟨by omega, by omega⟩
          rw [hal.find, hwv] at r1
          obtain ⟨h4, u1, u2, u3, u4⟩ := store_e h3 e
          have k1 : h4.get h1.next = some (.cells [.int .i64 e.lo, .int .i64 e.hi, .int .i64 e.di, .int .i64 e.po, .int .i64 e.nx, .int .i64 e.st] .own) := by rw [(r2.trans u4).2 _ (by omega)]; exact s3'
          have hgA := (hg1.trans r2).trans u4
          simp +contextual (maxSteps := 3000000) only [↓code_skip, ↓code_seq, ↓code_region, ↓code_cond, ↓code_block, aCond_bool, ↓ops_nil, ↓ops_cons, run_none, run_someF, ↓run0_v, ↓run0_h, ↓run0_r, ↓seqK_normal, ↓blkK_normal, put_same, put_ne, put_none, ev_tmp, ev_const, ev_func, oc_int, oc_bool, o_move, o_assign, o_pick, o_bin, o_call, o_len, o_alloc, o_load, o_store, o_indexAddr, o_extract, g_none, g_some, pick_bool, bin_add, bin_neq, bin_lss, extract_tup, Option.bind_some, Option.map_some, ↓reduceIte, Nat.reduceEqDiff, not_false_eq_true, Nat.reduceAdd, List.getElem?_cons_zero, List.getElem?_cons_succ, List.getElem?_toArray, Bool.false_eq_true, List.map_cons, List.map_nil, List.append_nil, List.nil_append, Nat.le_refl, Bool.not_true, ne_eq, List.take_succ_cons, List.take_nil, List.drop_zero, List.length_cons, List.length_nil, loadn_def, load_fp1 T3 a3, alloc_t T60, z60, load_pA T60 a60, s60, List.length_cons, List.length_nil, List.drop_zero, List.take_succ_cons, List.take_nil, Nat.zero_add, e1, e5, e6, e8, c1, hlw, g1, g2, q1, s1', r1, u1, u3, k1, neq60, decide_true, c7, callV_fn (g := 34) (by decide), callV_fn (g := 35) (by decide)]
          refine hnext (k - 1) _ _ (by omega) ⟨j + 1, by omega, ?_, ?_, ?_, ?_, ?_, ?_⟩
          · exact ⟨oP, oD, hP.grow hgA, hD.grow hgA, hAp, hal⟩
          · omega
          · simp only [put_ne, Nat.reduceEqDiff, not_false_eq_true, ne_eq, e1]
          · simp only [put_ne, Nat.reduceEqDiff, not_false_eq_true, ne_eq, e5]
          · simp only [put_ne, Nat.reduceEqDiff, not_false_eq_true, ne_eq, e6]
          · simp only [put_same]
        · have c1 : ¬ (j : Int) < (w.length : Int) := by omega
          simp +contextual (maxSteps := 3000000) only [↓code_seq, ↓code_region, ↓code_cond, ↓code_exit, aCond_bool, ↓ops_nil, ↓ops_cons, run_none, ↓run0_v, ↓seqK_normal, ↓seqK_exit, put_same, put_ne, ev_tmp, o_move, o_bin, o_len, g_none, bin_lss, decide_eq_true_eq, ↓reduceIte, Nat.reduceEqDiff, not_false_eq_true, ne_eq, e1, e8, c1, hlw]
          refine hexit _ _ _ (by simp) ?_
          refine ⟨h', ?_⟩
          simp +contextual (maxSteps := 3000000) only [↓code_seq, ↓code_region, ↓code_ret, ↓ops_nil, ↓ops_cons, run_none, ↓run0_v, ↓run0_r, ↓seqK_normal, ↓blkK_exit, ↓retK_ret, put_same, ev_tmp, ev_func, o_assign, o_call, g_none, resultsOf, oneOrAll, Option.map_some, ↓reduceIte, List.map_nil, List.append_nil, K13 h13, callV_fn (g := 13) (by decide)]
      · refine ⟨0, by omega, ?_, ?_, ?_, ?_, ?_, ?_⟩
        · exact hTT
        · omega
        · simp only [put_ne, Nat.reduceEqDiff, not_false_eq_true, ne_eq, e1]
        · simp only [put_ne, Nat.reduceEqDiff, not_false_eq_true, ne_eq, e5]
        · simp only [put_ne, Nat.reduceEqDiff, not_false_eq_true, ne_eq, e6]
        · simp only [put_same]; rfl
  · refine ⟨0, [], [], [], by omega, ?_, ?_, ?_, ?_, ?_, ?_, ?_, ?_⟩
    · exact hT0
    · (simp)
    · omega
    · simp only [put_ne, env0_at, Option.getD_some, not_false_eq_true, reduceCtorEq, List.getElem?_cons_zero, ne_eq]
    · simp only [put_ne, env0_at, Option.getD_some, Nat.reduceEqDiff, not_false_eq_true, List.getElem?_cons_zero, List.getElem?_cons_succ, ne_eq]
    · simp only [put_same, put_ne, Nat.reduceEqDiff, not_false_eq_true, ne_eq]
    · simp only [put_same, put_ne, Nat.reduceEqDiff, not_false_eq_true, ne_eq]
    · simp only [put_same]; rfl
end Go.AM.X
namespace Go.AM.X
open Go Go.AM Go.Proofs Go.AM.Sx
set_option maxHeartbeats 3200000
set_option maxRecDepth 100000
set_option linter.unusedVariables false
theorem F4 : F 4 = some { body := (Try.f4.body.getD .skip), results := Try.f4.results.toList, rf := false } := by kernel_rfl
theorem R4 : regsOk T (Try.f4.body.getD .skip) = true := by kernel_rfl
theorem law4 {I : Nat → Option (List AV → AH → Rs)} (h13 : I 13 = some (pureG g13)) (h16 : I 16 = none) (h24 : I 24 = none) (h27 : I 27 = none) (h28 : I 28 = none) (h53 : I 53 = none) (h104 : I 104 = none) (h88 : I 88 = none) (h108 : I 108 = some (srtG 109)) (h114 : I 114 = none) (h110 : I 110 = none) (h109 : I 109 = none) (h96 : I 96 = none) (h60 : I 60 = none) (h71 : I 71 = none) (h103 : I 103 = none) (h86 : I 86 = none) (h47 : I 47 = none) (h48 : I 48 = none) (h106 : I 106 = none) (h90 : I 90 = none) (h49 : I 49 = none) (h91 : I 91 = none) (h50 : I 50 = none) (h98 : I 98 = none) (h99 : I 99 = none) (h68 : I 68 = none) (h97 : I 97 = none) (h67 : I 67 = none) (h111 : I 111 = none) (h100 : I 100 = none) (h69 : I 69 = none) (h70 : I 70 = none) (h29 : I 29 = none) (h72 : I 72 = none) (h30 : I 30 = none) (h31 : I 31 = none) (h32 : I 32 = none) (h33 : I 33 = none) (h4 : I 4 = none) (h56 : I 56 = none) (h87 : I 87 = none) (h89 : I 89 = none) (h95 : I 95 = none) (h105 : I 105 = none) (h107 : I 107 = none) (l : List Ac) (m : Nat) (hm : l.length ≤ m ∧ l.length < 140737488355328) : ∃ h', call F I T (m + 20001) 4 [.lst false 4 l.length (fl Ac.av l)] e0 = some (.bool true, h') := by
  have hlen := len45 l
  have k27 := fun h => run27 h27 (m + 19980) l h ⟨by omega, hm.2⟩
  have ia : ∀ (i : Nat) (a : Ac), l[i]? = some a → ∃ pl, aIndexAddr T 45 (.lst false 4 l.length (fl Ac.av l)) (.int .i64 (i : Nat)) = some (.fp pl) ∧ 4 ≤ pl.length ∧ pl.take 4 = [.int .i64 a.dd, .int .i64 a.po, .int .i64 a.fr, .lst false 3 a.tu.length (fl Tp.av a.tu)] := fun i a ha => actAt ha
  obtain ⟨V, hV⟩ : ∃ V, V = AV.lst false 4 l.length (fl Ac.av l) := ⟨_, rfl⟩
  rw [← hV] at hlen k27 ia ⊢
  have k13 := fun m h => K13 h13 m h
  cases hlo : longL l
  rotate_left
  · rw [hlo] at k27
    refine ⟨e0, ?_⟩
    rw [call_F (by decide) h4 F4 rfl R4]; simp only [Try.f4, Option.getD]
    simp +contextual (maxSteps := 3000000) only [↓code_seq, ↓code_region, ↓code_cond, ↓code_ret, aCond_bool, ↓ops_nil, ↓ops_cons, run_none, ↓run0_v, ↓run0_r, ↓seqK_normal, ↓seqK_ret, ↓retK_ret, put_same, put_ne, env0_at, ev_tmp, ev_const, ev_func, oc_bool, o_move, o_assign, o_call, g_none, resultsOf, oneOrAll, Option.map_some, Option.getD_some, ↓reduceIte, not_false_eq_true, reduceCtorEq, List.getElem?_cons_zero, List.map_cons, List.map_nil, List.append_nil, List.nil_append, ne_eq, K13 h13, k27, callV_fn (g := 27) (by decide), callV_fn (g := 13) (by decide)]
  rw [hlo] at k27
  obtain ⟨hl1, hl2⟩ := longL_no hlo
  obtain ⟨t, hA, k28, hT0⟩ := two0 h28 (m + 19999) e0
  obtain ⟨h0, hh0⟩ : ∃ h0, h0 = hA.alloc (.cells [.nils, .nils] .own) := ⟨_, rfl⟩
  rw [← hh0] at hT0
  rw [call_F (by decide) h4 F4 rfl R4]; simp only [Try.f4, Option.getD]
  simp +contextual (maxSteps := 3000000) only [↓code_skip, ↓code_seq, ↓code_region, ↓code_cond, ↓code_block, ↓code_loop, aCond_bool, ↓ops_nil, ↓ops_cons, run_none, ↓run0_v, ↓run0_r, ↓seqK_normal, put_same, put_ne, env0_at, ev_tmp, ev_const, ev_func, oc_int, oc_bool, o_move, o_assign, o_call, o_box, o_build, g_none, Option.map_some, Option.getD_some, ↓reduceIte, Nat.reduceEqDiff, not_false_eq_true, reduceCtorEq, List.getElem?_cons_zero, Bool.false_eq_true, List.map_cons, List.map_nil, List.append_nil, List.nil_append, ne_eq, build_struct T52 d52, z52, parts_eq, fillA, box_agg, k27, k28, ← hh0, callV_fn (g := 27) (by decide), callV_fn (g := 28) (by decide)]
  refine iterL_wp (Q := fun r => ∃ h', r = some (.bool true, h')) (N := l.length) (Inv := fun k e h' => ∃ i ps es rs, k + i = l.length ∧ Two h' t hA.next ps es rs ∧ es.length ≤ 81 * i ∧ i ≤ l.length ∧ e 0 = V ∧ e 3 = .ptr t 0 ∧ e 4 = .ptr hA.next 0 ∧ e 5 = .int .i64 (i : Nat)) ?_ ?_ (by omega)
  · rintro k e h' K' ⟨i, ps, es, rs, hk, hT, hes, hil, e0, e3, e4, e5⟩ hnext hexit
    by_cases hi : i < l.length
    · have c1 : (i : Int) < (l.length : Int) := by omega
      obtain ⟨a, ha⟩ : ∃ a, l[i]? = some a := ⟨l[i], List.getElem?_eq_getElem hi⟩
      have hal := hl2 a (List.mem_of_getElem? ha)
      obtain ⟨pl, g1, g2, g3⟩ := ia i a ha
      obtain ⟨h2, ps2, es2, rs2, q1, q2, q3⟩ := run29 h53 h104 h88 h108 h114 h110 h109 h96 h60 h71 h103 h86 h47 h48 h106 h90 h49 h91 h50 h98 h99 h68 h97 h67 h111 h100 h69 h70 h29 h56 h87 h89 h95 h105 h107 (m + 19800) t hA.next a ps es rs h' hT ⟨by omega, by omega⟩
      obtain ⟨oP, oD, hP, hD, hAp, hlk⟩ := q2
      have hrl : rs2.length = es2.length := hlk.p.length_eq.symm
      obtain ⟨v, h3, r1, r2, r3, r4⟩ := run30 h71 h72 h30 (m + 19995) t ps2 es2 oP h2 hP (by omega)
      obtain ⟨w, h4, s1', s2', s3', s4'⟩ := run31 h31 (m + 19980) hA.next ps2 rs2 oD h3 (hD.grow r4) ⟨by omega, by omega⟩
      rw [hlk.ent] at s2'
      have k16 := run16 h16 (m + 19980) v w es2 h4 (r2.grow s4') s2' ⟨by omega, by omega⟩
      have g24 := r4.trans s4'
      have hT4 : Two h4 t hA.next ps2 es2 rs2 := ⟨oP, oD, hP.grow g24, hD.grow g24, hAp, hlk⟩
      have c7 : IntKind.i64.wrap ((i : Int) + 1) = ((i + 1 : Nat) : Int) := by rw [wrap_i64 (by omega) (by omega)]; rfl
      have hpl := hlk.t.l
      have hes2 : es2.length ≤ 81 * (i + 1) := by omega
      have hnext0 := hnext
      obtain ⟨k0, hk0⟩ : ∃ k0, k0 = k := ⟨k, rfl⟩
      simp +contextual (maxSteps := 3000000) only [↓code_skip, ↓code_seq, ↓code_region, ↓code_cond, ↓code_block, ↓code_loop, aCond_bool, ↓ops_nil, ↓ops_cons, run_none, run_someF, ↓run0_v, ↓run0_r, ↓seqK_normal, put_same, put_ne, ev_tmp, ev_const, ev_func, oc_int, oc_bool, o_move, o_assign, o_pick, o_bin, o_call, o_len, o_load, o_un, o_indexAddr, g_none, g_some, pick_bool, bin_lss, un_not, Option.bind_some, decide_eq_true_eq, ↓reduceIte, Nat.reduceEqDiff, not_false_eq_true, reduceCtorEq, List.getElem?_cons_zero, List.getElem?_cons_succ, List.getElem?_toArray, Bool.false_eq_true, List.map_cons, List.map_nil, List.append_nil, List.nil_append, Bool.not_true, ne_eq, load_fpA T55 a55, s55, e0, e3, e4, e5, c1, hlen, g1, g2, g3, q1, r1, s1', k16, callV_fn (g := 29) (by decide), callV_fn (g := 30) (by decide), callV_fn (g := 31) (by decide), callV_fn (g := 16) (by decide)]
      refine iterL_wp (Q := fun r => ∃ h', r = some (.bool true, h')) (N := ps2.length + 3) (Inv := fun k e h' => ∃ j, k + j = ps2.length + 3 ∧ Two h' t hA.next ps2 es2 rs2 ∧ j ≤ ps2.length + 3 ∧ e 0 = V ∧ e 3 = .ptr t 0 ∧ e 4 = .ptr hA.next 0 ∧ e 5 = .int .i64 (i : Nat) ∧ e 6 = .int .i64 ((j : Int) - 1)) ?_ ?_ (by omega)
      · rintro k e h' K' ⟨j, hk, hT, hjl, e0, e3, e4, e5, e6⟩ hnext hexit
        have hTT := hT
        obtain ⟨oP, oD, hP, hD, hAp, _⟩ := hT
        obtain ⟨pv, ev, hTb, _, _⟩ := hD
        have gt := hTb.g
        have hlenp : ∀ h, aLen T 50 pv h = some (.int .i64 (ps2.length : Nat)) := fun h => hTb.p.len T50 d50
        have hD : TbV false h' hA.next ps2 rs2 oD := ⟨pv, ev, hTb, by assumption, by assumption⟩
        have c8 : IntKind.i64.wrap ((ps2.length : Int) + 1) = ((ps2.length + 1 : Nat) : Int) := by rw [wrap_i64 (by omega) (by omega)]; rfl
        by_cases hj : j < ps2.length + 3
        · have d1 : (j : Int) - 1 ≤ ((ps2.length + 1 : Nat) : Int) := by omega
          have c9 : IntKind.i64.wrap ((j : Int) - 1 + 1) = ((j + 1 : Nat) : Int) - 1 := by rw [wrap_i64 (by omega) (by omega)]; omega
          obtain ⟨v, h3, r1, r2, r3, r4⟩ := run32 h71 h32 (m + 19980) t ((j : Int) - 1) ps2 es2 oP h' hP ⟨by omega, by omega⟩ (by omega)
          obtain ⟨w, h4, s1', s2', s3', s4'⟩ := run33 h31 h33 (m + 19970) hA.next ((j : Int) - 1) ps2 rs2 oD h3 (hD.grow r4) ⟨by omega, by omega⟩ (by omega)
          rw [hlk.ent] at s1' s2'
          have htl := tell_len ps2 es2 ((j : Int) - 1)
          have k24 := run24 h24 (m + 19980) v w _ h4 (r2.grow s4') s2' ⟨by omega, by omega⟩
          simp +contextual (maxSteps := 3000000) only [↓code_skip, ↓code_seq, ↓code_region, ↓code_cond, ↓code_block, aCond_bool, ↓ops_nil, ↓ops_cons, run_none, run_someF, ↓run0_v, ↓run0_r, ↓seqK_normal, ↓blkK_normal, put_same, put_ne, ev_tmp, ev_const, ev_func, oc_int, oc_bool, o_move, o_assign, o_pick, o_bin, o_call, o_len, o_load, o_nilCheck, o_un, o_fieldAddr, o_extract, g_none, g_some, pick_bool, bin_add, bin_neq, bin_leq, un_not, extract_tup, nil_ptr, Option.bind_some, ↓reduceIte, Nat.reduceEqDiff, not_false_eq_true, Nat.reduceAdd, List.getElem?_cons_zero, List.getElem?_cons_succ, List.getElem?_toArray, Bool.false_eq_true, List.map_cons, List.map_nil, List.append_nil, List.nil_append, Bool.not_true, ne_eq, fa_ptr T52 p52_0 (by decide), load_p1 T50 a50, loadc_def, e3, e4, e6, gt, hlenp, c8, d1, r1, s1', k24, c9, decide_true, callV_fn (g := 32) (by decide), callV_fn (g := 33) (by decide), callV_fn (g := 24) (by decide)]
          refine hnext (k - 1) _ _ (by omega) ⟨j + 1, by omega, ?_, ?_, ?_, ?_, ?_, ?_, ?_⟩
          · exact hTT.grow (r4.trans s4')
          · omega
          · simp only [put_ne, not_false_eq_true, reduceCtorEq, ne_eq, e0]
          · simp only [put_ne, Nat.reduceEqDiff, not_false_eq_true, ne_eq, e3]
          · simp only [put_ne, Nat.reduceEqDiff, not_false_eq_true, ne_eq, e4]
          · simp only [put_ne, Nat.reduceEqDiff, not_false_eq_true, ne_eq, e5]
          · simp only [put_same]
        · have d1 : ¬ (j : Int) - 1 ≤ ((ps2.length + 1 : Nat) : Int) := by omega
          simp +contextual (maxSteps := 3000000) only [↓code_seq, ↓code_region, ↓code_cond, ↓code_exit, aCond_bool, ↓ops_nil, ↓ops_cons, run_none, ↓run0_v, ↓seqK_normal, ↓seqK_exit, put_same, put_ne, ev_tmp, ev_const, oc_int, o_move, o_bin, o_len, o_load, o_nilCheck, o_fieldAddr, g_none, bin_add, bin_leq, nil_ptr, decide_eq_true_eq, ↓reduceIte, Nat.reduceEqDiff, not_false_eq_true, Nat.reduceAdd, List.getElem?_cons_zero, ne_eq, fa_ptr T52 p52_0 (by decide), load_p1 T50 a50, loadc_def, e4, e6, gt, hlenp, c8, d1]
          refine hexit _ _ _ (by simp) ?_
          simp +contextual (maxSteps := 3000000) only [↓code_region, ↓ops_nil, ↓ops_cons, run_none, ↓run0_v, ↓seqK_normal, ↓blkK_normal, ↓blkK_exit, put_same, put_ne, ev_tmp, ev_const, oc_int, o_move, o_assign, o_bin, g_none, bin_add, ↓reduceIte, Nat.reduceEqDiff, not_false_eq_true, ne_eq, e5, c7]
          refine hnext0 (k0 - 1) _ _ (by omega) ⟨i + 1, ps2, es2, rs2, by omega, hTT, hes2, by omega, ?_, ?_, ?_, ?_⟩
          · simp only [put_ne, not_false_eq_true, reduceCtorEq, ne_eq, e0]
          · simp only [put_ne, Nat.reduceEqDiff, not_false_eq_true, ne_eq, e3]
          · simp only [put_ne, Nat.reduceEqDiff, not_false_eq_true, ne_eq, e4]
          · simp only [put_same]
      · refine ⟨0, by omega, ?_, ?_, ?_, ?_, ?_, ?_, ?_⟩
        · exact hT4
        · omega
        · simp only [put_ne, not_false_eq_true, reduceCtorEq, ne_eq, e0]
        · simp only [put_ne, Nat.reduceEqDiff, not_false_eq_true, ne_eq, e3]
        · simp only [put_ne, Nat.reduceEqDiff, not_false_eq_true, ne_eq, e4]
        · simp only [put_ne, Nat.reduceEqDiff, not_false_eq_true, ne_eq, e5]
        · simp only [put_same]; rfl
    · have c1 : ¬ (i : Int) < (l.length : Int) := by omega
      simp +contextual (maxSteps := 3000000) only [↓code_seq, ↓code_region, ↓code_cond, ↓code_exit, aCond_bool, ↓ops_nil, ↓ops_cons, run_none, ↓run0_v, ↓seqK_normal, ↓seqK_exit, put_same, put_ne, ev_tmp, o_move, o_bin, o_len, g_none, bin_lss, decide_eq_true_eq, ↓reduceIte, Nat.reduceEqDiff, not_false_eq_true, reduceCtorEq, ne_eq, e0, e5, c1, hlen]
      refine hexit _ _ _ (by simp) ⟨h', ?_⟩
      simp +contextual (maxSteps := 3000000) only [↓code_seq, ↓code_region, ↓code_ret, ↓ops_nil, ↓ops_cons, run_none, ↓run0_v, ↓run0_r, ↓seqK_normal, ↓blkK_exit, ↓retK_ret, put_same, ev_tmp, ev_func, o_assign, o_call, g_none, resultsOf, oneOrAll, Option.map_some, ↓reduceIte, List.map_nil, List.append_nil, K13 h13, callV_fn (g := 13) (by decide)]
  · refine ⟨0, [], [], [], by omega, ?_, ?_, ?_, ?_, ?_, ?_, ?_⟩
    · exact hT0
    · (simp)
    · omega
    · simp only [put_ne, env0_at, Option.getD_some, not_false_eq_true, reduceCtorEq, List.getElem?_cons_zero, ne_eq]
    · simp only [put_same, put_ne, Nat.reduceEqDiff, not_false_eq_true, ne_eq]
    · simp only [put_same, put_ne, Nat.reduceEqDiff, not_false_eq_true, ne_eq]
    · simp only [put_same]; rfl
end Go.AM.X
namespace Go.AM.X
open Go Go.AM Go.Proofs Go.AM.Sx
set_option maxHeartbeats 3200000
set_option maxRecDepth 100000
set_option linter.unusedVariables false
theorem F5 : F 5 = some { body := (Try.f5.body.getD .skip), results := Try.f5.results.toList, rf := false } := by kernel_rfl
theorem R5 : regsOk T (Try.f5.body.getD .skip) = true := by kernel_rfl
theorem law5 {I : Nat → Option (List AV → AH → Rs)} (h13 : I 13 = some (pureG g13)) (h27 : I 27 = none) (h28 : I 28 = none) (h53 : I 53 = none) (h104 : I 104 = none) (h88 : I 88 = none) (h108 : I 108 = some (srtG 109)) (h114 : I 114 = none) (h110 : I 110 = none) (h109 : I 109 = none) (h96 : I 96 = none) (h60 : I 60 = none) (h71 : I 71 = none) (h103 : I 103 = none) (h86 : I 86 = none) (h47 : I 47 = none) (h48 : I 48 = none) (h106 : I 106 = none) (h90 : I 90 = none) (h49 : I 49 = none) (h91 : I 91 = none) (h50 : I 50 = none) (h98 : I 98 = none) (h99 : I 99 = none) (h68 : I 68 = none) (h97 : I 97 = none) (h67 : I 67 = none) (h111 : I 111 = none) (h100 : I 100 = none) (h69 : I 69 = none) (h70 : I 70 = none) (h29 : I 29 = none) (h72 : I 72 = none) (h30 : I 30 = none) (h32 : I 32 = none) (h5 : I 5 = none) (h56 : I 56 = none) (h87 : I 87 = none) (h89 : I 89 = none) (h95 : I 95 = none) (h105 : I 105 = none) (h107 : I 107 = none) (l : List Ac) (m : Nat) (hm : l.length ≤ m ∧ l.length < 140737488355328) : ∃ h', call F I T (m + 20001) 5 [.lst false 4 l.length (fl Ac.av l)] e0 = some (.bool true, h') := by
  have hlen := len45 l
  have k27 := fun h => run27 h27 (m + 19980) l h ⟨by omega, hm.2⟩
  have ia : ∀ (i : Nat) (a : Ac), l[i]? = some a → ∃ pl, aIndexAddr T 45 (.lst false 4 l.length (fl Ac.av l)) (.int .i64 (i : Nat)) = some (.fp pl) ∧ 4 ≤ pl.length ∧ pl.take 4 = [.int .i64 a.dd, .int .i64 a.po, .int .i64 a.fr, .lst false 3 a.tu.length (fl Tp.av a.tu)] := fun i a ha => actAt ha
  obtain ⟨V, hV⟩ : ∃ V, V = AV.lst false 4 l.length (fl Ac.av l) := ⟨_, rfl⟩
  rw [← hV] at hlen k27 ia ⊢
  have k13 := fun m h => K13 h13 m h
  cases hlo : longL l
  rotate_left
  · rw [hlo] at k27
    refine ⟨e0, ?_⟩
    rw [call_F (by decide) h5 F5 rfl R5]; simp only [Try.f5, Option.getD]
    simp +contextual (maxSteps := 3000000) only [↓code_seq, ↓code_region, ↓code_cond, ↓code_ret, aCond_bool, ↓ops_nil, ↓ops_cons, run_none, ↓run0_v, ↓run0_r, ↓seqK_normal, ↓seqK_ret, ↓retK_ret, put_same, put_ne, env0_at, ev_tmp, ev_const, ev_func, oc_bool, o_move, o_assign, o_call, g_none, resultsOf, oneOrAll, Option.map_some, Option.getD_some, ↓reduceIte, not_false_eq_true, reduceCtorEq, List.getElem?_cons_zero, List.map_cons, List.map_nil, List.append_nil, List.nil_append, ne_eq, K13 h13, k27, callV_fn (g := 27) (by decide), callV_fn (g := 13) (by decide)]
  rw [hlo] at k27
  obtain ⟨hl1, hl2⟩ := longL_no hlo
  obtain ⟨t, hA, k28, hT0⟩ := two0 h28 (m + 19999) e0
  obtain ⟨h0, hh0⟩ : ∃ h0, h0 = hA.alloc (.cells [.nils, .nils] .own) := ⟨_, rfl⟩
  rw [← hh0] at hT0
  rw [call_F (by decide) h5 F5 rfl R5]; simp only [Try.f5, Option.getD]
  simp +contextual (maxSteps := 3000000) only [↓code_skip, ↓code_seq, ↓code_region, ↓code_cond, ↓code_block, ↓code_loop, aCond_bool, ↓ops_nil, ↓ops_cons, run_none, ↓run0_v, ↓run0_r, ↓seqK_normal, put_same, put_ne, env0_at, ev_tmp, ev_const, ev_func, oc_int, oc_bool, o_move, o_assign, o_call, o_box, o_build, g_none, Option.map_some, Option.getD_some, ↓reduceIte, Nat.reduceEqDiff, not_false_eq_true, reduceCtorEq, List.getElem?_cons_zero, Bool.false_eq_true, List.map_cons, List.map_nil, List.append_nil, List.nil_append, ne_eq, build_struct T52 d52, z52, parts_eq, fillA, box_agg, k27, k28, ← hh0, callV_fn (g := 27) (by decide), callV_fn (g := 28) (by decide)]
  refine iterL_wp (Q := fun r => ∃ h', r = some (.bool true, h')) (N := l.length) (Inv := fun k e h' => ∃ i ps es rs, k + i = l.length ∧ Two h' t hA.next ps es rs ∧ es.length ≤ 81 * i ∧ i ≤ l.length ∧ e 0 = V ∧ e 3 = .ptr t 0 ∧ e 4 = .ptr hA.next 0 ∧ e 5 = .int .i64 (i : Nat)) ?_ ?_ (by omega)
  · rintro k e h' K' ⟨i, ps, es, rs, hk, hT, hes, hil, e0, e3, e4, e5⟩ hnext hexit
    by_cases hi : i < l.length
    · have c1 : (i : Int) < (l.length : Int) := by omega
      obtain ⟨a, ha⟩ : ∃ a, l[i]? = some a := ⟨l[i], List.getElem?_eq_getElem hi⟩
      have hal := hl2 a (List.mem_of_getElem? ha)
      obtain ⟨pl, g1, g2, g3⟩ := ia i a ha
      obtain ⟨h2, ps2, es2, rs2, q1, q2, q3⟩ := run29 h53 h104 h88 h108 h114 h110 h109 h96 h60 h71 h103 h86 h47 h48 h106 h90 h49 h91 h50 h98 h99 h68 h97 h67 h111 h100 h69 h70 h29 h56 h87 h89 h95 h105 h107 (m + 19800) t hA.next a ps es rs h' hT ⟨by omega, by omega⟩
      have hT2 := q2
      obtain ⟨oP, oD, hP, hD, hAp, hlk⟩ := q2
      obtain ⟨v, h3, r1, r2, r3, r4⟩ := run30 h71 h72 h30 (m + 19995) t ps2 es2 oP h2 hP (by omega)
      have c7 : IntKind.i64.wrap ((i : Int) + 1) = ((i + 1 : Nat) : Int) := by rw [wrap_i64 (by omega) (by omega)]; rfl
      have hpl := hlk.t.l
      have hes2 : es2.length ≤ 81 * (i + 1) := by omega
      have hnext0 := hnext
      obtain ⟨k0, hk0⟩ : ∃ k0, k0 = k := ⟨k, rfl⟩
      have hsr := List.pairwise_iff_getElem.1 hlk.s
      simp +contextual (maxSteps := 3000000) only [↓code_skip, ↓code_seq, ↓code_region, ↓code_cond, ↓code_block, ↓code_loop, aCond_bool, ↓ops_nil, ↓ops_cons, run_none, ↓run0_v, ↓run0_r, ↓seqK_normal, put_same, put_ne, ev_tmp, ev_const, ev_func, oc_int, o_move, o_assign, o_bin, o_call, o_len, o_load, o_indexAddr, g_none, bin_lss, decide_eq_true_eq, ↓reduceIte, Nat.reduceEqDiff, not_false_eq_true, reduceCtorEq, List.map_cons, List.map_nil, List.append_nil, List.nil_append, ne_eq, load_fpA T55 a55, s55, e0, e3, e4, e5, c1, hlen, g1, g2, g3, q1, r1, callV_fn (g := 29) (by decide), callV_fn (g := 30) (by decide)]
      refine iterL_wp (Q := fun r => ∃ h', r = some (.bool true, h')) (N := es2.length) (Inv := fun k e h' => ∃ j, k + j = es2.length ∧ Two h' t hA.next ps2 es2 rs2 ∧ RowC 6 h' v es2.length (fl E6.av es2) ∧ j ≤ es2.length ∧ e 0 = V ∧ e 3 = .ptr t 0 ∧ e 4 = .ptr hA.next 0 ∧ e 5 = .int .i64 (i : Nat) ∧ e 6 = v ∧ e 7 = .int .i64 (j : Nat)) ?_ ?_ (by omega)
      · rintro k e h' K' ⟨j, hk, hT, hv, hjl, e0, e3, e4, e5, e6, e7⟩ hnext hexit
        have hlv : ∀ h, aLen T 36 v h = some (.int .i64 (es2.length : Nat)) := fun h => hv.len T36 d36
        by_cases hj : j < es2.length
        · have d1 : (j : Int) < (es2.length : Int) := by omega
          obtain ⟨x, hx⟩ : ∃ x, es2[j]? = some x := ⟨es2[j], List.getElem?_eq_getElem hj⟩
          have hxm := List.mem_of_getElem? hx
          have hxo := hlk.t.e x hxm
          obtain ⟨x1, x2⟩ := hlk.apart hxm
          obtain ⟨b, cs, bk, w1, w2, w3, w4⟩ := loadE hv hx
          obtain ⟨hz, y1, y2, y3, y4⟩ := store_e h' x
          have hTz := hT.grow y4
          have hvz := hv.grow y4
          have d2 : ¬ x.hi < x.lo := by have := hxo.r; omega
          have d3' : ¬ x.di < 0 := by have := hxo.d; omega
          have d4 : ¬ 15 < x.di := by have := hxo.d; omega
          have c9 : IntKind.i64.wrap ((j : Int) + 1) = ((j + 1 : Nat) : Int) := by rw [wrap_i64 (by omega) (by omega)]; rfl
          obtain ⟨oP, oD, hP, hD, hAp, _⟩ := hTz
          obtain ⟨w, h4, u1, u2, u3, u4⟩ := run32 h71 h32 (m + 19980) t x.po ps2 es2 oP hz hP ⟨by omega, by omega⟩ (by omega)
          rw [x1] at u1 u2
          simp only at u1 u2
          have hT4 := (hT.grow y4).grow u4
          have hv4 := hvz.grow u4
          have y3' : h4.get h'.next = some (.cells [.int .i64 x.lo, .int .i64 x.hi, .int .i64 x.di, .int .i64 x.po, .int .i64 x.nx, .int .i64 x.st] .own) := by rw [u4.2 _ (by omega)]; exact y3
          have hnext1 := hnext
          obtain ⟨k1, hk1⟩ : ∃ k1, k1 = k := ⟨k, rfl⟩
          have htl := tell_len ps2 es2 x.po
          rw [x1] at htl
          simp only at htl
          obtain ⟨b8, hb8⟩ : ∃ b8, b8 = h'.next := ⟨_, rfl⟩
          obtain ⟨H, hH⟩ : ∃ H, H = h4 := ⟨_, rfl⟩
          have hlw : ∀ h, aLen T 22 w h = some (.int .i64 ((tellL es2 x.po).length : Nat)) := fun h => u2.len T22 d22
          have step : ∀ (P : Prop), P → P := fun _ h => h
          by_cases hj0 : 0 < (j : Int)
          · have c8 : IntKind.i64.wrap ((j : Int) - 1) = ((j - 1 : Nat) : Int) := by rw [wrap_i64 (by omega) (by omega)]; omega
            obtain ⟨z, hz'⟩ : ∃ z, es2[j - 1]? = some z := ⟨es2[j - 1], List.getElem?_eq_getElem (by omega)⟩
            obtain ⟨b5, cs5, bk5, v1, v2, v3, v4, v5, v5', v6, _⟩ := load6 hvz hz'
            have d5 : ¬ x.lo ≤ z.hi := by
              have h1 := hsr (j - 1) j (by omega) hj (by omega)
              rw [(List.getElem?_eq_some_iff.1 hx).2, (List.getElem?_eq_some_iff.1 hz').2] at h1
              omega
            simp +contextual (maxSteps := 3000000) only [↓code_skip, ↓code_seq, ↓code_region, ↓code_cond, ↓code_block, ↓code_loop, aCond_bool, ↓ops_nil, ↓ops_cons, run_none, run_someT, run_someF, ↓run0_v, ↓run0_h, ↓run0_r, ↓seqK_normal, put_same, put_ne, put_none, ev_tmp, ev_const, ev_func, oc_int, oc_bool, o_move, o_assign, o_pick, o_bin, o_call, o_len, o_alloc, o_load, o_store, o_fieldAddr, o_indexAddr, o_extract, g_none, g_some, pick_bool, bin_sub, bin_neq, bin_lss, bin_gtr, bin_geq, extract_tup, Option.bind_some, Option.map_some, decide_eq_true_eq, ↓reduceIte, Nat.reduceEqDiff, not_false_eq_true, not_true_eq_false, List.getElem?_cons_zero, List.getElem?_cons_succ, List.getElem?_toArray, List.map_cons, List.map_nil, List.append_nil, List.nil_append, gt_iff_lt, ge_iff_le, Bool.not_eq_eq_eq_not, Bool.not_true, ne_eq, decide_eq_false_iff_not, loadn_def, load_pA T60 a60, s60, alloc_t T60, z60, fa_ptr T60 p60_0 (by decide), load_p1 T3 a3, loadc_def, fa_ptr T60 p60_1 (by decide), fa_ptr T60 p60_2 (by decide), fa_ptr T60 p60_3 (by decide), Nat.zero_add, Nat.add_zero, e3, e6, e7, d1, hlv, w1, w2, w3, w4, y1, y3, d2, d3', d4, hj0, c8, v1, v2, v6, d5, u1, callV_fn (g := 32) (by decide)]
            refine iterL_wp (Q := fun r => ∃ h', r = some (.bool true, h')) (N := (tellL es2 x.po).length) (Inv := fun k e h' => ∃ q, k + q = (tellL es2 x.po).length ∧ h' = H ∧ q ≤ (tellL es2 x.po).length ∧ e 0 = V ∧ e 3 = .ptr t 0 ∧ e 4 = .ptr hA.next 0 ∧ e 5 = .int .i64 (i : Nat) ∧ e 6 = v ∧ e 7 = .int .i64 (j : Nat) ∧ e 8 = .ptr b8 0 ∧ e 9 = w ∧ e 11 = .int .i64 (q : Nat)) ?_ ?_ (by omega)
            · rintro k e h' K' ⟨q, hk, hh, hql, e0, e3, e4, e5, e6, e7, e8, e9, e11⟩ hnext hexit
              rw [hH] at hh
              subst hh
              by_cases hq : q < (tellL es2 x.po).length
              · have f1 : (q : Int) < ((tellL es2 x.po).length : Int) := by omega
                obtain ⟨y, hy⟩ : ∃ y, (tellL es2 x.po)[q]? = some y := ⟨(tellL es2 x.po)[q], List.getElem?_eq_getElem hq⟩
                have f2 := x2 y (List.mem_of_getElem? hy)
                obtain ⟨b6, cs6, bk6, m1, m2, m3, m4, m5⟩ := loadT u2 hy
                have m5' : cs6[q * 3 + 0]? = some (.int .i64 y.lo) := m5
                have c10 : IntKind.i64.wrap ((q : Int) + 1) = ((q + 1 : Nat) : Int) := by rw [wrap_i64 (by omega) (by omega)]; rfl
                rw [← hb8] at y3'
                simp +contextual (maxSteps := 3000000) only [↓code_skip, ↓code_seq, ↓code_region, ↓code_cond, ↓code_block, aCond_bool, ↓ops_nil, ↓ops_cons, run_none, ↓run0_v, ↓seqK_normal, ↓blkK_normal, put_same, put_ne, ev_tmp, ev_const, oc_int, o_move, o_assign, o_bin, o_len, o_load, o_fieldAddr, o_indexAddr, g_none, bin_add, bin_eql, bin_lss, decide_eq_true_eq, ↓reduceIte, Nat.reduceEqDiff, not_false_eq_true, Nat.reduceAdd, List.getElem?_cons_zero, ne_eq, fa_ptr T60 p60_0 (by decide), load_p1 T3 a3, loadc_def, fa_ptr T62 p62_0 (by decide), e8, e9, e11, f1, hlw, m1, m2, m5', y3', f2, c10]
                refine hnext (k - 1) _ _ (by omega) ⟨q + 1, by omega, ?_, ?_, ?_, ?_, ?_, ?_, ?_, ?_, ?_, ?_, ?_⟩
                · exact hH.symm
                · omega
                · simp only [put_ne, not_false_eq_true, reduceCtorEq, ne_eq, e0]
                · simp only [put_ne, Nat.reduceEqDiff, not_false_eq_true, ne_eq, e3]
                · simp only [put_ne, Nat.reduceEqDiff, not_false_eq_true, ne_eq, e4]
                · simp only [put_ne, Nat.reduceEqDiff, not_false_eq_true, ne_eq, e5]
                · simp only [put_ne, Nat.reduceEqDiff, not_false_eq_true, ne_eq, e6]
                · simp only [put_ne, Nat.reduceEqDiff, not_false_eq_true, ne_eq, e7]
                · simp only [put_ne, Nat.reduceEqDiff, not_false_eq_true, ne_eq, e8]
                · simp only [put_ne, Nat.reduceEqDiff, not_false_eq_true, ne_eq, e9]
                · simp only [put_same]
              · have f1 : ¬ (q : Int) < ((tellL es2 x.po).length : Int) := by omega
                simp +contextual (maxSteps := 3000000) only [↓code_seq, ↓code_region, ↓code_cond, ↓code_exit, aCond_bool, ↓ops_nil, ↓ops_cons, run_none, ↓run0_v, ↓seqK_normal, ↓seqK_exit, put_same, put_ne, ev_tmp, o_move, o_bin, o_len, g_none, bin_lss, decide_eq_true_eq, ↓reduceIte, Nat.reduceEqDiff, not_false_eq_true, ne_eq, e9, e11, f1, hlw]
                refine hexit _ _ _ (by simp) ?_
                simp +contextual (maxSteps := 3000000) only [↓code_region, ↓ops_nil, ↓ops_cons, run_none, ↓run0_v, ↓seqK_normal, ↓blkK_normal, ↓blkK_exit, put_same, put_ne, ev_tmp, ev_const, oc_int, o_move, o_assign, o_bin, g_none, bin_add, ↓reduceIte, Nat.reduceEqDiff, not_false_eq_true, ne_eq, e7, c9]
                refine hnext1 (k1 - 1) _ _ (by omega) ⟨j + 1, by omega, hT4, hv4, by omega, ?_, ?_, ?_, ?_, ?_, ?_⟩
                · simp only [put_ne, not_false_eq_true, reduceCtorEq, ne_eq, e0]
                · simp only [put_ne, Nat.reduceEqDiff, not_false_eq_true, ne_eq, e3]
                · simp only [put_ne, Nat.reduceEqDiff, not_false_eq_true, ne_eq, e4]
                · simp only [put_ne, Nat.reduceEqDiff, not_false_eq_true, ne_eq, e5]
                · simp only [put_ne, Nat.reduceEqDiff, not_false_eq_true, ne_eq, e6]
                · simp only [put_same]
            · refine ⟨0, by omega, ?_, ?_, ?_, ?_, ?_, ?_, ?_, ?_, ?_, ?_, ?_⟩
              · exact hH.symm
              · omega
              · simp only [put_ne, not_false_eq_true, reduceCtorEq, ne_eq, e0]
              · simp only [put_ne, Nat.reduceEqDiff, not_false_eq_true, ne_eq, e3]
              · simp only [put_ne, Nat.reduceEqDiff, not_false_eq_true, ne_eq, e4]
              · simp only [put_ne, Nat.reduceEqDiff, not_false_eq_true, ne_eq, e5]
              · simp only [put_ne, Nat.reduceEqDiff, not_false_eq_true, ne_eq, e6]
              · simp only [put_ne, Nat.reduceEqDiff, not_false_eq_true, ne_eq, e7]
              · simp only [put_same, put_ne, Nat.reduceEqDiff, not_false_eq_true, ne_eq, hb8]
              · simp only [put_same, put_ne, Nat.reduceEqDiff, not_false_eq_true, ne_eq]
              · simp only [put_same]; rfl
          · simp +contextual (maxSteps := 3000000) only [↓code_skip, ↓code_seq, ↓code_region, ↓code_cond, ↓code_block, ↓code_loop, aCond_bool, ↓ops_nil, ↓ops_cons, run_none, run_someT, run_someF, ↓run0_v, ↓run0_h, ↓run0_r, ↓seqK_normal, put_same, put_ne, put_none, ev_tmp, ev_const, ev_func, oc_int, oc_bool, o_move, o_assign, o_pick, o_bin, o_call, o_len, o_alloc, o_load, o_store, o_fieldAddr, o_indexAddr, o_extract, g_none, g_some, pick_bool, bin_neq, bin_lss, bin_gtr, extract_tup, Option.bind_some, Option.map_some, decide_eq_true_eq, ↓reduceIte, Nat.reduceEqDiff, not_false_eq_true, not_true_eq_false, List.getElem?_cons_zero, List.getElem?_cons_succ, List.getElem?_toArray, Bool.false_eq_true, List.map_cons, List.map_nil, List.append_nil, List.nil_append, gt_iff_lt, Bool.not_eq_eq_eq_not, Bool.not_true, ne_eq, decide_eq_false_iff_not, loadn_def, load_pA T60 a60, s60, alloc_t T60, z60, fa_ptr T60 p60_0 (by decide), load_p1 T3 a3, loadc_def, fa_ptr T60 p60_1 (by decide), fa_ptr T60 p60_2 (by decide), fa_ptr T60 p60_3 (by decide), Nat.zero_add, Nat.add_zero, e3, e6, e7, d1, hlv, w1, w2, w3, w4, y1, y3, d2, d3', d4, hj0, u1, callV_fn (g := 32) (by decide)]
            refine iterL_wp (Q := fun r => ∃ h', r = some (.bool true, h')) (N := (tellL es2 x.po).length) (Inv := fun k e h' => ∃ q, k + q = (tellL es2 x.po).length ∧ h' = H ∧ q ≤ (tellL es2 x.po).length ∧ e 0 = V ∧ e 3 = .ptr t 0 ∧ e 4 = .ptr hA.next 0 ∧ e 5 = .int .i64 (i : Nat) ∧ e 6 = v ∧ e 7 = .int .i64 (j : Nat) ∧ e 8 = .ptr b8 0 ∧ e 9 = w ∧ e 11 = .int .i64 (q : Nat)) ?_ ?_ (by omega)
            · rintro k e h' K' ⟨q, hk, hh, hql, e0, e3, e4, e5, e6, e7, e8, e9, e11⟩ hnext hexit
              rw [hH] at hh
              subst hh
              by_cases hq : q < (tellL es2 x.po).length
              · have f1 : (q : Int) < ((tellL es2 x.po).length : Int) := by omega
                obtain ⟨y, hy⟩ : ∃ y, (tellL es2 x.po)[q]? = some y := ⟨(tellL es2 x.po)[q], List.getElem?_eq_getElem hq⟩
                have f2 := x2 y (List.mem_of_getElem? hy)
                obtain ⟨b6, cs6, bk6, m1, m2, m3, m4, m5⟩ := loadT u2 hy
                have m5' : cs6[q * 3 + 0]? = some (.int .i64 y.lo) := m5
                have c10 : IntKind.i64.wrap ((q : Int) + 1) = ((q + 1 : Nat) : Int) := by rw [wrap_i64 (by omega) (by omega)]; rfl
                rw [← hb8] at y3'
                simp +contextual (maxSteps := 3000000) only [↓code_skip, ↓code_seq, ↓code_region, ↓code_cond, ↓code_block, aCond_bool, ↓ops_nil, ↓ops_cons, run_none, ↓run0_v, ↓seqK_normal, ↓blkK_normal, put_same, put_ne, ev_tmp, ev_const, oc_int, o_move, o_assign, o_bin, o_len, o_load, o_fieldAddr, o_indexAddr, g_none, bin_add, bin_eql, bin_lss, decide_eq_true_eq, ↓reduceIte, Nat.reduceEqDiff, not_false_eq_true, Nat.reduceAdd, List.getElem?_cons_zero, ne_eq, fa_ptr T60 p60_0 (by decide), load_p1 T3 a3, loadc_def, fa_ptr T62 p62_0 (by decide), e8, e9, e11, f1, hlw, m1, m2, m5', y3', f2, c10]
                refine hnext (k - 1) _ _ (by omega) ⟨q + 1, by omega, ?_, ?_, ?_, ?_, ?_, ?_, ?_, ?_, ?_, ?_, ?_⟩
                · exact hH.symm
                · omega
                · simp only [put_ne, not_false_eq_true, reduceCtorEq, ne_eq, e0]
                · simp only [put_ne, Nat.reduceEqDiff, not_false_eq_true, ne_eq, e3]
                · simp only [put_ne, Nat.reduceEqDiff, not_false_eq_true, ne_eq, e4]
                · simp only [put_ne, Nat.reduceEqDiff, not_false_eq_true, ne_eq, e5]
                · simp only [put_ne, Nat.reduceEqDiff, not_false_eq_true, ne_eq, e6]
                · simp only [put_ne, Nat.reduceEqDiff, not_false_eq_true, ne_eq, e7]
                · simp only [put_ne, Nat.reduceEqDiff, not_false_eq_true, ne_eq, e8]
                · simp only [put_ne, Nat.reduceEqDiff, not_false_eq_true, ne_eq, e9]
                · simp only [put_same]
              · have f1 : ¬ (q : Int) < ((tellL es2 x.po).length : Int) := by omega
                simp +contextual (maxSteps := 3000000) only [↓code_seq, ↓code_region, ↓code_cond, ↓code_exit, aCond_bool, ↓ops_nil, ↓ops_cons, run_none, ↓run0_v, ↓seqK_normal, ↓seqK_exit, put_same, put_ne, ev_tmp, o_move, o_bin, o_len, g_none, bin_lss, decide_eq_true_eq, ↓reduceIte, Nat.reduceEqDiff, not_false_eq_true, ne_eq, e9, e11, f1, hlw]
                refine hexit _ _ _ (by simp) ?_
                simp +contextual (maxSteps := 3000000) only [↓code_region, ↓ops_nil, ↓ops_cons, run_none, ↓run0_v, ↓seqK_normal, ↓blkK_normal, ↓blkK_exit, put_same, put_ne, ev_tmp, ev_const, oc_int, o_move, o_assign, o_bin, g_none, bin_add, ↓reduceIte, Nat.reduceEqDiff, not_false_eq_true, ne_eq, e7, c9]
                refine hnext1 (k1 - 1) _ _ (by omega) ⟨j + 1, by omega, hT4, hv4, by omega, ?_, ?_, ?_, ?_, ?_, ?_⟩
                · simp only [put_ne, not_false_eq_true, reduceCtorEq, ne_eq, e0]
                · simp only [put_ne, Nat.reduceEqDiff, not_false_eq_true, ne_eq, e3]
                · simp only [put_ne, Nat.reduceEqDiff, not_false_eq_true, ne_eq, e4]
                · simp only [put_ne, Nat.reduceEqDiff, not_false_eq_true, ne_eq, e5]
                · simp only [put_ne, Nat.reduceEqDiff, not_false_eq_true, ne_eq, e6]
                · simp only [put_same]
            · refine ⟨0, by omega, ?_, ?_, ?_, ?_, ?_, ?_, ?_, ?_, ?_, ?_, ?_⟩
              · exact hH.symm
              · omega
              · simp only [put_ne, not_false_eq_true, reduceCtorEq, ne_eq, e0]
              · simp only [put_ne, Nat.reduceEqDiff, not_false_eq_true, ne_eq, e3]
              · simp only [put_ne, Nat.reduceEqDiff, not_false_eq_true, ne_eq, e4]
              · simp only [put_ne, Nat.reduceEqDiff, not_false_eq_true, ne_eq, e5]
              · simp only [put_ne, Nat.reduceEqDiff, not_false_eq_true, ne_eq, e6]
              · simp only [put_ne, Nat.reduceEqDiff, not_false_eq_true, ne_eq, e7]
              · simp only [put_same, put_ne, Nat.reduceEqDiff, not_false_eq_true, ne_eq, hb8]
              · simp only [put_same, put_ne, Nat.reduceEqDiff, not_false_eq_true, ne_eq]
              · simp only [put_same]; rfl
        · have d1 : ¬ (j : Int) < (es2.length : Int) := by omega
          simp +contextual (maxSteps := 3000000) only [↓code_seq, ↓code_region, ↓code_cond, ↓code_exit, aCond_bool, ↓ops_nil, ↓ops_cons, run_none, ↓run0_v, ↓seqK_normal, ↓seqK_exit, put_same, put_ne, ev_tmp, o_move, o_bin, o_len, g_none, bin_lss, decide_eq_true_eq, ↓reduceIte, Nat.reduceEqDiff, not_false_eq_true, ne_eq, e6, e7, d1, hlv]
          refine hexit _ _ _ (by simp) ?_
          simp +contextual (maxSteps := 3000000) only [↓code_region, ↓ops_nil, ↓ops_cons, run_none, ↓run0_v, ↓seqK_normal, ↓blkK_normal, ↓blkK_exit, put_same, put_ne, ev_tmp, ev_const, oc_int, o_move, o_assign, o_bin, g_none, bin_add, ↓reduceIte, Nat.reduceEqDiff, not_false_eq_true, ne_eq, e5, c7]
          refine hnext0 (k0 - 1) _ _ (by omega) ⟨i + 1, ps2, es2, rs2, by omega, hT, hes2, by omega, ?_, ?_, ?_, ?_⟩
          · simp only [put_ne, not_false_eq_true, reduceCtorEq, ne_eq, e0]
          · simp only [put_ne, Nat.reduceEqDiff, not_false_eq_true, ne_eq, e3]
          · simp only [put_ne, Nat.reduceEqDiff, not_false_eq_true, ne_eq, e4]
          · simp only [put_same]
      · refine ⟨0, by omega, ?_, ?_, ?_, ?_, ?_, ?_, ?_, ?_, ?_⟩
        · exact hT2.grow r4
        · exact r2
        · omega
        · simp only [put_ne, not_false_eq_true, reduceCtorEq, ne_eq, e0]
        · simp only [put_ne, Nat.reduceEqDiff, not_false_eq_true, ne_eq, e3]
        · simp only [put_ne, Nat.reduceEqDiff, not_false_eq_true, ne_eq, e4]
        · simp only [put_ne, Nat.reduceEqDiff, not_false_eq_true, ne_eq, e5]
        · simp only [put_same, put_ne, Nat.reduceEqDiff, not_false_eq_true, ne_eq]
        · simp only [put_same]; rfl
    · have c1 : ¬ (i : Int) < (l.length : Int) := by omega
      simp +contextual (maxSteps := 3000000) only [↓code_seq, ↓code_region, ↓code_cond, ↓code_exit, aCond_bool, ↓ops_nil, ↓ops_cons, run_none, ↓run0_v, ↓seqK_normal, ↓seqK_exit, put_same, put_ne, ev_tmp, o_move, o_bin, o_len, g_none, bin_lss, decide_eq_true_eq, ↓reduceIte, Nat.reduceEqDiff, not_false_eq_true, reduceCtorEq, ne_eq, e0, e5, c1, hlen]
      refine hexit _ _ _ (by simp) ⟨h', ?_⟩
      simp +contextual (maxSteps := 3000000) only [↓code_seq, ↓code_region, ↓code_ret, ↓ops_nil, ↓ops_cons, run_none, ↓run0_v, ↓run0_r, ↓seqK_normal, ↓blkK_exit, ↓retK_ret, put_same, ev_tmp, ev_func, o_assign, o_call, g_none, resultsOf, oneOrAll, Option.map_some, ↓reduceIte, List.map_nil, List.append_nil, K13 h13, callV_fn (g := 13) (by decide)]
  · refine ⟨0, [], [], [], by omega, ?_, ?_, ?_, ?_, ?_, ?_, ?_⟩
    · exact hT0
    · (simp)
    · omega
    · simp only [put_ne, env0_at, Option.getD_some, not_false_eq_true, reduceCtorEq, List.getElem?_cons_zero, ne_eq]
    · simp only [put_same, put_ne, Nat.reduceEqDiff, not_false_eq_true, ne_eq]
    · simp only [put_same, put_ne, Nat.reduceEqDiff, not_false_eq_true, ne_eq]
    · simp only [put_same]; rfl
end Go.AM.X
