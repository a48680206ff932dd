/- PrinterCopies: the law. Own work. -/
import Derived.Test.YtleefbnanliliaaDoorPcgT
import Derived.Test.YtleefbnanliliaaDoorShelf3
namespace Go.AM.X
open Go Go.AM Go.Proofs Go.AM.Sx
set_option maxHeartbeats 6400000
set_option maxRecDepth 100000
set_option linter.unusedVariables false
theorem law9 {I : Nat → Option (List AV → AH → Rs)} (h11 : I 11 = some (pureG g11)) (h30 : I 30 = none) (h32 : I 32 = none) (h58 : I 58 = none) (h37 : I 37 = none) (h57 : I 57 = none) (h38 : I 38 = none) (h33 : I 33 = none) (h12 : I 12 = none) (h34 : I 34 = none) (h35 : I 35 = none) (h36 : I 36 = none) (h13 : I 13 = none) (h39 : I 39 = none) (h15 : I 15 = none) (h10 : I 10 = none) (h20 : I 20 = none) (h40 : I 40 = none) (h41 : I 41 = none) (h17 : I 17 = none) (h43 : I 43 = none) (h42 : I 42 = none) (h21 : I 21 = none) (h25 : I 25 = none) (h18 : I 18 = none) (h63 : I 63 = none) (h62 : I 62 = none) (h46 : I 46 = none) (h64 : I 64 = none) (h47 : I 47 = none) (h65 : I 65 = none) (h48 : I 48 = none) (h49 : I 49 = none) (h50 : I 50 = none) (h26 : I 26 = none) (h14 : I 14 = none) (h16 : I 16 = none) (h44 : I 44 = some itG) (h19 : I 19 = none) (h23 : I 23 = none) (h45 : I 45 = none) (h24 : I 24 = none) (h31 : I 31 = none) (h66 : I 66 = none) (h52 : I 52 = none) (h53 : I 53 = none) (h54 : I 54 = none) (h55 : I 55 = none) (h56 : I 56 = none) (h29 : I 29 = none) (h27 : I 27 = none) (h51 : I 51 = none) (h28 : I 28 = none) (h9 : I 9 = none) (h7 : I 7 = none) (h59 : I 59 = none) (h60 : I 60 = none) (h35 : I 35 = none) (q w r : Int) (l ls : List Ac) (hl : ∀ a ∈ l, big a.cl ∧ a.da.length ≤ 1000000000000000) (hls : ∀ a ∈ ls, big a.cl ∧ a.da.length ≤ 1000000000000000) (hll : l.length ≤ 1000000000000000) (hlls : ls.length ≤ 1000000000000000) :
    ∃ h', call F I T 5000 9 [.agg [.int .i64 q, .int .i64 w, .int .i64 r], .lst false 6 l.length (fl Ac.av l), .lst false 6 ls.length (fl Ac.av ls)] e0 = some (.bool true, h') := by
  have hlen : ∀ h, aLen T 47 (.lst false 6 l.length (fl Ac.av l)) h = some (.int .i64 (l.length : Nat)) := fun h => by simp [aLen, T47, d47]
  have ia := fun i a (ha : l[i]? = some a) => actC ha
  obtain ⟨VL, hVL⟩ : ∃ VL, VL = AV.lst false 6 l.length (fl Ac.av l) := ⟨_, rfl⟩
  rw [← hVL] at hlen ia ⊢
  have hlen2 : ∀ h, aLen T 47 (.lst false 6 ls.length (fl Ac.av ls)) h = some (.int .i64 (ls.length : Nat)) := fun h => by simp [aLen, T47, d47]
  have ia2 := fun i a (ha : ls[i]? = some a) => actC ha
  obtain ⟨VM, hVM⟩ : ∃ VM, VM = AV.lst false 6 ls.length (fl Ac.av ls) := ⟨_, rfl⟩
  rw [← hVM] at hlen2 ia2 ⊢
  have c0 : IntKind.i64.wrap ((l.length : Int) + (ls.length : Int)) = ((l.length : Int) + (ls.length : Int)) := wrap_i64 (by omega) (by omega)
  by_cases hk : okQ q = true ∧ okQ w = true ∧ okRm r = true
  rotate_left
  · obtain ⟨h1, c17⟩ := run17no h30 h10 h20 h40 h41 h17 4995 q w r hk
    simp only [bxG] at c17
    rw [call_code (by decide) h9 F9 rfl]; simp only [Tryd.f9, Option.getD]
    simp +contextual (maxSteps := 3000000) only [aCond_bool, ↓ops_nil, ↓ops_cons, run_none, run_someF, ↓run0_v, ↓run0_r, ↓seqK_normal, ↓seqK_ret, ↓retK_ret, put_same, put_ne, env0_at, ev_tmp, ev_const, ev_func, oc_int, oc_bool, oc_nilp, o_move, o_assign, o_pick, o_bin, o_call, o_len, o_box, o_load, o_un, o_extract, g_none, g_some, pick_bool, un_not, extract_tup, next_e0, resultsOf, oneOrAll, Option.bind_some, Option.map_some, Option.getD_some, ↓reduceIte, Nat.reduceEqDiff, not_false_eq_true, Nat.reduceAdd, List.getElem?_cons_zero, List.getElem?_cons_succ, List.getElem?_toArray, Bool.false_eq_true, List.map_cons, List.map_nil, List.append_nil, List.nil_append, AH.get_alloc, Nat.le_refl, Bool.not_true, ne_eq, ↓cd_skip, ↓cd_seq, ↓cd_region, ↓cd_cond, ↓cd_ret, box_agg, load_pA T36 a36, s36, loadn_def, nn_eql T37 d37, K11 h11, List.length_cons, List.length_nil, List.drop_zero, List.take_succ_cons, List.take_nil, Nat.zero_add, c17, callV_fn (g := 17) (by decide), callV_fn (g := 11) (by decide)]
    exact ⟨_, rfl⟩
  have c17 := run17ok h30 h10 h20 h40 h41 h17 4995 q w r hk.1 hk.2
  simp only [bxG] at c17
  rw [call_code (by decide) h9 F9 rfl]; simp only [Tryd.f9, Option.getD]
  by_cases c1 : (200 : Int) < (l.length : Int) + (ls.length : Int)
  · simp +contextual (maxSteps := 3000000) only [aCond_bool, ↓ops_nil, ↓ops_cons, run_none, run_someF, ↓run0_v, ↓run0_r, ↓seqK_normal, ↓seqK_ret, ↓retK_ret, put_same, put_ne, env0_at, ev_tmp, ev_const, ev_func, oc_int, oc_bool, oc_nilp, o_move, o_assign, o_pick, o_bin, o_call, o_len, o_box, o_load, o_un, o_extract, g_none, g_some, pick_bool, bin_add, bin_gtr, un_not, extract_tup, next_e0, resultsOf, oneOrAll, Option.bind_some, Option.map_some, Option.getD_some, decide_eq_true_eq, ↓reduceIte, Nat.reduceEqDiff, not_false_eq_true, Nat.reduceAdd, List.getElem?_cons_zero, List.getElem?_cons_succ, List.getElem?_toArray, Bool.false_eq_true, List.map_cons, List.map_nil, List.append_nil, List.nil_append, AH.get_alloc, Nat.le_refl, gt_iff_lt, Bool.not_true, ne_eq, ↓cd_skip, ↓cd_seq, ↓cd_region, ↓cd_cond, ↓cd_ret, box_agg, load_pA T36 a36, s36, loadn_def, pn_eql T37 d37, K11 h11, List.length_cons, List.length_nil, List.drop_zero, List.take_succ_cons, List.take_nil, Nat.zero_add, c17, hlen, hlen2, c0, c1, callV_fn (g := 17) (by decide), callV_fn (g := 11) (by decide)]
    exact ⟨_, rfl⟩
  simp +contextual (maxSteps := 3000000) only [aCond_bool, ↓ops_nil, ↓ops_cons, run_none, run_someF, ↓run0_v, ↓run0_r, ↓seqK_normal, put_same, put_ne, env0_at, ev_tmp, ev_const, ev_func, oc_int, oc_bool, oc_nilp, o_move, o_assign, o_pick, o_bin, o_call, o_len, o_box, o_load, o_un, o_extract, g_none, g_some, pick_bool, bin_add, bin_gtr, un_not, extract_tup, next_e0, Option.bind_some, Option.map_some, Option.getD_some, decide_eq_true_eq, ↓reduceIte, Nat.reduceEqDiff, not_false_eq_true, Nat.reduceAdd, List.getElem?_cons_zero, List.getElem?_cons_succ, List.getElem?_toArray, Bool.false_eq_true, List.map_cons, List.map_nil, List.append_nil, List.nil_append, AH.get_alloc, Nat.le_refl, gt_iff_lt, Bool.not_true, ne_eq, ↓cd_skip, ↓cd_seq, ↓cd_region, ↓cd_cond, ↓cd_block, box_agg, load_pA T36 a36, s36, loadn_def, pn_eql T37 d37, List.length_cons, List.length_nil, List.drop_zero, List.take_succ_cons, List.take_nil, Nat.zero_add, c17, hlen, hlen2, c0, c1, callV_fn (g := 17) (by decide)]
  obtain ⟨oV0, oS0, oQ0, oU0, hw0⟩ := wq7 q w r
  have hp0 := pq7 q w r hk.1 hk.2.1 hk.2.2
  refine iterL_wp (Q := fun r => ∃ h', r = some (.bool true, h')) (N := l.length) (Inv := fun k e h' => ∃ i sq V S Q U oV oS oQ oU, k + i = l.length ∧ W7 h' 7 6 2 4 3 5 sq V S Q U oV oS oQ oU ∧ Pair i 4 5 V S Q U ∧ (BB V ∧ BB S) ∧ i ≤ l.length ∧ e 1 = VL ∧ e 2 = VM ∧ e 7 = .ptr 7 0 ∧ e 9 = .int .i64 (i : Nat)) ?_ ?_ (show l.length < 4999 by omega)
  · rintro k e h' K' ⟨i, sq, V, S, Q, U, oV, oS, oQ, oU, hk, hW, hP, hB, hil, e1, e2, e7, e9⟩ hnext hexit
    by_cases hi : i < l.length
    · have d1 : (i : Int) < (l.length : Int) := by omega
      obtain ⟨a, ha⟩ : ∃ a, l[i]? = some a := ⟨l[i], List.getElem?_eq_getElem hi⟩
      obtain ⟨hcl, hda⟩ := hl a (List.mem_of_getElem? ha)
      obtain ⟨pl, g1, g2, g3⟩ := ia i a ha
      obtain ⟨h2, sq2, V2, S2, Q2, U2, oV2, oS2, oQ2, oU2, k1, k2, k3, k4, k5⟩ := run26 h30 h32 h58 h37 h57 h38 h33 h12 h34 h35 h36 h13 h39 h15 h25 h43 h42 h18 h21 h63 h62 h46 h64 h47 h65 h48 h49 h50 h26 h59 h60 h35 4499 i 7 6 2 4 3 5 sq V S Q U oV oS oQ oU a h' hW hP (by omega) hcl hda (by decide)
      have c7 : IntKind.i64.wrap ((i : Int) + 1) = ((i + 1 : Nat) : Int) := by rw [wrap_i64 (by omega) (by omega)]; rfl
      unfold Ac.av at k1
      simp +contextual (maxSteps := 3000000) only [aCond_bool, ↓ops_nil, ↓ops_cons, run_none, ↓run0_v, ↓run0_r, ↓seqK_normal, ↓blkK_normal, put_same, put_ne, ev_tmp, ev_const, ev_func, oc_int, o_move, o_assign, o_bin, o_call, o_len, o_load, o_un, o_indexAddr, g_none, bin_add, bin_lss, un_not, decide_eq_true_eq, ↓reduceIte, Nat.reduceEqDiff, not_false_eq_true, Bool.false_eq_true, List.map_cons, List.map_nil, List.append_nil, List.nil_append, Bool.not_true, ne_eq, ↓cd_skip, ↓cd_seq, ↓cd_region, ↓cd_cond, ↓cd_block, load_fpA T53 a53, s53, e1, e7, e9, d1, hlen, g1, g2, g3, k1, c7, callV_fn (g := 26) (by decide)]
      refine hnext (k - 1) _ _ (by omega) ⟨i + 1, sq2, V2, S2, Q2, U2, oV2, oS2, oQ2, oU2, by omega, ?_, ?_, ?_, ?_, ?_, ?_, ?_, ?_⟩
      · exact k2
      · exact k3
      · exact ⟨k4 hB.1, k5 hB.2⟩
      · omega
      · simp only [put_ne, Nat.reduceEqDiff, not_false_eq_true, ne_eq, e1]
      · simp only [put_ne, Nat.reduceEqDiff, not_false_eq_true, ne_eq, e2]
      · simp only [put_ne, Nat.reduceEqDiff, not_false_eq_true, ne_eq, e7]
      · simp only [put_same]
    · have d1 : ¬ (i : Int) < (l.length : Int) := by omega
      simp +contextual (maxSteps := 3000000) only [aCond_bool, ↓ops_nil, ↓ops_cons, run_none, ↓run0_v, ↓seqK_normal, ↓seqK_exit, put_same, put_ne, ev_tmp, o_move, o_bin, o_len, g_none, bin_lss, decide_eq_true_eq, ↓reduceIte, Nat.reduceEqDiff, not_false_eq_true, ne_eq, ↓cd_seq, ↓cd_region, ↓cd_cond, ↓cd_exit, e1, e9, d1, hlen]
      refine hexit _ _ _ (by simp) ?_
      have hqV : ¬ V.q = 0 := by have := hP.ia.q; omega
      have hqS : ¬ S.q = 0 := by have := hP.ib.q; omega
      have bx := hW.bx
      obtain ⟨H1, pc, oC, v1, v2, v3, v4⟩ := V28 h32 h45 h24 h51 h28 3799 2 V oV h' hW.fv hqV (by have := hP.ia.jl; omega) hP.ia.jd (fun x hx => (hP.ia.sb x hx).2.2.1) hB.1.2
      have W1 := hW.grow v3
      have bx1 := W1.bx
      obtain ⟨H2, pd, oD, u1, u2, u3, u4⟩ := V28 h32 h45 h24 h51 h28 3799 4 S oS H1 W1.fs hqS (by have := hP.ib.jl; omega) hP.ib.jd (fun x hx => (hP.ib.sb x hx).2.2.1) hB.2.2
      have W2 := W1.grow u3
      have bx2 := W2.bx
      have X2 := W9.make hW.th v2 v3 v4 u2 u3 u4
      obtain ⟨H3, x1, x2⟩ := run29 h32 h14 h16 h25 h44 h19 h23 h45 h24 h31 h66 h52 h53 h54 h55 h56 h29 h63 h64 3699 i pc 3 4 5 V Q oC oQ H2 X2.c W2.fq hP.a hP.ia (by omega)
      have W3 := W2.grow x2
      have bx3 := W3.bx
      have X3 := X2.grow x2
      obtain ⟨H4, y1, y2⟩ := run29 h32 h14 h16 h25 h44 h19 h23 h45 h24 h31 h66 h52 h53 h54 h55 h56 h29 h63 h64 3699 i pd 5 4 5 S U oD oU H3 X3.d W3.fu hP.b hP.ib (by omega)
      have X4 := X3.grow y2
      clear hlen ia
      simp +contextual (maxSteps := 3000000) only [↓seqK_normal, ↓blkK_exit, ↓reduceIte, ↓cd_seq]
      rw [code_soft (ss := [(8, 0, 9)]) (by kernel_rfl) (by kernel_rfl) (by simp)]
      simp +contextual (maxSteps := 3000000) only [↓ops_nil, ↓ops_cons, run_none, run_someF, ↓run0_v, ↓run0_r, ↓seqK_normal, ↓seqK_ret, ↓retK_ret, put_same, put_ne, ev_tmp, ev_const, ev_func, oc_int, oc_bool, oc_nilp, o_move, o_assign, o_pick, o_bin, o_call, o_load, o_nilCheck, o_un, o_fieldAddr, g_none, g_some, pick_bool, nil_ptr, resultsOf, oneOrAll, Option.bind_some, Option.map_some, ↓reduceIte, Nat.reduceEqDiff, not_false_eq_true, Nat.reduceAdd, List.getElem?_cons_zero, List.getElem?_cons_succ, List.getElem?_toArray, Bool.false_eq_true, List.map_cons, List.map_nil, List.append_nil, List.nil_append, List.cons_append, ne_eq, ↓cd_skip, ↓cd_seq, ↓cd_region, ↓cd_cond, ↓cd_block, ↓cd_ret, fa_ptr T43 p43_0 (by decide), load_p1 T23 a23, loadc_def, fa_ptr T43 p43_1 (by decide), pn_eql T23 d23, fa_ptr T43 p43_2 (by decide), load_p1 T40 a40, callV_fn (g := 29) (by decide), opsTr_nil, opsTr_cons, e7, bx, bx1, v1, u1, callV_fn (g := 28) (by decide)]
      refine soft_Q (fun r => ∃ h', r = some (.bool true, h')) ?_ ?_
      rotate_left
      · simp +contextual (maxSteps := 3000000) only [run_none, ↓run0_v, put_same, ev_tmp, o_load, g_none, Nat.reduceAdd, List.getElem?_cons_zero, List.getElem?_cons_succ, List.getElem?_toArray, load_p1 T23 a23, loadc_def, softOk, sameAt, stepV, same_ptr, Bool.and_true, bx, bx1]
      simp +contextual (maxSteps := 3000000) only [aCond_bool, run_someF, ↓run0_v, ↓run0_r, pick_bool, un_not, nil_ptr, ↓reduceIte, Nat.reduceAdd, List.getElem?_cons_zero, List.getElem?_cons_succ, Bool.false_eq_true, Bool.not_true, loadc_def, load_p1 T40 a40, fa_ptr T43 p43_3 (by decide), bx2, bx3, x1, y1]
      refine iterL_wp (Q := fun r => ∃ h', r = some (.bool true, h')) (N := ls.length) (Inv := fun k e h' => ∃ z C D oC oD, k + z = ls.length ∧ W9 h' (fun h => W7 h 7 6 2 4 3 5 sq V S Q U oV oS oQ oU) (oW7 7 6 oV oS oQ oU) pc pd C D oC oD ∧ (Cp (i + z) 4 5 C ∧ Cp (i + z) 4 5 D) ∧ z ≤ ls.length ∧ e 2 = VM ∧ e 7 = .ptr 7 0 ∧ e 10 = .ptr pc 0 ∧ e 11 = .ptr pd 0 ∧ e 12 = .int .i64 (z : Nat)) ?_ ?_ (show ls.length < 4999 by omega)
      · rintro k e h' K' ⟨z, C, D, oC, oD, hk, hX, hC, hzl, e2, e7, e10, e11, e12⟩ hnext hexit
        by_cases hz : z < ls.length
        · have d1 : (z : Int) < (ls.length : Int) := by omega
          obtain ⟨a, ha⟩ : ∃ a, ls[z]? = some a := ⟨ls[z], List.getElem?_eq_getElem hz⟩
          obtain ⟨hcl, hda⟩ := hls a (List.mem_of_getElem? ha)
          obtain ⟨pl, g1, g2, g3⟩ := ia2 z a ha
          obtain ⟨hZ, y1, y2, y3, y4⟩ := store_ac h' a
          have hXz := hX.grow y4
          have c7 : IntKind.i64.wrap ((z : Int) + 1) = ((z + 1 : Nat) : Int) := by rw [wrap_i64 (by omega) (by omega)]; rfl
          have oB := hX.c.off_ge (Nat.le_refl h'.next)
          by_cases c0' : a.dd = 0
          · obtain ⟨er, h2, C2, oC2, k1, k2, k3, k4⟩ := cpWant h30 h32 h58 h37 h57 h38 h33 h12 h59 h60 4599 (i + z) 4 5 pc a.cl a.n C oC hZ hXz.c hC.1 hcl
            have X5 := hXz.opC k2 k3
            have gB := (k3.2 h'.next (by omega) oB).1.trans y3
            obtain ⟨er', h3, D2, oD2, l1, l2, l3, l4⟩ := cpWant h30 h32 h58 h37 h57 h38 h33 h12 h59 h60 4599 (i + z) 4 5 pd a.cl a.n D oD h2 X5.d hC.2 hcl
            have X6 := X5.opD l2 l3
            simp +contextual (maxSteps := 3000000) only [aCond_bool, ↓ops_nil, ↓ops_cons, run_none, ↓run0_v, ↓run0_h, ↓run0_r, ↓seqK_normal, ↓blkK_normal, put_same, put_ne, put_none, ev_tmp, ev_const, ev_func, oc_int, o_move, o_assign, o_bin, o_call, o_len, o_alloc, o_load, o_store, o_fieldAddr, o_indexAddr, g_none, bin_add, bin_eql, bin_lss, decide_eq_true_eq, ↓reduceIte, Nat.reduceEqDiff, not_false_eq_true, List.getElem?_cons_zero, List.getElem?_cons_succ, List.map_cons, List.map_nil, List.append_nil, List.nil_append, ne_eq, ↓cd_skip, ↓cd_seq, ↓cd_region, ↓cd_cond, ↓cd_block, load_fpA T53 a53, s53, loadc_def, alloc_t T53, z53, fa_ptr T53 p53_0 (by decide), load_p1 T3 a3, fa_ptr T53 p53_2 (by decide), fa_ptr T53 p53_3 (by decide), Nat.zero_add, Nat.add_zero, e2, e10, e11, e12, d1, hlen2, g1, g2, g3, y1, y3, gB, eq_true c0', k1, l1, c7, callV_fn (g := 12) (by decide)]
            refine hnext (k - 1) _ _ (by omega) ⟨z + 1, C2, D2, oC2, oD2, by omega, ?_, ?_, ?_, ?_, ?_, ?_, ?_, ?_⟩
            · exact X6
            · exact ⟨k4, l4⟩
            · omega
            · simp only [put_ne, Nat.reduceEqDiff, not_false_eq_true, ne_eq, e2]
            · simp only [put_ne, Nat.reduceEqDiff, not_false_eq_true, ne_eq, e7]
            · simp only [put_ne, Nat.reduceEqDiff, not_false_eq_true, ne_eq, e10]
            · simp only [put_ne, Nat.reduceEqDiff, not_false_eq_true, ne_eq, e11]
            · simp only [put_same]
          by_cases c1' : a.dd = 1
          · obtain ⟨er, h2, C2, oC2, k1, k2, k3, k4⟩ := cpGive h32 h36 h58 h37 h57 h38 h39 h15 h59 h60 4599 (i + z) 4 5 pc a.cl C oC hZ hXz.c hC.1 
            have X5 := hXz.opC k2 k3
            have gB := (k3.2 h'.next (by omega) oB).1.trans y3
            obtain ⟨er', h3, D2, oD2, l1, l2, l3, l4⟩ := cpGive h32 h36 h58 h37 h57 h38 h39 h15 h59 h60 4599 (i + z) 4 5 pd a.cl D oD h2 X5.d hC.2 
            have X6 := X5.opD l2 l3
            simp +contextual (maxSteps := 3000000) only [aCond_bool, ↓ops_nil, ↓ops_cons, run_none, ↓run0_v, ↓run0_h, ↓run0_r, ↓seqK_normal, ↓blkK_normal, put_same, put_ne, put_none, ev_tmp, ev_const, ev_func, oc_int, o_move, o_assign, o_bin, o_call, o_len, o_alloc, o_load, o_store, o_fieldAddr, o_indexAddr, g_none, bin_add, bin_eql, bin_lss, decide_eq_true_eq, ↓reduceIte, Nat.reduceEqDiff, not_false_eq_true, List.getElem?_cons_zero, List.getElem?_cons_succ, List.map_cons, List.map_nil, List.append_nil, List.nil_append, ne_eq, ↓cd_skip, ↓cd_seq, ↓cd_region, ↓cd_cond, ↓cd_block, load_fpA T53 a53, s53, loadc_def, alloc_t T53, z53, fa_ptr T53 p53_0 (by decide), load_p1 T3 a3, fa_ptr T53 p53_2 (by decide), Nat.zero_add, Nat.add_zero, e2, e10, e11, e12, d1, hlen2, g1, g2, g3, y1, y3, gB, c0', eq_true c1', k1, l1, c7, callV_fn (g := 15) (by decide)]
            refine hnext (k - 1) _ _ (by omega) ⟨z + 1, C2, D2, oC2, oD2, by omega, ?_, ?_, ?_, ?_, ?_, ?_, ?_, ?_⟩
            · exact X6
            · exact ⟨k4, l4⟩
            · omega
            · simp only [put_ne, Nat.reduceEqDiff, not_false_eq_true, ne_eq, e2]
            · simp only [put_ne, Nat.reduceEqDiff, not_false_eq_true, ne_eq, e7]
            · simp only [put_ne, Nat.reduceEqDiff, not_false_eq_true, ne_eq, e10]
            · simp only [put_ne, Nat.reduceEqDiff, not_false_eq_true, ne_eq, e11]
            · simp only [put_same]
          by_cases c2' : a.dd = 2
          · obtain ⟨er, h2, C2, oC2, k1, k2, k3, k4⟩ := cpSend h30 h32 h57 h38 h39 h43 h42 h21 h60 4599 (i + z) 4 5 pc a.cl a.n a.da a.en C oC hZ hXz.c hC.1 (by omega)
            have X5 := hXz.opC k2 k3
            have gB := (k3.2 h'.next (by omega) oB).1.trans y3
            obtain ⟨er', h3, D2, oD2, l1, l2, l3, l4⟩ := cpSend h30 h32 h57 h38 h39 h43 h42 h21 h60 4599 (i + z) 4 5 pd a.cl a.n a.da a.en D oD h2 X5.d hC.2 (by omega)
            have X6 := X5.opD l2 l3
            simp +contextual (maxSteps := 3000000) only [aCond_bool, ↓ops_nil, ↓ops_cons, run_none, ↓run0_v, ↓run0_h, ↓run0_r, ↓seqK_normal, ↓blkK_normal, put_same, put_ne, put_none, ev_tmp, ev_const, ev_func, oc_int, o_move, o_assign, o_bin, o_call, o_len, o_alloc, o_load, o_store, o_fieldAddr, o_indexAddr, g_none, bin_add, bin_eql, bin_lss, decide_eq_true_eq, ↓reduceIte, Nat.reduceEqDiff, not_false_eq_true, List.getElem?_cons_zero, List.getElem?_cons_succ, List.map_cons, List.map_nil, List.append_nil, List.nil_append, ne_eq, ↓cd_skip, ↓cd_seq, ↓cd_region, ↓cd_cond, ↓cd_block, load_fpA T53 a53, s53, loadc_def, alloc_t T53, z53, fa_ptr T53 p53_0 (by decide), load_p1 T3 a3, fa_ptr T53 p53_2 (by decide), fa_ptr T53 p53_3 (by decide), fa_ptr T53 p53_4 (by decide), load_p1 T48 a48, fa_ptr T53 p53_5 (by decide), load_p1 T4 a4, Nat.zero_add, Nat.add_zero, e2, e10, e11, e12, d1, hlen2, g1, g2, g3, y1, y3, gB, c0', c1', eq_true c2', k1, l1, c7, callV_fn (g := 21) (by decide)]
            refine hnext (k - 1) _ _ (by omega) ⟨z + 1, C2, D2, oC2, oD2, by omega, ?_, ?_, ?_, ?_, ?_, ?_, ?_, ?_⟩
            · exact X6
            · exact ⟨k4, l4⟩
            · omega
            · simp only [put_ne, Nat.reduceEqDiff, not_false_eq_true, ne_eq, e2]
            · simp only [put_ne, Nat.reduceEqDiff, not_false_eq_true, ne_eq, e7]
            · simp only [put_ne, Nat.reduceEqDiff, not_false_eq_true, ne_eq, e10]
            · simp only [put_ne, Nat.reduceEqDiff, not_false_eq_true, ne_eq, e11]
            · simp only [put_same]
          obtain ⟨er, h2, C2, oC2, k1, k2, k3, k4⟩ := cpTick h32 h57 h34 h35 h36 h13 h35 4599 (i + z) 4 5 pc C oC hZ hXz.c hC.1 (by omega)
          have X5 := hXz.opC k2 k3
          have gB := (k3.2 h'.next (by omega) oB).1.trans y3
          obtain ⟨er', h3, D2, oD2, l1, l2, l3, l4⟩ := cpTick h32 h57 h34 h35 h36 h13 h35 4599 (i + z) 4 5 pd D oD h2 X5.d hC.2 (by omega)
          have X6 := X5.opD l2 l3
          simp +contextual (maxSteps := 3000000) only [aCond_bool, ↓ops_nil, ↓ops_cons, run_none, ↓run0_v, ↓run0_h, ↓run0_r, ↓seqK_normal, ↓blkK_normal, put_same, put_ne, put_none, ev_tmp, ev_const, ev_func, oc_int, o_move, o_assign, o_bin, o_call, o_len, o_alloc, o_load, o_store, o_fieldAddr, o_indexAddr, g_none, bin_add, bin_eql, bin_lss, decide_eq_true_eq, ↓reduceIte, Nat.reduceEqDiff, not_false_eq_true, List.getElem?_cons_zero, List.map_cons, List.map_nil, List.append_nil, List.nil_append, ne_eq, ↓cd_skip, ↓cd_seq, ↓cd_region, ↓cd_cond, ↓cd_block, load_fpA T53 a53, s53, loadc_def, alloc_t T53, z53, fa_ptr T53 p53_0 (by decide), load_p1 T3 a3, Nat.add_zero, e2, e10, e11, e12, d1, hlen2, g1, g2, g3, y1, y3, c0', c1', c2', k1, l1, c7, callV_fn (g := 13) (by decide)]
          refine hnext (k - 1) _ _ (by omega) ⟨z + 1, C2, D2, oC2, oD2, by omega, ?_, ?_, ?_, ?_, ?_, ?_, ?_, ?_⟩
          · exact X6
          · exact ⟨k4, l4⟩
          · omega
          · simp only [put_ne, Nat.reduceEqDiff, not_false_eq_true, ne_eq, e2]
          · simp only [put_ne, Nat.reduceEqDiff, not_false_eq_true, ne_eq, e7]
          · simp only [put_ne, Nat.reduceEqDiff, not_false_eq_true, ne_eq, e10]
          · simp only [put_ne, Nat.reduceEqDiff, not_false_eq_true, ne_eq, e11]
          · simp only [put_same]
        · have d1 : ¬ (z : Int) < (ls.length : Int) := by omega
          simp +contextual (maxSteps := 3000000) only [aCond_bool, ↓ops_nil, ↓ops_cons, run_none, ↓run0_v, ↓seqK_normal, ↓seqK_exit, put_same, put_ne, ev_tmp, o_move, o_bin, o_len, g_none, bin_lss, decide_eq_true_eq, ↓reduceIte, Nat.reduceEqDiff, not_false_eq_true, ne_eq, ↓cd_seq, ↓cd_region, ↓cd_cond, ↓cd_exit, e2, e12, d1, hlen2]
          refine hexit _ _ _ (by simp) ?_
          obtain ⟨h3, k4, k5⟩ := run27 h32 h14 h16 h25 h44 h19 h23 h45 h24 h31 h66 h52 h53 h54 h55 h56 h29 h27 h63 h64 3698 i 7 6 2 4 3 5 sq V S Q U oV oS oQ oU h' hX.w.it hP (by omega)
          simp +contextual (maxSteps := 3000000) only [↓ops_nil, ↓ops_cons, run_none, run_someT, ↓run0_v, ↓run0_r, ↓seqK_normal, ↓blkK_exit, ↓retK_ret, put_same, put_ne, ev_tmp, ev_const, ev_func, oc_bool, o_move, o_assign, o_pick, o_call, g_none, g_some, pick_bool, resultsOf, oneOrAll, Option.bind_some, Option.map_some, ↓reduceIte, Nat.reduceEqDiff, not_false_eq_true, List.getElem?_cons_zero, List.getElem?_cons_succ, List.getElem?_toArray, List.map_cons, List.map_nil, List.append_nil, List.nil_append, ne_eq, ↓cd_seq, ↓cd_region, ↓cd_ret, K11 h11, e7, k4, callV_fn (g := 27) (by decide), callV_fn (g := 11) (by decide)]
          exact ⟨_, rfl⟩
      · refine ⟨0, V, S, oC, oD, by omega, ?_, ?_, ?_, ?_, ?_, ?_, ?_, ?_⟩
        · exact X4
        · exact ⟨⟨Q, hP.a, hP.ia⟩, ⟨U, hP.b, hP.ib⟩⟩
        · omega
        · simp only [put_ne, Nat.reduceEqDiff, not_false_eq_true, ne_eq, e2]
        · simp only [put_ne, Nat.reduceEqDiff, not_false_eq_true, ne_eq, e7]
        · simp only [put_same, put_ne, Nat.reduceEqDiff, not_false_eq_true, ne_eq]
        · simp only [put_same, put_ne, Nat.reduceEqDiff, not_false_eq_true, ne_eq]
        · simp only [put_same]; rfl
  · refine ⟨0, fun _ => 0, ⟨q, 0, 0, [], [], []⟩, ⟨w, r, 0, [], [], []⟩, ⟨q, 0, 0, 0, [], [], [], []⟩, ⟨w, r, 0, 0, [], [], [], []⟩, oV0, oS0, oQ0, oU0, by omega, ?_, ?_, ?_, ?_, ?_, ?_, ?_, ?_⟩
    · exact hw0
    · exact hp0
    · exact ⟨⟨fun x hx => (by cases hx), fun x hx => (by cases hx)⟩, ⟨fun x hx => (by cases hx), fun x hx => (by cases hx)⟩⟩
    · omega
    · simp only [put_ne, env0_at, Option.getD_some, Nat.reduceEqDiff, not_false_eq_true, List.getElem?_cons_zero, List.getElem?_cons_succ, ne_eq]
    · simp only [put_ne, env0_at, Option.getD_some, Nat.reduceEqDiff, not_false_eq_true, List.getElem?_cons_zero, List.getElem?_cons_succ, ne_eq]
    · simp only [put_same, put_ne, Nat.reduceEqDiff, not_false_eq_true, ne_eq]
    · simp only [put_same]; rfl
end Go.AM.X
namespace Go.AM.X
open Go Go.AM Go.Proofs Go.AM.Sx
noncomputable def Ip2 := addI I1 44 itG
theorem Ap2 : IAgree Tryd.prog Ip2 := by
  obtain ⟨fi, hfi⟩ : ∃ fi, F 44 = some fi := Option.isSome_iff_exists.1 (by kernel_rfl)
  obtain ⟨g, hg⟩ : ∃ g, Tryd.prog.globalNamed "internal/strconv.uint64pow10" = some g := Option.isSome_iff_exists.1 (by kernel_rfl)
  exact it_agree hF A1 fi hfi hg (fun n h0 h1 w ht => Tryd.strconv_Itoa n h0 h1 w ht)
theorem lawC (q w r : Int) (l ls : List Ac) (hl : ∀ a ∈ l, big a.cl ∧ a.da.length ≤ 1000000000000000) (hls : ∀ a ∈ ls, big a.cl ∧ a.da.length ≤ 1000000000000000) (hll : l.length ≤ 1000000000000000) (hlls : ls.length ≤ 1000000000000000) : ∃ h', call F Ip2 T 5000 9 [.agg [.int .i64 q, .int .i64 w, .int .i64 r], .lst false 6 l.length (fl Ac.av l), .lst false 6 ls.length (fl Ac.av ls)] e0 = some (.bool true, h') :=
  law9 rfl rfl rfl rfl rfl rfl rfl rfl rfl rfl rfl rfl rfl rfl rfl rfl rfl rfl rfl rfl rfl rfl rfl rfl rfl rfl rfl rfl rfl rfl rfl rfl rfl rfl rfl rfl rfl rfl rfl rfl rfl rfl rfl rfl rfl rfl rfl rfl rfl rfl rfl rfl rfl rfl rfl rfl rfl rfl q w r l ls hl hls hll hlls
end Go.AM.X
