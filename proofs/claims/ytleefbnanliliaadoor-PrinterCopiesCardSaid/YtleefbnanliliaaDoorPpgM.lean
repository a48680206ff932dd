/- The document's printer: a tick. Own work. -/
import Derived.Test.YtleefbnanliliaaDoorPpgL
namespace Go.AM.X
open Go Go.AM Go.Proofs Go.AM.Sx
set_option maxHeartbeats 3200000
set_option maxRecDepth 100000
set_option linter.unusedVariables false
theorem F50 : F 50 = some { body := (Tryd.f50.body.getD .skip), results := Tryd.f50.results.toList, rf := false } := by kernel_rfl
theorem R50 : regsOk T (Tryd.f50.body.getD .skip) = true := by kernel_rfl
def keptR (R : Rf) : List Rc := (R.ss.map incR).filter stayR
theorem kept_tc (R : Rf) : (keptR R).map tc = keptT (tp R) := by
  unfold keptR keptT
  show _ = ((R.ss.map tc).map incT).filter stayT
  rw [List.map_map, List.filter_map, List.filter_map, List.map_map]
  rfl
def Tk (h : AH) (p : Nat) (R : Rf) (r : Rs) : Prop := ∃ R2 h2, r = some (.int .i64 0, h2) ∧ OkR h2 p R2 ∧ tp R2 = tickT (tp R) ∧ Stf h h2 (R.off p) (R2.off p) ∧ Ext h R R2
theorem serve_end {n : Nat} {ws : List Wt} (h : n = 0 ∨ ws = []) : serveL n ws = ([], ws) := by
  rcases h with h | h
  · rw [h]; rfl
  · rw [h]; cases n <;> simp [serveL]
theorem serve_next {n : Nat} {ws : List Wt} {w : Wt} (hn : 0 < n) (hw : ws[best ws]? = some w) : serveL n ws = (w :: (serveL (n - 1) (ws.eraseIdx (best ws))).1, (serveL (n - 1) (ws.eraseIdx (best ws))).2) := by
  obtain ⟨k, rfl⟩ : ∃ k, n = k + 1 := ⟨n - 1, by omega⟩
  have hne : ¬ ws = [] := fun e => by rw [e] at hw; simp at hw
  rw [serveL, if_neg hne, hw]
  rfl
theorem ind_eq {v : AV} {i b b2 o o2 : Nat} (h1 : aIndexAddr T 101 v (.int .i64 (i : Nat)) = some (.ptr b o)) (h2 : aIndexAddr T 101 v (.int .i64 (i : Nat)) = some (.ptr b2 o2)) : b = b2 := by
  rw [h1] at h2; cases h2; rfl
theorem run50 {I : Nat → Option (List AV → AH → Rs)} (h64 : I 64 = none) (h50 : I 50 = none) (m p : Nat) (R : Rf) (h : AH) (hR : OkR h p R) (hl : R.ws.length ≤ 200 ∧ R.ss.length ≤ 200) (hr : 0 ≤ R.r ∧ R.r ≤ 20) (hwb : ∀ w ∈ R.ws, 0 ≤ w.w ∧ w.w ≤ 1000000000) (hsb : ∀ s ∈ R.ss, 0 ≤ s.si ∧ s.si ≤ 1000000000) :
    Tk h p R (call F I T (m + 400) 50 [.ptr p 0] h) := by
  have hlenW : ∀ h, aLen T 101 R.wv h = some (.int .i64 (R.ws.length : Nat)) := fun h => hR.w.len T101 d101
  have hlenS : ∀ h, aLen T 101 R.sv h = some (.int .i64 (R.ss.length : Nat)) := fun h => hR.s.len T101 d101
  have hB106 : ∀ n, n ≤ 200 → (n + 1) * tt106.bytes < maxBytes := fun n hn => by rw [b106]; simp [maxBytes]; omega
  rw [call_F (by decide) h50 F50 rfl R50]; simp only [Tryd.f50, Option.getD]
  simp +contextual (maxSteps := 3000000) only [↓code_seq, ↓code_region, ↓code_block, ↓code_loop, ↓ops_nil, ↓ops_cons, run_none, ↓run0_v, ↓seqK_normal, ev_const, oc_int, o_assign, g_none]
  refine iterL_wp (Q := fun r => Tk h p R r) (N := R.ws.length) (Inv := fun k e h' => ∃ i L, k + i = R.ws.length ∧ OkR h' p { R with ws := L } ∧ Stf h h' (R.off p) (R.off p) ∧ L.length = R.ws.length ∧ L.take i = (R.ws.take i).map incW ∧ L.drop i = R.ws.drop i ∧ i ≤ R.ws.length ∧ e 0 = .ptr p 0 ∧ e 3 = .int .i64 (i : Nat)) ?_ ?_ (by omega)
  · rintro k e h' K' ⟨i, L, hk, hO, hS, hLl, ht, hd, hil, e0, e3⟩ hnext hexit
    have hp' : h'.get p = some (.cells [.int .i64 R.q, .int .i64 R.r, R.sv, R.wv, R.jv, R.qv, .int .i64 R.ap, .int .i64 R.sq] .own) := hO.g
    by_cases hi : i < R.ws.length
    · have c1 : (i : Int) < (R.ws.length : Int) := by omega
      obtain ⟨w, hw⟩ : ∃ w, R.ws[i]? = some w := ⟨R.ws[i], List.getElem?_eq_getElem hi⟩
      have hLx : L[i]? = some w := by
        have := congrArg (fun l => l[0]?) hd
        simp [List.getElem?_drop] at this
        rw [this]; exact hw
      have hwb' := hwb w (List.mem_of_getElem? hw)
      have hLm : (L.map rcw)[i]? = some (rcw w) := by rw [List.getElem?_map, hLx]; rfl
      have hrow : RowC 7 h' R.wv (L.map rcw).length (rcs (L.map rcw)) := by rw [List.length_map]; exact hO.w
      obtain ⟨b, cs, kk, g1, g2, g3, g4, g5, g5', g6, _⟩ := loadC hrow hLm
      obtain ⟨b2, h2, q1, q2, q3, q4, q5, _⟩ := storeC Rc.av 7 Rc.len T101 d101 T106 s106 (w := .int .i64 (w.w + 1)) (j := 1) (y := rcw (incW w)) T3 s3 hrow hLm (by decide) rfl rfl rfl
      have hbb := ind_eq q1 g1
      rw [hbb] at q1 q2
      rw [← List.map_set, List.length_map, show L.length = (L.set i (incW w)).length by rw [List.length_set]] at q3
      obtain ⟨hO2, hS2⟩ := hO.putW q4 q5 q3 (fun x hx => by
        rcases List.mem_or_eq_of_mem_set hx with g | g
        · exact hO.wd x g
        · rw [g]; exact hO.wd w (List.mem_of_getElem? hLx))
      have c7 : IntKind.i64.wrap ((i : Int) + 1) = ((i + 1 : Nat) : Int) := by rw [wrap_i64 (by omega) (by omega)]; rfl
      have c8 : IntKind.i64.wrap (w.w + 1) = w.w + 1 := wrap_i64 (by omega) (by omega)
      have g6' : cs[i * 7 + 1]? = some (.int .i64 w.w) := g6
      have htk : R.ws.take (i + 1) = R.ws.take i ++ [w] := by rw [List.take_add_one, hw]; rfl
      have hdd : L.drop (i + 1) = R.ws.drop (i + 1) := by
        have := congrArg (List.drop 1) hd
        rwa [List.drop_drop, List.drop_drop] at this
      simp +contextual (maxSteps := 3000000) only [↓code_skip, ↓code_seq, ↓code_region, ↓code_cond, ↓code_block, aCond_bool, ↓ops_nil, ↓ops_cons, run_none, ↓run0_v, ↓run0_h, ↓seqK_normal, ↓blkK_normal, put_same, put_ne, put_none, ev_tmp, ev_const, oc_int, o_move, o_assign, o_bin, o_len, o_load, o_store, o_nilCheck, o_fieldAddr, o_indexAddr, g_none, bin_add, bin_lss, nil_ptr, decide_eq_true_eq, ↓reduceIte, Nat.reduceEqDiff, not_false_eq_true, Nat.reduceAdd, reduceCtorEq, List.getElem?_cons_zero, List.getElem?_cons_succ, ne_eq, fa_ptr T103 p103_3 (by decide), load_p1 T101 a101, loadc_def, fa_ptr T106 p106_1 (by decide), load_p1 T3 a3, run0_h, e0, e3, c1, hp', hlenW, g1, g2, g6', c7, c8, q2]
      refine hnext (k - 1) _ _ (by omega) ⟨i + 1, L.set i (incW w), by omega, ?_, ?_, ?_, ?_, ?_, ?_, ?_, ?_⟩
      · exact hO2
      · exact hS.trans hS2
      · (rw [List.length_set]; exact hLl)
      · (rw [htk, List.map_append, ← ht, List.take_add_one, List.getElem?_set_self (by omega), List.take_set_of_le (Nat.le_refl _)]; rfl)
      · (rw [List.drop_set_of_lt (by omega)]; exact hdd)
      · omega
      · simp only [put_ne, not_false_eq_true, reduceCtorEq, ne_eq, e0]
      · simp only [put_same]
    · have c1 : ¬ (i : Int) < (R.ws.length : Int) := by omega
      have hL : L = R.ws.map incW := by
        rw [show i = R.ws.length by omega, List.take_length, List.take_of_length_le (by omega)] at ht
        exact ht
      subst hL
      obtain ⟨H1, hH1⟩ : ∃ H1, H1 = h' := ⟨_, rfl⟩
      have hO1 := hO
      have hS1 := hS
      rw [← hH1] at hO1 hS1
      simp +contextual (maxSteps := 3000000) only [↓code_seq, ↓code_region, ↓code_cond, ↓code_exit, aCond_bool, ↓ops_nil, ↓ops_cons, run_none, ↓run0_v, ↓seqK_normal, ↓seqK_exit, put_same, put_ne, ev_tmp, o_move, o_bin, o_len, o_load, o_nilCheck, o_fieldAddr, g_none, bin_lss, nil_ptr, decide_eq_true_eq, ↓reduceIte, Nat.reduceEqDiff, not_false_eq_true, Nat.reduceAdd, reduceCtorEq, List.getElem?_cons_zero, List.getElem?_cons_succ, ne_eq, fa_ptr T103 p103_3 (by decide), load_p1 T101 a101, loadc_def, e0, e3, c1, hp', hlenW]
      refine hexit _ _ _ (by simp) ?_
      simp +contextual (maxSteps := 3000000) only [↓code_seq, ↓code_region, ↓code_block, ↓code_loop, ↓ops_nil, ↓ops_cons, run_none, ↓run0_v, ↓seqK_normal, ↓blkK_exit, ev_const, oc_int, oc_nils, o_assign, g_none, ↓reduceIte]
      refine iterL_wp (Q := fun r => Tk h p R r) (N := R.ss.length) (Inv := fun k e h' => ∃ i v, k + i = R.ss.length ∧ RowC 7 h' v (((R.ss.take i).map incR).filter stayR).length (rcs (((R.ss.take i).map incR).filter stayR)) ∧ Fresh H1 v ∧ Grow H1 h' ∧ i ≤ R.ss.length ∧ e 0 = .ptr p 0 ∧ e 4 = v ∧ e 5 = .int .i64 (i : Nat)) ?_ ?_ (by omega)
      · rintro k e h' K' ⟨i, v, hk, hv, hf, hg, hil, e0, e4, e5⟩ hnext hexit
        have hOh := hO1.grow hg
        have hp' : h'.get p = some (.cells [.int .i64 R.q, .int .i64 R.r, R.sv, R.wv, R.jv, R.qv, .int .i64 R.ap, .int .i64 R.sq] .own) := hOh.g
        by_cases hi : i < R.ss.length
        · have c1 : (i : Int) < (R.ss.length : Int) := by omega
          obtain ⟨x, hx⟩ : ∃ x, R.ss[i]? = some x := ⟨R.ss[i], List.getElem?_eq_getElem hi⟩
          have hxb := hsb x (List.mem_of_getElem? hx)
          obtain ⟨b, cs, kk, g1, g2, g3, g4, g5, g5', g6, g7, _⟩ := loadC hOh.s hx
          have hone := hOh.oneS x (List.mem_of_getElem? hx)
          obtain ⟨hZ, y1, y2, y3, y4⟩ := store_c h' x hone
          obtain ⟨hY, hhY⟩ : ∃ hY, hY = hZ.put h'.next (.cells [.int .i64 x.who, .int .i64 x.wt, .int .i64 (x.si + 1), .int .i64 x.nx, .bool x.tk, x.dv, x.by_] .own) := ⟨_, rfl⟩
          have st2 : aStore T 3 (.ptr h'.next 2) (.int .i64 (x.si + 1)) hZ = some hY := by
            rw [hhY]; exact store_1 T3 s3 rfl rfl y3 (by simp)
          have gY : hY.get h'.next = some (.cells [.int .i64 x.who, .int .i64 x.wt, .int .i64 (x.si + 1), .int .i64 x.nx, .bool x.tk, x.dv, x.by_] .own) := by rw [hhY, AH.get_put, if_pos rfl]
          have hgY : Grow h' hY := ⟨by rw [hhY]; exact y4.1, fun c hc => by rw [hhY, AH.get_put, if_neg (by omega), y4.2 c hc]⟩
          have c7 : IntKind.i64.wrap ((i : Int) + 1) = ((i + 1 : Nat) : Int) := by rw [wrap_i64 (by omega) (by omega)]; rfl
          have c8 : IntKind.i64.wrap (x.si + 1) = x.si + 1 := wrap_i64 (by omega) (by omega)
          have htk : (R.ss.take (i + 1)).map incR = (R.ss.take i).map incR ++ [incR x] := by rw [List.take_add_one, hx, List.map_append]; rfl
          by_cases c2 : x.si + 1 < 30
          · have hfl : ((R.ss.take (i + 1)).map incR).filter stayR = ((R.ss.take i).map incR).filter stayR ++ [incR x] := by
              rw [htk, List.filter_append]; congr 1
              have : stayR (incR x) = true := by unfold stayR incR; simpa using c2
              simp [this]
            have hll : (((R.ss.take i).map incR).filter stayR).length ≤ 200 := by
              have := List.length_filter_le stayR ((R.ss.take i).map incR)
              rw [List.length_map, List.length_take] at this; omega
            obtain ⟨v', h2, q1, q2, q3, q4⟩ := push_new (new := [.int .i64 x.who, .int .i64 x.wt, .int .i64 (x.si + 1), .int .i64 x.nx, .bool x.tk, x.dv, x.by_]) T101 d101 T106 s106 (by decide) (by rw [b106]; decide) (hv.grow hgY) hf (hg.trans hgY) rfl hone (hB106 _ hll)
            have hcs : rcs (((R.ss.take i).map incR).filter stayR) ++ [.int .i64 x.who, .int .i64 x.wt, .int .i64 (x.si + 1), .int .i64 x.nx, .bool x.tk, x.dv, x.by_] = rcs (((R.ss.take (i + 1)).map incR).filter stayR) := by rw [hfl, rcs, rcs, fl_app]; simp [fl, Rc.av, incR]
            rw [hcs, show (((R.ss.take i).map incR).filter stayR).length + 1 = (((R.ss.take (i + 1)).map incR).filter stayR).length by rw [hfl]; simp] at q2
            simp +contextual (maxSteps := 3000000) only [↓code_skip, ↓code_seq, ↓code_region, ↓code_cond, ↓code_block, aCond_bool, ↓ops_nil, ↓ops_cons, run_none, ↓run0_v, ↓run0_h, ↓run0_r, ↓seqK_normal, ↓blkK_normal, put_same, put_ne, put_none, ev_tmp, ev_const, oc_int, o_move, o_assign, o_bin, o_len, o_alloc, o_buildSlice, o_load, o_store, o_nilCheck, o_fieldAddr, o_indexAddr, o_append, g_none, bin_add, bin_lss, nil_ptr, Option.bind_some, Option.map_some, decide_eq_true_eq, ↓reduceIte, Nat.reduceEqDiff, not_false_eq_true, Nat.reduceAdd, Nat.reduceMul, reduceCtorEq, Nat.succ_ne_self, List.getElem?_cons_zero, List.getElem?_cons_succ, List.map_cons, List.map_nil, List.append_nil, List.nil_append, and_true, Nat.le_refl, ne_eq, load_p1 T101 a101, loadc_def, load_p1 T3 a3, run0_h, fa_ptr T103 p103_2 (by decide), load_pA T106 a106, s106, loadn_def, alloc_t T106, z106, fa_ptr T106 p106_2 (by decide), buildSl T101 d101 T106 (n := 1) (by rw [s106]; decide), parts_eq, fillA, AV.cells, AH.splice, List.take_succ_cons, List.take_zero, List.take_nil, List.drop_succ_cons, List.drop_zero, List.drop_nil, List.length_cons, List.length_nil, repl, List.length_cons, List.length_nil, List.drop_zero, List.take_succ_cons, List.take_zero, List.take_nil, Nat.zero_add, e0, e4, e5, c1, hp', hlenS, g1, g2, g3, g4, y1, y3, c8, st2, gY, c2, q1, c7]
            refine hnext (k - 1) _ _ (by omega) ⟨i + 1, v', by omega, ?_, ?_, ?_, ?_, ?_, ?_, ?_⟩
            · exact q2
            · exact q3
            · exact q4
            · omega
            · simp only [put_ne, not_false_eq_true, reduceCtorEq, ne_eq, e0]
            · simp only [put_same, put_ne, Nat.reduceEqDiff, not_false_eq_true, ne_eq]
            · simp only [put_same]
          · have hfl : ((R.ss.take (i + 1)).map incR).filter stayR = ((R.ss.take i).map incR).filter stayR := by
              rw [htk, List.filter_append]
              have : stayR (incR x) = false := by unfold stayR incR; simpa using c2
              simp [this]
            simp +contextual (maxSteps := 3000000) only [↓code_skip, ↓code_seq, ↓code_region, ↓code_cond, ↓code_block, aCond_bool, ↓ops_nil, ↓ops_cons, run_none, ↓run0_v, ↓run0_h, ↓run0_r, ↓seqK_normal, ↓blkK_normal, put_same, put_ne, put_none, ev_tmp, ev_const, oc_int, o_move, o_assign, o_bin, o_len, o_alloc, o_load, o_store, o_nilCheck, o_fieldAddr, o_indexAddr, g_none, bin_add, bin_lss, nil_ptr, Option.map_some, decide_eq_true_eq, ↓reduceIte, Nat.reduceEqDiff, not_false_eq_true, reduceCtorEq, List.getElem?_cons_zero, List.getElem?_cons_succ, ne_eq, load_p1 T101 a101, loadc_def, load_p1 T3 a3, run0_h, fa_ptr T103 p103_2 (by decide), load_pA T106 a106, s106, loadn_def, alloc_t T106, z106, fa_ptr T106 p106_2 (by decide), Nat.zero_add, e0, e5, c1, hp', hlenS, g1, g2, g3, g4, y1, y3, c8, st2, gY, c2, c7]
            refine hnext (k - 1) _ _ (by omega) ⟨i + 1, v, by omega, ?_, ?_, ?_, ?_, ?_, ?_, ?_⟩
            · (rw [hfl]; exact hv.grow hgY)
            · exact hf
            · exact hg.trans hgY
            · omega
            · simp only [put_ne, not_false_eq_true, reduceCtorEq, ne_eq, e0]
            · simp only [put_ne, Nat.reduceEqDiff, not_false_eq_true, ne_eq, e4]
            · simp only [put_same]
        · have c1 : ¬ (i : Int) < (R.ss.length : Int) := by omega
          have htl : R.ss.take i = R.ss := List.take_of_length_le (by omega)
          rw [htl] at hv
          have hkl : (keptR R).length ≤ 200 := by
            have := List.length_filter_le stayR (R.ss.map incR)
            rw [List.length_map] at this; unfold keptR; omega
          obtain ⟨hO2, hS2⟩ := hO1.setS (v := v) (l := keptR R) hg hv hf (fun c hc => by
            obtain ⟨c0, h0, rfl⟩ := List.mem_map.1 (List.mem_filter.1 hc).1
            exact ⟨(hO1.sd c0 h0).2, .inr ⟨c0, h0, rfl, rfl⟩⟩)
          have hS3 := hS1.trans hS2
          have hst : aStore T 101 (.ptr p 2) v h' = some (h'.put p (.cells ({ R with ws := R.ws.map incW, sv := v, ss := keptR R } : Rf).cs .own)) :=
            store_1 (cs := R.cs) T101 s101 (RowC.cells hv).1 (RowC.cells hv).2 hp' (by simp [Rf.cs])
          obtain ⟨H2, hH2⟩ : ∃ H2, H2 = h'.put p (.cells ({ R with ws := R.ws.map incW, sv := v, ss := keptR R } : Rf).cs .own) := ⟨_, rfl⟩
          have hO2' : OkR H2 p { R with ws := R.ws.map incW, sv := v, ss := keptR R } := by rw [hH2]; exact hO2
          have hS3' : Stf h H2 (R.off p) (({ R with ws := R.ws.map incW, sv := v, ss := keptR R } : Rf).off p) := by rw [hH2]; exact hS3
          rw [← hH2] at hst
          simp +contextual (maxSteps := 3000000) only [↓code_seq, ↓code_region, ↓code_cond, ↓code_exit, aCond_bool, ↓ops_nil, ↓ops_cons, run_none, ↓run0_v, ↓seqK_normal, ↓seqK_exit, put_same, put_ne, ev_tmp, o_move, o_bin, o_len, o_load, o_nilCheck, o_fieldAddr, g_none, bin_lss, nil_ptr, decide_eq_true_eq, ↓reduceIte, Nat.reduceEqDiff, not_false_eq_true, Nat.reduceAdd, reduceCtorEq, List.getElem?_cons_zero, List.getElem?_cons_succ, ne_eq, load_p1 T101 a101, loadc_def, fa_ptr T103 p103_2 (by decide), e0, e5, c1, hp', hlenS]
          refine hexit _ _ _ (by simp) ?_
          simp +contextual (maxSteps := 3000000) only [↓code_seq, ↓code_region, ↓code_block, ↓code_loop, ↓ops_nil, ↓ops_cons, run_none, ↓run0_v, ↓run0_h, ↓seqK_normal, ↓blkK_exit, put_same, put_ne, put_none, ev_tmp, o_move, o_store, o_nilCheck, o_fieldAddr, g_none, nil_ptr, ↓reduceIte, Nat.reduceEqDiff, not_false_eq_true, Nat.reduceAdd, reduceCtorEq, ne_eq, run0_h, fa_ptr T103 p103_2 (by decide), e0, e4, hst]
          refine iterL_wp (Q := fun r => Tk h p R r) (N := R.ws.length) (Inv := fun k e h' => ∃ j R3 nw, k + j = R.ws.length ∧ OkR h' p R3 ∧ Stf h h' (R.off p) (R3.off p) ∧ (R3.q = R.q ∧ R3.r = R.r ∧ R3.ap = R.ap ∧ R3.sq = R.sq ∧ R3.js = R.js ∧ R3.qs = R.qs ∧ R3.jv = R.jv ∧ R3.qv = R.qv) ∧ R3.ss = keptR R ++ nw.map newR ∧ serveL (freeT (tp R)) (R.ws.map incW) = (nw ++ (serveL (freeT (tp R) - nw.length) R3.ws).1, (serveL (freeT (tp R) - nw.length) R3.ws).2) ∧ R3.ws.length + j = R.ws.length ∧ nw.length = j ∧ e 0 = .ptr p 0) ?_ ?_ (by omega)
          · rintro k e h' K' ⟨j, R3, nw, hk, hO, hS, hQ, hQs, hsv, hQl, hnw, e0⟩ hnext hexit
            have hp' : h'.get p = some (.cells [.int .i64 R3.q, .int .i64 R3.r, R3.sv, R3.wv, R3.jv, R3.qv, .int .i64 R3.ap, .int .i64 R3.sq] .own) := hO.g
            have lW : ∀ h, aLen T 101 R3.wv h = some (.int .i64 (R3.ws.length : Nat)) := fun h => hO.w.len T101 d101
            have lS : ∀ h, aLen T 101 R3.sv h = some (.int .i64 (R3.ss.length : Nat)) := fun h => hO.s.len T101 d101
            have hsl : R3.ss.length = (keptR R).length + nw.length := by rw [hQs, List.length_append, List.length_map]
            have hfr : freeT (tp R) = (max R.r 1).toNat - (keptR R).length := by
              have : (keptT (tp R)).length = (keptR R).length := by rw [← kept_tc, List.length_map]
              unfold freeT; rw [this]; rfl
            have hrr := hQ.2.1
            have fin : freeT (tp R) - nw.length = 0 ∨ R3.ws = [] → tp R3 = tickT (tp R) := fun hz => by
              rw [serve_end hz, List.append_nil] at hsv
              have hk := kept_tc R
              obtain ⟨z1, z2, z3, z4, z5, z6, _, _⟩ := hQ
              unfold tickT
              show (⟨R3.q, R3.r, R3.ap, R3.sq, R3.ws, R3.ss.map tc, R3.js.map jv, R3.qs.map jv⟩ : Tp) = ⟨R.q, R.r, R.ap, R.sq, (serveL (freeT (tp R)) (R.ws.map incW)).2, keptT (tp R) ++ (serveL (freeT (tp R)) (R.ws.map incW)).1.map newT, R.js.map jv, R.qs.map jv⟩
              rw [hsv, z1, z2, z3, z4, z5, z6, hQs, List.map_append, hk, List.map_map]
              rfl
            have hext : Ext h R R3 := Ext.sub fun v hv => by
              obtain ⟨_, _, _, _, z5, z6, z7, z8⟩ := hQ
              unfold Rf.im at hv ⊢
              rw [z5, z6, z7, z8, hQs, List.map_append, List.map_map] at hv
              simp only [List.mem_cons, List.mem_append] at hv ⊢
              rcases hv with g | g | g | g | g | g
              · exact .inl (.inl g)
              · exact .inl (.inr (.inl g))
              · exact .inl (.inr (.inr (.inl g)))
              · exact .inl (.inr (.inr (.inr (.inl g))))
              · obtain ⟨c, hc, rfl⟩ := List.mem_map.1 g
                obtain ⟨c0, h0, rfl⟩ := List.mem_map.1 (List.mem_filter.1 hc).1
                have hh : (incR c0).dv ∈ R.ss.map Rc.dv := List.mem_map_of_mem (f := Rc.dv) (a := c0) h0
                exact .inl (.inr (.inr (.inr (.inr hh))))
              · obtain ⟨w, _, rfl⟩ := List.mem_map.1 g
                exact .inr rfl
            by_cases d1 : (0 : Int) < (R3.ws.length : Int)
            · by_cases d2 : ((R3.ss.length : Nat) : Int) = 0
              · have hgo : 0 < freeT (tp R) - nw.length := by rw [hfr]; omega
                simp +contextual (maxSteps := 3000000) only [↓code_skip, ↓code_seq, ↓code_region, ↓code_cond, ↓code_block, ↓code_loop, aCond_bool, ↓ops_nil, ↓ops_cons, run_none, run_someT, run_someF, ↓run0_v, ↓seqK_normal, put_same, put_ne, ev_tmp, ev_const, oc_int, oc_bool, o_move, o_assign, o_pick, o_bin, o_len, o_load, o_nilCheck, o_fieldAddr, g_none, g_some, pick_bool, bin_eql, bin_gtr, nil_ptr, Option.bind_some, decide_eq_true_eq, ↓reduceIte, Nat.reduceEqDiff, not_false_eq_true, Nat.reduceAdd, reduceCtorEq, List.getElem?_cons_zero, List.getElem?_cons_succ, List.getElem?_toArray, gt_iff_lt, ne_eq, fa_ptr T103 p103_3 (by decide), load_p1 T101 a101, loadc_def, fa_ptr T103 p103_2 (by decide), e0, hp', lW, lS, d1, eq_true d2]
                have hnextO := hnext (k - 1)
                have hkO := hk
                have hOO := hO
                have hSO := hS
                obtain ⟨hh, hhh⟩ : ∃ hh, hh = h' := ⟨_, rfl⟩
                rw [← hhh] at hOO hSO
                refine iterL_wp (Q := fun r => Tk h p R r) (N := R3.ws.length - 1) (Inv := fun k e h' => ∃ z, k + z = R3.ws.length - 1 ∧ h' = hh ∧ z + 1 ≤ R3.ws.length ∧ e 0 = .ptr p 0 ∧ e 7 = .int .i64 (bestAt R3.ws (z + 1) : Nat) ∧ e 8 = .int .i64 ((z + 1 : Nat) : Int)) ?_ ?_ (by omega)
                · rintro k e h' K' ⟨z, hk, hhe, hy, e0, e7, e8⟩ hnext hexit
                  subst hhe
                  have hrow : RowC 7 h' R3.wv (R3.ws.map rcw).length (rcs (R3.ws.map rcw)) := by rw [List.length_map]; exact hOO.w
                  have hp' : h'.get p = some (.cells [.int .i64 R3.q, .int .i64 R3.r, R3.sv, R3.wv, R3.jv, R3.qv, .int .i64 R3.ap, .int .i64 R3.sq] .own) := hOO.g
                  obtain ⟨f, hf⟩ : ∃ f, f = bestAt R3.ws (z + 1) := ⟨_, rfl⟩
                  have hfl : f < R3.ws.length := by have := bestAt_lt R3.ws (z + 1) (by omega); omega
                  obtain ⟨wf, hwf⟩ : ∃ w, R3.ws[f]? = some w := ⟨R3.ws[f], List.getElem?_eq_getElem hfl⟩
                  have hwfm : (R3.ws.map rcw)[f]? = some (rcw wf) := by rw [List.getElem?_map, hwf]; rfl
                  obtain ⟨b', cs', kk', q1, q2, q3, q4, q5, q5', q6, q7, q8, q9, qa, qb, _⟩ := loadC hrow hwfm
                  have q6' : cs'[f * 7 + 1]? = some (.int .i64 wf.w) := q6
                  have q5'' : cs'[f * 7]? = some (.int .i64 wf.c) := q5
                  have q5w : cs'[f * 7 + 0]? = some (.int .i64 wf.c) := q5'
                  have qb' : cs'[f * 7 + 6]? = some wf.b := qb
                  rw [← hf] at e7
                  by_cases hi : z + 1 < R3.ws.length
                  · have d9 : ((z + 1 : Nat) : Int) < (R3.ws.length : Int) := by omega
                    obtain ⟨w, hw⟩ : ∃ w, R3.ws[z + 1]? = some w := ⟨R3.ws[z + 1], List.getElem?_eq_getElem hi⟩
                    have hwm : (R3.ws.map rcw)[z + 1]? = some (rcw w) := by rw [List.getElem?_map, hw]; rfl
                    obtain ⟨b, cs, kk, g1, g2, g3, g4, g5, g5', g6, _⟩ := loadC hrow hwm
                    have g6' : cs[(z + 1) * 7 + 1]? = some (.int .i64 w.w) := g6
                    have hb : bestAt R3.ws (z + 1 + 1) = if wf.w < w.w then z + 1 else f := by
                      rw [bestAt, ← hf]
                      simp only [wAt, hw, hwf, Option.map_some, Option.getD_some]
                    have c7 : IntKind.i64.wrap (((z + 1 : Nat) : Int) + 1) = ((z + 1 + 1 : Nat) : Int) := by rw [wrap_i64 (by omega) (by omega)]; rfl
                    by_cases d4' : wf.w < w.w
                    · rw [if_pos d4'] at hb
                      simp +contextual (maxSteps := 3000000) only [↓code_skip, ↓code_seq, ↓code_region, ↓code_cond, ↓code_block, aCond_bool, ↓ops_nil, ↓ops_cons, run_none, ↓run0_v, ↓seqK_normal, ↓blkK_normal, put_same, put_ne, ev_tmp, ev_const, oc_int, o_move, o_assign, o_bin, o_len, o_load, o_nilCheck, o_fieldAddr, o_indexAddr, g_none, bin_add, bin_lss, bin_gtr, nil_ptr, decide_eq_true_eq, ↓reduceIte, Nat.reduceEqDiff, not_false_eq_true, Nat.reduceAdd, reduceCtorEq, Nat.succ_ne_self, List.getElem?_cons_zero, List.getElem?_cons_succ, gt_iff_lt, ne_eq, fa_ptr T103 p103_3 (by decide), load_p1 T101 a101, loadc_def, fa_ptr T106 p106_1 (by decide), load_p1 T3 a3, e0, e7, e8, d9, hp', lW, g1, g2, g6', q1, q2, q6', d4', c7]
                      refine hnext (k - 1) _ _ (by omega) ⟨z + 1, by omega, ?_, ?_, ?_, ?_, ?_⟩
                      · rfl
                      · omega
                      · simp only [put_ne, not_false_eq_true, reduceCtorEq, ne_eq, e0]
                      · simp only [put_same, put_ne, Nat.reduceEqDiff, not_false_eq_true, ne_eq]; rw [hb]
                      · simp only [put_same]
                    · rw [if_neg d4'] at hb
                      simp +contextual (maxSteps := 3000000) only [↓code_skip, ↓code_seq, ↓code_region, ↓code_cond, ↓code_block, aCond_bool, ↓ops_nil, ↓ops_cons, run_none, ↓run0_v, ↓seqK_normal, ↓blkK_normal, put_same, put_ne, ev_tmp, ev_const, oc_int, o_move, o_assign, o_bin, o_len, o_load, o_nilCheck, o_fieldAddr, o_indexAddr, g_none, bin_add, bin_lss, bin_gtr, nil_ptr, decide_eq_true_eq, ↓reduceIte, Nat.reduceEqDiff, not_false_eq_true, Nat.reduceAdd, reduceCtorEq, List.getElem?_cons_zero, List.getElem?_cons_succ, gt_iff_lt, ne_eq, fa_ptr T103 p103_3 (by decide), load_p1 T101 a101, loadc_def, fa_ptr T106 p106_1 (by decide), load_p1 T3 a3, e0, e7, e8, d9, hp', lW, g1, g2, g6', q1, q2, q6', d4', c7]
                      refine hnext (k - 1) _ _ (by omega) ⟨z + 1, by omega, ?_, ?_, ?_, ?_, ?_⟩
                      · rfl
                      · omega
                      · simp only [put_ne, not_false_eq_true, reduceCtorEq, ne_eq, e0]
                      · simp only [put_ne, Nat.reduceEqDiff, not_false_eq_true, ne_eq, e7]; rw [hb]
                      · simp only [put_same]
                  · have d9 : ¬ ((z + 1 : Nat) : Int) < (R3.ws.length : Int) := by omega
                    have hyl : z + 1 = R3.ws.length := by omega
                    have hbest : f = best R3.ws := by rw [hf, hyl]; rfl
                    have hwfb := hOO.wd wf (List.mem_of_getElem? hwf)
                    have hcell : AV.cells wf.b = some [wf.b] := hwfb.one.2
                    obtain ⟨v', h2, r1, r2, r3, r4⟩ := hOO.pushS (newR wf) hwfb ⟨rfl, rfl⟩ (by omega)
                    obtain ⟨H4, hH4⟩ : ∃ H4, H4 = h2.put p (.cells ({ R3 with sv := v', ss := R3.ss ++ [newR wf] } : Rf).cs .own) := ⟨_, rfl⟩
                    rw [← hH4] at r2 r3 r4
                    have hp4 : H4.get p = some (.cells [.int .i64 R3.q, .int .i64 R3.r, v', R3.wv, R3.jv, R3.qv, .int .i64 R3.ap, .int .i64 R3.sq] .own) := r3.g
                    have hrow4 : RowC 7 H4 R3.wv (R3.ws.map rcw).length (rcs (R3.ws.map rcw)) := by rw [List.length_map]; exact r3.w
                    obtain ⟨v2, h5, t1, t2, t3, t4⟩ := run64 h64 (m + 394) f R3.wv (R3.ws.map rcw) H4 hrow4 (by rw [List.length_map]; exact hfl) (by rw [List.length_map]; omega) r3.oneW
                    rw [← map_eraseIdx, List.length_map] at t2
                    obtain ⟨hO6, hS6⟩ := r3.setW (l := R3.ws.eraseIdx f) t4 t2 t3 (fun x hx => hOO.wd x (mem_erase hx))
                    have hp5 : h5.get p = some (.cells ({ R3 with sv := v', ss := R3.ss ++ [newR wf] } : Rf).cs .own) := by rw [t4.2 p r3.lt]; exact r3.g
                    have hst2 : aStore T 101 (.ptr p 3) v2 h5 = some (h5.put p (.cells ({ R3 with sv := v', ss := R3.ss ++ [newR wf], wv := v2, ws := R3.ws.eraseIdx f } : Rf).cs .own)) :=
                      store_1 (cs := ({ R3 with sv := v', ss := R3.ss ++ [newR wf] } : Rf).cs) T101 s101 (RowC.cells t2).1 (RowC.cells t2).2 hp5 (by simp [Rf.cs])
                    have r1' : aAppend T 101 101 R3.sv (.sl h'.next 0 1 1 7 true) (h'.alloc (.cells [.int .i64 wf.c, .int .i64 0, .int .i64 0, .int .i64 1, .bool false, .nils, wf.b] .own)) = some (v', h2) := r1
                    simp +contextual (maxSteps := 3000000) only [↓code_seq, ↓code_region, ↓code_cond, ↓code_exit, aCond_bool, ↓ops_nil, ↓ops_cons, run_none, ↓run0_v, ↓seqK_normal, ↓seqK_exit, put_same, put_ne, ev_tmp, o_move, o_bin, o_len, o_load, o_nilCheck, o_fieldAddr, g_none, bin_lss, nil_ptr, decide_eq_true_eq, ↓reduceIte, Nat.reduceEqDiff, not_false_eq_true, Nat.reduceAdd, reduceCtorEq, List.getElem?_cons_zero, List.getElem?_cons_succ, ne_eq, fa_ptr T103 p103_3 (by decide), load_p1 T101 a101, loadc_def, e0, e8, d9, hp', lW]
                    refine hexit _ _ _ (by simp) ?_
                    rcases (show wf.b = .nilp ∨ ∃ b o, wf.b = .ptr b o from hwfb) with hv | ⟨b1, o1, hv⟩
                    · rw [hv] at qb' r1'
                      simp +contextual (maxSteps := 3000000) only [↓code_seq, ↓code_region, ↓ops_nil, ↓ops_cons, run_none, ↓run0_v, ↓run0_h, ↓run0_r, ↓seqK_normal, ↓blkK_normal, ↓blkK_exit, put_same, put_ne, put_none, ev_tmp, ev_const, ev_func, oc_int, o_move, o_call, o_build, o_buildSlice, o_load, o_store, o_nilCheck, o_fieldAddr, o_indexAddr, o_append, g_none, nil_ptr, Option.bind_some, Option.map_some, ↓reduceIte, Nat.reduceEqDiff, not_false_eq_true, Nat.reduceAdd, Nat.reduceMul, reduceCtorEq, List.getElem?_cons_zero, List.getElem?_cons_succ, List.map_cons, List.map_nil, List.append_nil, List.nil_append, List.cons_append, and_true, Nat.reduceLeDiff, Nat.le_refl, ne_eq, fa_ptr T103 p103_3 (by decide), load_p1 T101 a101, loadc_def, load_p1 T3 a3, run0_h, fa_ptr T103 p103_2 (by decide), s106, z106, buildSl T101 d101 T106 (n := 1) (by rw [s106]; decide), parts_eq, fillA, AV.cells, AH.splice, List.take_succ_cons, List.take_zero, List.drop_succ_cons, List.drop_zero, List.drop_nil, List.length_cons, List.length_nil, repl, fa_ptr T106 p106_0 (by decide), fa_ptr T106 p106_6 (by decide), load_p1 T40 a40, build_struct T106 d106, p106_0, p106_3, p106_6, e0, e7, hp', q1, q2, q5w, qb', r1', r2, hp4, t1, hst2, callV_fn (g := 64) (by decide)]
                      refine hnextO _ _ (by omega) ⟨j + 1, { R3 with sv := v', ss := R3.ss ++ [newR wf], wv := v2, ws := R3.ws.eraseIdx f }, nw ++ [wf], by omega, hO6, (hSO.trans r4).trans hS6, hQ, ?_, ?_, ?_, ?_, ?_⟩
                      · show R3.ss ++ [newR wf] = keptR R ++ (nw ++ [wf]).map newR
                        rw [hQs, List.map_append, List.append_assoc]; rfl
                      · rw [hsv, serve_next hgo (by rw [← hbest]; exact hwf), ← hbest]
                        show (nw ++ wf :: _, _) = (nw ++ [wf] ++ _, _)
                        rw [List.length_append, List.append_assoc]
                        rfl
                      · show (R3.ws.eraseIdx f).length + (j + 1) = R.ws.length
                        rw [List.length_eraseIdx, if_pos hfl]; omega
                      · rw [List.length_append, hnw]; rfl
                      · simp only [put_ne, not_false_eq_true, reduceCtorEq, ne_eq, e0]
                    · rw [hv] at qb' r1'
                      simp +contextual (maxSteps := 3000000) only [↓code_seq, ↓code_region, ↓ops_nil, ↓ops_cons, run_none, ↓run0_v, ↓run0_h, ↓run0_r, ↓seqK_normal, ↓blkK_normal, ↓blkK_exit, put_same, put_ne, put_none, ev_tmp, ev_const, ev_func, oc_int, o_move, o_call, o_build, o_buildSlice, o_load, o_store, o_nilCheck, o_fieldAddr, o_indexAddr, o_append, g_none, nil_ptr, Option.bind_some, Option.map_some, ↓reduceIte, Nat.reduceEqDiff, not_false_eq_true, Nat.reduceAdd, Nat.reduceMul, reduceCtorEq, List.getElem?_cons_zero, List.getElem?_cons_succ, List.map_cons, List.map_nil, List.append_nil, List.nil_append, List.cons_append, and_true, Nat.reduceLeDiff, Nat.le_refl, ne_eq, fa_ptr T103 p103_3 (by decide), load_p1 T101 a101, loadc_def, load_p1 T3 a3, run0_h, fa_ptr T103 p103_2 (by decide), s106, z106, buildSl T101 d101 T106 (n := 1) (by rw [s106]; decide), parts_eq, fillA, AV.cells, AH.splice, List.take_succ_cons, List.take_zero, List.drop_succ_cons, List.drop_zero, List.drop_nil, List.length_cons, List.length_nil, repl, fa_ptr T106 p106_0 (by decide), fa_ptr T106 p106_6 (by decide), load_p1 T40 a40, build_struct T106 d106, p106_0, p106_3, p106_6, e0, e7, hp', q1, q2, q5w, qb', r1', r2, hp4, t1, hst2, callV_fn (g := 64) (by decide)]
                      refine hnextO _ _ (by omega) ⟨j + 1, { R3 with sv := v', ss := R3.ss ++ [newR wf], wv := v2, ws := R3.ws.eraseIdx f }, nw ++ [wf], by omega, hO6, (hSO.trans r4).trans hS6, hQ, ?_, ?_, ?_, ?_, ?_⟩
                      · show R3.ss ++ [newR wf] = keptR R ++ (nw ++ [wf]).map newR
                        rw [hQs, List.map_append, List.append_assoc]; rfl
                      · rw [hsv, serve_next hgo (by rw [← hbest]; exact hwf), ← hbest]
                        show (nw ++ wf :: _, _) = (nw ++ [wf] ++ _, _)
                        rw [List.length_append, List.append_assoc]
                        rfl
                      · show (R3.ws.eraseIdx f).length + (j + 1) = R.ws.length
                        rw [List.length_eraseIdx, if_pos hfl]; omega
                      · rw [List.length_append, hnw]; rfl
                      · simp only [put_ne, not_false_eq_true, reduceCtorEq, ne_eq, e0]
                · refine ⟨0, by omega, ?_, ?_, ?_, ?_, ?_⟩
                  · exact hhh.symm
                  · omega
                  · simp only [put_ne, not_false_eq_true, reduceCtorEq, ne_eq, e0]
                  · simp only [put_same, put_ne, Nat.reduceEqDiff, not_false_eq_true, Nat.reduceAdd, ne_eq]; (simp [bestAt])
                  · simp only [put_same, Nat.reduceAdd]; rfl
              · by_cases d3 : ((R3.ss.length : Nat) : Int) < R3.r
                · have hgo : 0 < freeT (tp R) - nw.length := by rw [hfr]; omega
                  simp +contextual (maxSteps := 3000000) only [↓code_skip, ↓code_seq, ↓code_region, ↓code_cond, ↓code_block, ↓code_loop, aCond_bool, ↓ops_nil, ↓ops_cons, run_none, run_someT, run_someF, ↓run0_v, ↓seqK_normal, put_same, put_ne, ev_tmp, ev_const, oc_int, oc_bool, o_move, o_assign, o_pick, o_bin, o_len, o_load, o_nilCheck, o_fieldAddr, g_none, g_some, pick_bool, bin_eql, bin_lss, bin_gtr, nil_ptr, Option.bind_some, decide_eq_true_eq, ↓reduceIte, Nat.reduceEqDiff, not_false_eq_true, Nat.reduceAdd, reduceCtorEq, List.getElem?_cons_zero, List.getElem?_cons_succ, List.getElem?_toArray, gt_iff_lt, ne_eq, fa_ptr T103 p103_3 (by decide), load_p1 T101 a101, loadc_def, load_p1 T3 a3, fa_ptr T103 p103_2 (by decide), fa_ptr T103 p103_1 (by decide), e0, hp', lW, lS, d1, d2, d3]
                  have hnextO := hnext (k - 1)
                  have hkO := hk
                  have hOO := hO
                  have hSO := hS
                  obtain ⟨hh, hhh⟩ : ∃ hh, hh = h' := ⟨_, rfl⟩
                  rw [← hhh] at hOO hSO
                  refine iterL_wp (Q := fun r => Tk h p R r) (N := R3.ws.length - 1) (Inv := fun k e h' => ∃ z, k + z = R3.ws.length - 1 ∧ h' = hh ∧ z + 1 ≤ R3.ws.length ∧ e 0 = .ptr p 0 ∧ e 7 = .int .i64 (bestAt R3.ws (z + 1) : Nat) ∧ e 8 = .int .i64 ((z + 1 : Nat) : Int)) ?_ ?_ (by omega)
                  · rintro k e h' K' ⟨z, hk, hhe, hy, e0, e7, e8⟩ hnext hexit
                    subst hhe
                    have hrow : RowC 7 h' R3.wv (R3.ws.map rcw).length (rcs (R3.ws.map rcw)) := by rw [List.length_map]; exact hOO.w
                    have hp' : h'.get p = some (.cells [.int .i64 R3.q, .int .i64 R3.r, R3.sv, R3.wv, R3.jv, R3.qv, .int .i64 R3.ap, .int .i64 R3.sq] .own) := hOO.g
                    obtain ⟨f, hf⟩ : ∃ f, f = bestAt R3.ws (z + 1) := ⟨_, rfl⟩
                    have hfl : f < R3.ws.length := by have := bestAt_lt R3.ws (z + 1) (by omega); omega
                    obtain ⟨wf, hwf⟩ : ∃ w, R3.ws[f]? = some w := ⟨R3.ws[f], List.getElem?_eq_getElem hfl⟩
                    have hwfm : (R3.ws.map rcw)[f]? = some (rcw wf) := by rw [List.getElem?_map, hwf]; rfl
                    obtain ⟨b', cs', kk', q1, q2, q3, q4, q5, q5', q6, q7, q8, q9, qa, qb, _⟩ := loadC hrow hwfm
                    have q6' : cs'[f * 7 + 1]? = some (.int .i64 wf.w) := q6
                    have q5'' : cs'[f * 7]? = some (.int .i64 wf.c) := q5
                    have q5w : cs'[f * 7 + 0]? = some (.int .i64 wf.c) := q5'
                    have qb' : cs'[f * 7 + 6]? = some wf.b := qb
                    rw [← hf] at e7
                    by_cases hi : z + 1 < R3.ws.length
                    · have d9 : ((z + 1 : Nat) : Int) < (R3.ws.length : Int) := by omega
                      obtain ⟨w, hw⟩ : ∃ w, R3.ws[z + 1]? = some w := ⟨R3.ws[z + 1], List.getElem?_eq_getElem hi⟩
                      have hwm : (R3.ws.map rcw)[z + 1]? = some (rcw w) := by rw [List.getElem?_map, hw]; rfl
                      obtain ⟨b, cs, kk, g1, g2, g3, g4, g5, g5', g6, _⟩ := loadC hrow hwm
                      have g6' : cs[(z + 1) * 7 + 1]? = some (.int .i64 w.w) := g6
                      have hb : bestAt R3.ws (z + 1 + 1) = if wf.w < w.w then z + 1 else f := by
                        rw [bestAt, ← hf]
                        simp only [wAt, hw, hwf, Option.map_some, Option.getD_some]
                      have c7 : IntKind.i64.wrap (((z + 1 : Nat) : Int) + 1) = ((z + 1 + 1 : Nat) : Int) := by rw [wrap_i64 (by omega) (by omega)]; rfl
                      by_cases d4' : wf.w < w.w
                      · rw [if_pos d4'] at hb
                        simp +contextual (maxSteps := 3000000) only [↓code_skip, ↓code_seq, ↓code_region, ↓code_cond, ↓code_block, aCond_bool, ↓ops_nil, ↓ops_cons, run_none, ↓run0_v, ↓seqK_normal, ↓blkK_normal, put_same, put_ne, ev_tmp, ev_const, oc_int, o_move, o_assign, o_bin, o_len, o_load, o_nilCheck, o_fieldAddr, o_indexAddr, g_none, bin_add, bin_lss, bin_gtr, nil_ptr, decide_eq_true_eq, ↓reduceIte, Nat.reduceEqDiff, not_false_eq_true, Nat.reduceAdd, reduceCtorEq, Nat.succ_ne_self, List.getElem?_cons_zero, List.getElem?_cons_succ, gt_iff_lt, ne_eq, fa_ptr T103 p103_3 (by decide), load_p1 T101 a101, loadc_def, fa_ptr T106 p106_1 (by decide), load_p1 T3 a3, e0, e7, e8, d9, hp', lW, g1, g2, g6', q1, q2, q6', d4', c7]
                        refine hnext (k - 1) _ _ (by omega) ⟨z + 1, by omega, ?_, ?_, ?_, ?_, ?_⟩
                        · rfl
                        · omega
                        · simp only [put_ne, not_false_eq_true, reduceCtorEq, ne_eq, e0]
                        · simp only [put_same, put_ne, Nat.reduceEqDiff, not_false_eq_true, ne_eq]; rw [hb]
                        · simp only [put_same]
                      · rw [if_neg d4'] at hb
                        simp +contextual (maxSteps := 3000000) only [↓code_skip, ↓code_seq, ↓code_region, ↓code_cond, ↓code_block, aCond_bool, ↓ops_nil, ↓ops_cons, run_none, ↓run0_v, ↓seqK_normal, ↓blkK_normal, put_same, put_ne, ev_tmp, ev_const, oc_int, o_move, o_assign, o_bin, o_len, o_load, o_nilCheck, o_fieldAddr, o_indexAddr, g_none, bin_add, bin_lss, bin_gtr, nil_ptr, decide_eq_true_eq, ↓reduceIte, Nat.reduceEqDiff, not_false_eq_true, Nat.reduceAdd, reduceCtorEq, List.getElem?_cons_zero, List.getElem?_cons_succ, gt_iff_lt, ne_eq, fa_ptr T103 p103_3 (by decide), load_p1 T101 a101, loadc_def, fa_ptr T106 p106_1 (by decide), load_p1 T3 a3, e0, e7, e8, d9, hp', lW, g1, g2, g6', q1, q2, q6', d4', c7]
                        refine hnext (k - 1) _ _ (by omega) ⟨z + 1, by omega, ?_, ?_, ?_, ?_, ?_⟩
                        · rfl
                        · omega
                        · simp only [put_ne, not_false_eq_true, reduceCtorEq, ne_eq, e0]
                        · simp only [put_ne, Nat.reduceEqDiff, not_false_eq_true, ne_eq, e7]; rw [hb]
                        · simp only [put_same]
                    · have d9 : ¬ ((z + 1 : Nat) : Int) < (R3.ws.length : Int) := by omega
                      have hyl : z + 1 = R3.ws.length := by omega
                      have hbest : f = best R3.ws := by rw [hf, hyl]; rfl
                      have hwfb := hOO.wd wf (List.mem_of_getElem? hwf)
                      have hcell : AV.cells wf.b = some [wf.b] := hwfb.one.2
                      obtain ⟨v', h2, r1, r2, r3, r4⟩ := hOO.pushS (newR wf) hwfb ⟨rfl, rfl⟩ (by omega)
                      obtain ⟨H4, hH4⟩ : ∃ H4, H4 = h2.put p (.cells ({ R3 with sv := v', ss := R3.ss ++ [newR wf] } : Rf).cs .own) := ⟨_, rfl⟩
                      rw [← hH4] at r2 r3 r4
                      have hp4 : H4.get p = some (.cells [.int .i64 R3.q, .int .i64 R3.r, v', R3.wv, R3.jv, R3.qv, .int .i64 R3.ap, .int .i64 R3.sq] .own) := r3.g
                      have hrow4 : RowC 7 H4 R3.wv (R3.ws.map rcw).length (rcs (R3.ws.map rcw)) := by rw [List.length_map]; exact r3.w
                      obtain ⟨v2, h5, t1, t2, t3, t4⟩ := run64 h64 (m + 394) f R3.wv (R3.ws.map rcw) H4 hrow4 (by rw [List.length_map]; exact hfl) (by rw [List.length_map]; omega) r3.oneW
                      rw [← map_eraseIdx, List.length_map] at t2
                      obtain ⟨hO6, hS6⟩ := r3.setW (l := R3.ws.eraseIdx f) t4 t2 t3 (fun x hx => hOO.wd x (mem_erase hx))
                      have hp5 : h5.get p = some (.cells ({ R3 with sv := v', ss := R3.ss ++ [newR wf] } : Rf).cs .own) := by rw [t4.2 p r3.lt]; exact r3.g
                      have hst2 : aStore T 101 (.ptr p 3) v2 h5 = some (h5.put p (.cells ({ R3 with sv := v', ss := R3.ss ++ [newR wf], wv := v2, ws := R3.ws.eraseIdx f } : Rf).cs .own)) :=
                        store_1 (cs := ({ R3 with sv := v', ss := R3.ss ++ [newR wf] } : Rf).cs) T101 s101 (RowC.cells t2).1 (RowC.cells t2).2 hp5 (by simp [Rf.cs])
                      have r1' : aAppend T 101 101 R3.sv (.sl h'.next 0 1 1 7 true) (h'.alloc (.cells [.int .i64 wf.c, .int .i64 0, .int .i64 0, .int .i64 1, .bool false, .nils, wf.b] .own)) = some (v', h2) := r1
                      simp +contextual (maxSteps := 3000000) only [↓code_seq, ↓code_region, ↓code_cond, ↓code_exit, aCond_bool, ↓ops_nil, ↓ops_cons, run_none, ↓run0_v, ↓seqK_normal, ↓seqK_exit, put_same, put_ne, ev_tmp, o_move, o_bin, o_len, o_load, o_nilCheck, o_fieldAddr, g_none, bin_lss, nil_ptr, decide_eq_true_eq, ↓reduceIte, Nat.reduceEqDiff, not_false_eq_true, Nat.reduceAdd, reduceCtorEq, List.getElem?_cons_zero, List.getElem?_cons_succ, ne_eq, fa_ptr T103 p103_3 (by decide), load_p1 T101 a101, loadc_def, e0, e8, d9, hp', lW]
                      refine hexit _ _ _ (by simp) ?_
                      rcases (show wf.b = .nilp ∨ ∃ b o, wf.b = .ptr b o from hwfb) with hv | ⟨b1, o1, hv⟩
                      · rw [hv] at qb' r1'
                        simp +contextual (maxSteps := 3000000) only [↓code_seq, ↓code_region, ↓ops_nil, ↓ops_cons, run_none, ↓run0_v, ↓run0_h, ↓run0_r, ↓seqK_normal, ↓blkK_normal, ↓blkK_exit, put_same, put_ne, put_none, ev_tmp, ev_const, ev_func, oc_int, o_move, o_call, o_build, o_buildSlice, o_load, o_store, o_nilCheck, o_fieldAddr, o_indexAddr, o_append, g_none, nil_ptr, Option.bind_some, Option.map_some, ↓reduceIte, Nat.reduceEqDiff, not_false_eq_true, Nat.reduceAdd, Nat.reduceMul, reduceCtorEq, List.getElem?_cons_zero, List.getElem?_cons_succ, List.map_cons, List.map_nil, List.append_nil, List.nil_append, List.cons_append, and_true, Nat.reduceLeDiff, Nat.le_refl, ne_eq, fa_ptr T103 p103_3 (by decide), load_p1 T101 a101, loadc_def, load_p1 T3 a3, run0_h, fa_ptr T103 p103_2 (by decide), s106, z106, buildSl T101 d101 T106 (n := 1) (by rw [s106]; decide), parts_eq, fillA, AV.cells, AH.splice, List.take_succ_cons, List.take_zero, List.drop_succ_cons, List.drop_zero, List.drop_nil, List.length_cons, List.length_nil, repl, fa_ptr T106 p106_0 (by decide), fa_ptr T106 p106_6 (by decide), load_p1 T40 a40, build_struct T106 d106, p106_0, p106_3, p106_6, e0, e7, hp', q1, q2, q5w, qb', r1', r2, hp4, t1, hst2, callV_fn (g := 64) (by decide)]
                        refine hnextO _ _ (by omega) ⟨j + 1, { R3 with sv := v', ss := R3.ss ++ [newR wf], wv := v2, ws := R3.ws.eraseIdx f }, nw ++ [wf], by omega, hO6, (hSO.trans r4).trans hS6, hQ, ?_, ?_, ?_, ?_, ?_⟩
                        · show R3.ss ++ [newR wf] = keptR R ++ (nw ++ [wf]).map newR
                          rw [hQs, List.map_append, List.append_assoc]; rfl
                        · rw [hsv, serve_next hgo (by rw [← hbest]; exact hwf), ← hbest]
                          show (nw ++ wf :: _, _) = (nw ++ [wf] ++ _, _)
                          rw [List.length_append, List.append_assoc]
                          rfl
                        · show (R3.ws.eraseIdx f).length + (j + 1) = R.ws.length
                          rw [List.length_eraseIdx, if_pos hfl]; omega
                        · rw [List.length_append, hnw]; rfl
                        · simp only [put_ne, not_false_eq_true, reduceCtorEq, ne_eq, e0]
                      · rw [hv] at qb' r1'
                        simp +contextual (maxSteps := 3000000) only [↓code_seq, ↓code_region, ↓ops_nil, ↓ops_cons, run_none, ↓run0_v, ↓run0_h, ↓run0_r, ↓seqK_normal, ↓blkK_normal, ↓blkK_exit, put_same, put_ne, put_none, ev_tmp, ev_const, ev_func, oc_int, o_move, o_call, o_build, o_buildSlice, o_load, o_store, o_nilCheck, o_fieldAddr, o_indexAddr, o_append, g_none, nil_ptr, Option.bind_some, Option.map_some, ↓reduceIte, Nat.reduceEqDiff, not_false_eq_true, Nat.reduceAdd, Nat.reduceMul, reduceCtorEq, List.getElem?_cons_zero, List.getElem?_cons_succ, List.map_cons, List.map_nil, List.append_nil, List.nil_append, List.cons_append, and_true, Nat.reduceLeDiff, Nat.le_refl, ne_eq, fa_ptr T103 p103_3 (by decide), load_p1 T101 a101, loadc_def, load_p1 T3 a3, run0_h, fa_ptr T103 p103_2 (by decide), s106, z106, buildSl T101 d101 T106 (n := 1) (by rw [s106]; decide), parts_eq, fillA, AV.cells, AH.splice, List.take_succ_cons, List.take_zero, List.drop_succ_cons, List.drop_zero, List.drop_nil, List.length_cons, List.length_nil, repl, fa_ptr T106 p106_0 (by decide), fa_ptr T106 p106_6 (by decide), load_p1 T40 a40, build_struct T106 d106, p106_0, p106_3, p106_6, e0, e7, hp', q1, q2, q5w, qb', r1', r2, hp4, t1, hst2, callV_fn (g := 64) (by decide)]
                        refine hnextO _ _ (by omega) ⟨j + 1, { R3 with sv := v', ss := R3.ss ++ [newR wf], wv := v2, ws := R3.ws.eraseIdx f }, nw ++ [wf], by omega, hO6, (hSO.trans r4).trans hS6, hQ, ?_, ?_, ?_, ?_, ?_⟩
                        · show R3.ss ++ [newR wf] = keptR R ++ (nw ++ [wf]).map newR
                          rw [hQs, List.map_append, List.append_assoc]; rfl
                        · rw [hsv, serve_next hgo (by rw [← hbest]; exact hwf), ← hbest]
                          show (nw ++ wf :: _, _) = (nw ++ [wf] ++ _, _)
                          rw [List.length_append, List.append_assoc]
                          rfl
                        · show (R3.ws.eraseIdx f).length + (j + 1) = R.ws.length
                          rw [List.length_eraseIdx, if_pos hfl]; omega
                        · rw [List.length_append, hnw]; rfl
                        · simp only [put_ne, not_false_eq_true, reduceCtorEq, ne_eq, e0]
                  · refine ⟨0, by omega, ?_, ?_, ?_, ?_, ?_⟩
                    · exact hhh.symm
                    · omega
                    · simp only [put_ne, not_false_eq_true, reduceCtorEq, ne_eq, e0]
                    · simp only [put_same, put_ne, Nat.reduceEqDiff, not_false_eq_true, Nat.reduceAdd, ne_eq]; (simp [bestAt])
                    · simp only [put_same, Nat.reduceAdd]; rfl
                · simp +contextual (maxSteps := 3000000) only [↓code_seq, ↓code_region, ↓code_cond, ↓code_exit, aCond_bool, ↓ops_nil, ↓ops_cons, run_none, run_someT, run_someF, ↓run0_v, ↓seqK_normal, ↓seqK_exit, put_same, put_ne, ev_tmp, ev_const, oc_int, oc_bool, o_move, o_pick, o_bin, o_len, o_load, o_nilCheck, o_fieldAddr, g_none, g_some, pick_bool, bin_eql, bin_lss, bin_gtr, nil_ptr, Option.bind_some, decide_eq_true_eq, ↓reduceIte, Nat.reduceEqDiff, not_false_eq_true, Nat.reduceAdd, reduceCtorEq, List.getElem?_cons_zero, List.getElem?_cons_succ, List.getElem?_toArray, gt_iff_lt, ne_eq, fa_ptr T103 p103_3 (by decide), load_p1 T101 a101, loadc_def, load_p1 T3 a3, fa_ptr T103 p103_2 (by decide), fa_ptr T103 p103_1 (by decide), e0, hp', lW, lS, d1, d2, d3]
                  refine hexit _ _ _ (by simp) ?_
                  simp +contextual (maxSteps := 3000000) only [↓code_seq, ↓code_region, ↓code_ret, ↓ops_nil, ↓ops_cons, run_none, ↓run0_v, ↓seqK_normal, ↓blkK_exit, ↓retK_ret, put_same, ev_const, oc_int, o_assign, g_none, resultsOf, oneOrAll, Option.map_some, ↓reduceIte]
                  exact ⟨R3, h', rfl, hO, fin (.inl (by rw [hfr]; omega)), hS, hext⟩
            · have hwe : R3.ws = [] := List.length_eq_zero_iff.1 (by omega)
              simp +contextual (maxSteps := 3000000) only [↓code_seq, ↓code_region, ↓code_cond, ↓code_exit, aCond_bool, ↓ops_nil, ↓ops_cons, run_none, run_someT, run_tup, ↓run0_v, ↓seqK_normal, ↓seqK_exit, put_same, put_ne, ev_tmp, ev_const, oc_int, oc_bool, o_move, o_pick, o_bin, o_len, o_load, o_nilCheck, o_fieldAddr, g_none, g_some, pick_bool, bin_gtr, nil_ptr, Option.bind_some, decide_eq_true_eq, ↓reduceIte, Nat.reduceEqDiff, not_false_eq_true, Nat.reduceAdd, reduceCtorEq, List.getElem?_cons_zero, List.getElem?_cons_succ, List.getElem?_toArray, Bool.false_eq_true, gt_iff_lt, ne_eq, fa_ptr T103 p103_3 (by decide), load_p1 T101 a101, loadc_def, e0, hp', lW, d1]
              refine hexit _ _ _ (by simp) ?_
              simp +contextual (maxSteps := 3000000) only [↓code_seq, ↓code_region, ↓code_ret, ↓ops_nil, ↓ops_cons, run_none, ↓run0_v, ↓seqK_normal, ↓blkK_exit, ↓retK_ret, put_same, ev_const, oc_int, o_assign, g_none, resultsOf, oneOrAll, Option.map_some, ↓reduceIte]
              exact ⟨R3, h', rfl, hO, fin (.inr hwe), hS, hext⟩
          · refine ⟨0, { R with ws := R.ws.map incW, sv := v, ss := keptR R }, [], by omega, ?_, ?_, ?_, ?_, ?_, ?_, ?_, ?_⟩
            · exact hO2'
            · exact hS3'
            · exact ⟨rfl, rfl, rfl, rfl, rfl, rfl, rfl, rfl⟩
            · (show keptR R = keptR R ++ []; rw [List.append_nil])
            · (rw [List.nil_append]; rfl)
            · (show (R.ws.map incW).length + 0 = R.ws.length; rw [List.length_map]; rfl)
            · rfl
            · simp only [put_ne, not_false_eq_true, reduceCtorEq, ne_eq, e0]
      · refine ⟨0, .nils, by omega, ?_, ?_, ?_, ?_, ?_, ?_, ?_⟩
        · exact RowC.nil _ _
        · (intro b o l k z x e; cases e)
        · (rw [hH1]; exact Grow.refl _)
        · omega
        · simp only [put_ne, not_false_eq_true, reduceCtorEq, ne_eq, e0]
        · simp only [put_same, put_ne, Nat.reduceEqDiff, not_false_eq_true, ne_eq]
        · simp only [put_same]; rfl
  · refine ⟨0, R.ws, by omega, ?_, ?_, ?_, ?_, ?_, ?_, ?_, ?_⟩
    · exact hR
    · exact Stf.refl _ _
    · rfl
    · rfl
    · rfl
    · omega
    · simp only [put_ne, env0_at, Option.getD_some, not_false_eq_true, reduceCtorEq, List.getElem?_cons_zero, ne_eq]
    · simp only [put_same]; rfl
end Go.AM.X
