/- The document's printer: Send. Own work. -/
import Derived.Test.YtleefbnanliliaaDoorPpgN
namespace Go.AM.X
open Go Go.AM Go.Proofs Go.AM.Sx
set_option maxHeartbeats 32000000
set_option maxRecDepth 100000
set_option linter.unusedVariables false
theorem F48 : F 48 = some { body := (Tryd.f48.body.getD .skip), results := Tryd.f48.results.toList, rf := false } := by kernel_rfl
theorem R48 : regsOk T (Tryd.f48.body.getD .skip) = true := by kernel_rfl
theorem bef_yes {n x : Int} (h : n = befT x) : ((x - 1 = 0) = True ∧ (n = 255) = True) ∨ ((x - 1 = 0) = False ∧ (n = x - 1) = True) := by
  unfold befT at h
  by_cases c : x - 1 = 0
  · rw [if_pos c] at h; exact .inl ⟨eq_true c, eq_true h⟩
  · rw [if_neg c] at h; exact .inr ⟨eq_false c, eq_true h⟩
theorem bef_no {n x : Int} {b : Bool} (h : ¬ (n = befT x ∧ b = true)) : ((x - 1 = 0) = True ∧ (n = 255) = True ∧ b = false) ∨ ((x - 1 = 0) = True ∧ (n = 255) = False ∧ ((0 : Nat) = 0) = True) ∨
    ((x - 1 = 0) = False ∧ (n = x - 1) = True ∧ b = false) ∨ ((x - 1 = 0) = False ∧ (n = x - 1) = False ∧ ((0 : Nat) = 0) = True) := by
  unfold befT at h
  have z : ((0 : Nat) = 0) = True := eq_self 0
  by_cases c : x - 1 = 0
  · rw [if_pos c] at h
    by_cases d : n = 255
    · exact .inl ⟨eq_true c, eq_true d, by cases b with | false => rfl | true => exact absurd ⟨d, rfl⟩ h⟩
    · exact .inr (.inl ⟨eq_true c, eq_false d, z⟩)
  · rw [if_neg c] at h
    by_cases d : n = x - 1
    · exact .inr (.inr (.inl ⟨eq_false c, eq_true d, by cases b with | false => rfl | true => exact absurd ⟨d, rfl⟩ h⟩))
    · exact .inr (.inr (.inr ⟨eq_false c, eq_false d, z⟩))
theorem L65t {I : Nat → Option (List AV → AH → Rs)} (h63 : I 63 = none) (h64 : I 64 = none) (h65 : I 65 = none) (m p : Nat) (c n : Int) (x : AV) (Q : Tp) (off : Nat → Prop) (h : AH) (new : List Int) (hQ : OkT h p Q off) (hx : Pc off h x new) (hb : ∀ s ∈ Q.ss, (1 ≤ s.n ∧ s.n ≤ 255) ∧ s.d.length ≤ 5000) (hnl : new.length ≤ 1000000000000000)
    (hl : Q.ws.length ≤ 200 ∧ Q.ss.length ≤ 200) (hjl : Q.js.length ≤ 1000000 ∧ Q.qs.length ≤ 1000000) :
    ∃ h2 off2, call F I T (m + 300) 65 [.ptr p 0, .int .i64 c, .int .i64 n, x, .bool true] h = some (.int .i64 (SendT Q c n new true).1, h2) ∧ OkT h2 p (SendT Q c n new true).2 off2 ∧ Stf h h2 off off2 := by
  obtain ⟨R, hR, rfl, rfl⟩ := hQ
  have hsl : R.ss.length ≤ 200 := by have := hl.2; rw [show (tp R).ss = R.ss.map tc from rfl, List.length_map] at this; exact this
  have hjl1 : R.js.length ≤ 1000000 := by have := hjl.1; rw [show (tp R).js = R.js.map jv from rfl, List.length_map] at this; exact this
  have hjl2 : R.qs.length ≤ 1000000 := by have := hjl.2; rw [show (tp R).qs = R.qs.map jv from rfl, List.length_map] at this; exact this
  have hp1 : h.get p = some (.cells [.int .i64 R.q, .int .i64 R.r, R.sv, R.wv, R.jv, R.qv, .int .i64 R.ap, .int .i64 R.sq] .own) := hR.g
  have k1 := run63 h63 (m + 279) R.sv R.ss c h hR.s ⟨by omega, by omega⟩
  rw [at_ss] at k1
  have hxl := hx.1
  have e0 : SendT (tp R) c n new true = match inS (R.ss.map tc) c with
    | none => (5, tp R)
    | some i => if barT (tp R) n new.length true = true then (2, tp R) else sendT (tp R) c i n new true := rfl
  have stay : ∀ er : Int, ∃ h2 off2, some (AV.int .i64 er, h) = some (.int .i64 er, h2) ∧ OkT h2 p (tp R) off2 ∧ Stf h h2 (R.offF p) off2 := fun er => ⟨h, _, rfl, ⟨R, hR, rfl, rfl⟩, Stf.refl _ _⟩
  cases hs : inS (R.ss.map tc) c with
  | none =>
    rw [hs] at k1 e0
    rw [e0]
    rw [call_F (by decide) h65 F65 rfl R65]; simp only [Tryd.f65, Option.getD]
    simp +contextual (maxSteps := 3000000) only [↓code_seq, ↓code_region, ↓code_cond, ↓code_ret, aCond_bool, ↓ops_nil, ↓ops_cons, run_none, ↓run0_v, ↓run0_r, ↓seqK_normal, ↓seqK_ret, ↓retK_ret, put_same, put_ne, env0_at, ev_tmp, ev_const, ev_func, oc_int, o_move, o_assign, o_bin, o_call, o_load, o_nilCheck, o_fieldAddr, g_none, bin_lss, nil_ptr, resultsOf, oneOrAll, Option.map_some, Option.getD_some, decide_eq_true_eq, ↓reduceIte, Nat.reduceEqDiff, not_false_eq_true, Nat.reduceAdd, reduceCtorEq, List.getElem?_cons_zero, List.getElem?_cons_succ, List.map_cons, List.map_nil, List.append_nil, List.nil_append, ne_eq, fa_ptr T103 p103_2 (by decide), load_p1 T101 a101, loadc_def, hp1, k1, ixO, (show ((-1 : Int) < 0) = True by decide), callV_fn (g := 63) (by decide)]
    exact stay 5
  | some i =>
    rw [hs] at k1 e0
    have hi : i < R.ss.length := by
      have := (List.findIdx?_eq_some_iff_getElem.1 hs).1
      rw [List.length_map] at this; exact this
    have c0 : ¬ ((i : Nat) : Int) < 0 := by omega
    have eQ : (tp R).q = R.q := rfl
    rw [call_F (by decide) h65 F65 rfl R65]; simp only [Tryd.f65, Option.getD]
    by_cases c1 : R.q < (new.length : Int)
    · have hb' : barT (tp R) n new.length true = true := by unfold barT; rw [eQ, decide_eq_true c1]; simp
      simp only [hb', if_true] at e0
      rw [e0]
      simp +contextual (maxSteps := 3000000) only [↓code_skip, ↓code_seq, ↓code_region, ↓code_cond, ↓code_ret, aCond_bool, ↓ops_nil, ↓ops_cons, run_none, run_someF, run_tup, ↓run0_v, ↓run0_r, ↓seqK_normal, ↓seqK_ret, ↓retK_ret, put_same, put_ne, env0_at, ev_tmp, ev_const, ev_func, oc_int, oc_bool, o_move, o_assign, o_pick, o_bin, o_call, o_len, o_load, o_nilCheck, o_un, o_fieldAddr, g_none, g_some, pick_bool, bin_lss, bin_gtr, nil_ptr, resultsOf, oneOrAll, Option.bind_some, Option.map_some, Option.getD_some, decide_eq_true_eq, ↓reduceIte, Nat.reduceEqDiff, not_false_eq_true, Nat.reduceAdd, reduceCtorEq, List.getElem?_cons_zero, List.getElem?_cons_succ, List.getElem?_toArray, List.map_cons, List.map_nil, List.append_nil, List.nil_append, gt_iff_lt, ne_eq, fa_ptr T103 p103_2 (by decide), load_p1 T101 a101, loadc_def, fa_ptr T103 p103_0 (by decide), load_p1 T3 a3, hp1, k1, ixO, c0, hxl, c1, callV_fn (g := 63) (by decide)]
      exact stay 2
    have fin3 : ∀ (b : Bool), (n < 1 ∨ 255 < n) → barT (tp R) n new.length b = true := fun b h => by
      unfold barT
      rcases h with h | h
      · rw [decide_eq_true h]; simp
      · rw [decide_eq_true h]; simp
    have fin4 : ¬ (n < 1 ∨ 255 < n) → barT (tp R) n new.length true = false := fun h => by
      unfold barT
      rw [eQ, decide_eq_false c1, decide_eq_false (fun g => h (.inl g)), decide_eq_false (fun g => h (.inr g))]
      simp
    have hcz : ((new.length : Int) = 0) = True ∨ ((new.length : Int) = 0) = False := Classical.propComplete _
    by_cases c3 : n < 1
    · simp only [fin3 _ (.inl c3), if_true] at e0
      rw [e0]
      rcases hcz with cz | cz
      all_goals
        simp +contextual (maxSteps := 3000000) only [↓code_skip, ↓code_seq, ↓code_region, ↓code_cond, ↓code_ret, aCond_bool, ↓ops_nil, ↓ops_cons, run_none, run_someT, run_someF, ↓run0_v, ↓run0_r, ↓seqK_normal, ↓seqK_ret, ↓retK_ret, put_same, put_ne, env0_at, ev_tmp, ev_const, ev_func, oc_int, oc_bool, o_move, o_assign, o_pick, o_bin, o_call, o_len, o_load, o_nilCheck, o_un, o_fieldAddr, g_none, g_some, pick_bool, bin_eql, bin_lss, bin_gtr, un_not, nil_ptr, resultsOf, oneOrAll, Option.bind_some, Option.map_some, Option.getD_some, decide_eq_true_eq, ↓reduceIte, Nat.reduceEqDiff, not_false_eq_true, Nat.reduceAdd, reduceCtorEq, List.getElem?_cons_zero, List.getElem?_cons_succ, List.getElem?_toArray, Bool.false_eq_true, List.map_cons, List.map_nil, List.append_nil, List.nil_append, gt_iff_lt, Bool.not_true, ne_eq, fa_ptr T103 p103_2 (by decide), load_p1 T101 a101, loadc_def, fa_ptr T103 p103_0 (by decide), load_p1 T3 a3, hp1, k1, ixO, c0, hxl, c1, cz, c3, callV_fn (g := 63) (by decide)]
        exact stay 2
    by_cases c4 : 255 < n
    · simp only [fin3 _ (.inr c4), if_true] at e0
      rw [e0]
      rcases hcz with cz | cz
      all_goals
        simp +contextual (maxSteps := 3000000) only [↓code_skip, ↓code_seq, ↓code_region, ↓code_cond, ↓code_ret, aCond_bool, ↓ops_nil, ↓ops_cons, run_none, run_someT, run_someF, ↓run0_v, ↓run0_r, ↓seqK_normal, ↓seqK_ret, ↓retK_ret, put_same, put_ne, env0_at, ev_tmp, ev_const, ev_func, oc_int, oc_bool, o_move, o_assign, o_pick, o_bin, o_call, o_len, o_load, o_nilCheck, o_un, o_fieldAddr, g_none, g_some, pick_bool, bin_eql, bin_lss, bin_gtr, un_not, nil_ptr, resultsOf, oneOrAll, Option.bind_some, Option.map_some, Option.getD_some, decide_eq_true_eq, ↓reduceIte, Nat.reduceEqDiff, not_false_eq_true, Nat.reduceAdd, reduceCtorEq, List.getElem?_cons_zero, List.getElem?_cons_succ, List.getElem?_toArray, Bool.false_eq_true, List.map_cons, List.map_nil, List.append_nil, List.nil_append, gt_iff_lt, Bool.not_true, ne_eq, fa_ptr T103 p103_2 (by decide), load_p1 T101 a101, loadc_def, fa_ptr T103 p103_0 (by decide), load_p1 T3 a3, hp1, k1, ixO, c0, hxl, c1, cz, c3, c4, callV_fn (g := 63) (by decide)]
        exact stay 2
    have hbF := fin4 (fun g => g.elim c3 c4)
    simp only [hbF, Bool.false_eq_true, if_false] at e0
    obtain ⟨s, hss⟩ : ∃ s, R.ss[i]? = some s := ⟨R.ss[i], List.getElem?_eq_getElem hi⟩
    have hst : (R.ss.map tc)[i]? = some (tc s) := by rw [List.getElem?_map, hss]; rfl
    obtain ⟨hb1, hb2⟩ := hb (tc s) (List.mem_map_of_mem (List.mem_of_getElem? hss))
    have hn1 : 1 ≤ s.nx := hb1.1
    have hn2 : s.nx ≤ 255 := hb1.2
    have hdl : s.d.length ≤ 5000 := hb2
    have e1 : sendT (tp R) c i n new true = if n = befT s.nx ∧ s.tk = true then (0, { tp R with ss := (R.ss.map tc).set i { tc s with s := 0 } })
        else if ¬ n = s.nx then (90, tp R)
        else if 5000 < s.d.length + new.length then (4, { tp R with ss := (R.ss.map tc).eraseIdx i })
        else if true = true then (0, { tp R with ss := (R.ss.map tc).eraseIdx i, js := (tp R).js ++ [(c, s.d ++ new)], qs := if 0 < (tp R).r then (tp R).qs ++ [(c, s.d ++ new)] else (tp R).qs })
        else (0, { tp R with ss := (R.ss.map tc).set i { tc s with d := s.d ++ new, k := true, s := 0, n := s.nx % 255 + 1 } }) := by
      unfold sendT
      rw [show (tp R).ss = R.ss.map tc from rfl, hst]; rfl
    rw [e1] at e0
    obtain ⟨b, cs, kk, g1, g2, g3, g4, g5, g5', g6, g7, g8, g9, ga, gb, _, _, _, _, _, hsv⟩ := loadC hR.s hss
    have hbn : ¬ b = h.next := by have := hR.s.lt hsv; omega
    have w1 : IntKind.i64.wrap (s.nx - 1) = s.nx - 1 := wrap_i64 (by omega) (by omega)
    by_cases c6 : n = befT s.nx ∧ s.tk = true
    · rw [if_pos c6] at e0
      obtain ⟨c6a, c6b⟩ := c6
      rw [c6b] at g9
      have h6 := bef_yes c6a
      obtain ⟨b2, h2, q1, q2, q3, q4, q5, _⟩ := storeC Rc.av 7 Rc.len T101 d101 T106 s106 (w := .int .i64 0) (j := 2) (y := { s with si := 0 }) T3 s3 hR.s hss (by decide) rfl rfl rfl
      rw [ind_eq q1 g1] at q2
      have hS0 : Stf h h2 (R.off p) (R.off p) := ⟨by omega, fun y hy ho => ⟨q5 y ho.2.1, ho⟩⟩
      obtain ⟨hO, hS⟩ := hR.putS (h2 := h2) (l := R.ss.set i { s with si := 0 }) (by omega) (fun y hy ho => q5 y ho) (by rw [List.length_set]; exact q3) (fun y hy => by
        rcases List.mem_or_eq_of_mem_set hy with g | g
        · exact ⟨(hR.sd y g).1.stf hS0, (hR.sd y g).2⟩
        · rw [g]; exact ⟨(hR.sd s (List.mem_of_getElem? hss)).1.stf hS0, (hR.sd s (List.mem_of_getElem? hss)).2⟩)
      rw [e0]
      rcases hcz with cz | cz
      all_goals
        rcases h6 with ⟨c5, c6e⟩ | ⟨c5, c6e⟩
        all_goals
          simp +contextual (maxSteps := 3000000) only [↓code_skip, ↓code_seq, ↓code_region, ↓code_cond, ↓code_ret, aCond_bool, ↓ops_nil, ↓ops_cons, run_none, run_someT, run_someF, ↓run0_v, ↓run0_h, ↓run0_r, ↓seqK_normal, ↓seqK_ret, ↓retK_ret, put_same, put_ne, put_none, env0_at, ev_tmp, ev_const, ev_func, oc_int, oc_bool, o_move, o_assign, o_pick, o_bin, o_call, o_len, o_load, o_store, o_nilCheck, o_un, o_fieldAddr, o_indexAddr, g_none, g_some, pick_bool, bin_sub, bin_eql, bin_lss, bin_gtr, un_not, nil_ptr, resultsOf, oneOrAll, Option.bind_some, Option.map_some, Option.getD_some, decide_eq_true_eq, ↓reduceIte, Nat.reduceEqDiff, not_false_eq_true, Nat.reduceAdd, reduceCtorEq, List.getElem?_cons_zero, List.getElem?_cons_succ, List.getElem?_toArray, Bool.false_eq_true, List.map_cons, List.map_nil, List.append_nil, List.nil_append, gt_iff_lt, Bool.not_true, ne_eq, fa_ptr T103 p103_2 (by decide), load_p1 T101 a101, loadc_def, fa_ptr T103 p103_0 (by decide), load_p1 T3 a3, fa_ptr T106 p106_3 (by decide), fa_ptr T106 p106_4 (by decide), load_p1 T4 a4, fa_ptr T106 p106_2 (by decide), run0_h, hp1, k1, ixO, c0, hxl, c1, cz, c3, c4, g1, g2, g8, g9, w1, c5, c6e, q2, decide_true, callV_fn (g := 63) (by decide)]
          exact ⟨h2, _, rfl, ⟨_, hO, by unfold tp; rw [List.map_set]; rfl, rfl⟩, stfF hS (Ext.setS (v := R.sv) fun y hy => .inr ((List.mem_or_eq_of_mem_set hy).elim (fun g => ⟨y, g, rfl⟩) fun g => ⟨s, List.mem_of_getElem? hss, by rw [g]⟩))⟩
    rw [if_neg c6] at e0
    have h6 := bef_no c6
    by_cases c7 : n = s.nx
    rotate_left
    · rw [if_pos c7] at e0
      rw [e0]
      rcases hcz with cz | cz
      all_goals
        rcases h6 with ⟨c5, c6e, htk⟩ | ⟨c5, c6e, htk⟩ | ⟨c5, c6e, htk⟩ | ⟨c5, c6e, htk⟩
        all_goals
          simp +contextual (maxSteps := 3000000) only [↓code_skip, ↓code_seq, ↓code_region, ↓code_cond, ↓code_ret, aCond_bool, ↓ops_nil, ↓ops_cons, run_none, run_someT, run_someF, ↓run0_v, ↓run0_r, ↓seqK_normal, ↓seqK_ret, ↓retK_ret, put_same, put_ne, env0_at, ev_tmp, ev_const, ev_func, oc_int, oc_bool, o_move, o_assign, o_pick, o_bin, o_call, o_len, o_load, o_nilCheck, o_un, o_fieldAddr, o_indexAddr, g_none, g_some, pick_bool, bin_sub, bin_eql, bin_neq, bin_lss, bin_gtr, un_not, nil_ptr, resultsOf, oneOrAll, Option.bind_some, Option.map_some, Option.getD_some, decide_eq_true_eq, ↓reduceIte, Nat.reduceEqDiff, not_false_eq_true, Nat.reduceAdd, reduceCtorEq, List.getElem?_cons_zero, List.getElem?_cons_succ, List.getElem?_toArray, Bool.false_eq_true, List.map_cons, List.map_nil, List.append_nil, List.nil_append, gt_iff_lt, Bool.not_eq_eq_eq_not, Bool.not_true, ne_eq, decide_eq_false_iff_not, fa_ptr T103 p103_2 (by decide), load_p1 T101 a101, loadc_def, fa_ptr T103 p103_0 (by decide), load_p1 T3 a3, fa_ptr T106 p106_3 (by decide), fa_ptr T106 p106_4 (by decide), load_p1 T4 a4, hp1, k1, ixO, c0, hxl, c1, cz, c3, c4, g1, g2, g8, g9, w1, c5, c6e, htk, c7, callV_fn (g := 63) (by decide)]
          exact stay 90
    rw [if_neg (fun g => g c7)] at e0
    have hdv := fun h => RowC.len (h2 := h) T48 d48 (hR.sd s (List.mem_of_getElem? hss)).1.1
    have w3 : IntKind.i64.wrap ((s.d.length : Int) + (new.length : Int)) = (s.d.length : Int) + (new.length : Int) := wrap_i64 (by omega) (by omega)
    by_cases c8 : 5000 < (s.d.length : Int) + (new.length : Int)
    · rw [if_pos (by omega)] at e0
      obtain ⟨v2, h2, q1, q2, q3, q4⟩ := run64 h64 (m + 294) i R.sv R.ss h hR.s hi (by omega) hR.oneS
      obtain ⟨hR2, hS2⟩ := hR.setS q4 q2 q3 (fun c hc => ⟨(hR.sd c (mem_erase hc)).2, .inr ⟨c, mem_erase hc, rfl, rfl⟩⟩)
      have hp2 : h2.get p = some (.cells R.cs .own) := by rw [q4.2 p hR.lt]; exact hR.g
      have hst2 : aStore T 101 (.ptr p 2) v2 h2 = some (h2.put p (.cells ({ R with sv := v2, ss := R.ss.eraseIdx i } : Rf).cs .own)) :=
        store_1 (cs := R.cs) T101 s101 (RowC.cells q2).1 (RowC.cells q2).2 hp2 (by simp [Rf.cs])
      rw [e0]
      rcases hcz with cz | cz
      all_goals
        rcases h6 with ⟨c5, c6e, htk⟩ | ⟨c5, c6e, htk⟩ | ⟨c5, c6e, htk⟩ | ⟨c5, c6e, htk⟩
        all_goals
          simp +contextual (maxSteps := 3000000) only [↓code_skip, ↓code_seq, ↓code_region, ↓code_cond, ↓code_ret, aCond_bool, ↓ops_nil, ↓ops_cons, run_none, run_someT, run_someF, ↓run0_v, ↓run0_h, ↓run0_r, ↓seqK_normal, ↓seqK_ret, ↓retK_ret, put_same, put_ne, put_none, env0_at, ev_tmp, ev_const, ev_func, oc_int, oc_bool, o_move, o_assign, o_pick, o_bin, o_call, o_len, o_load, o_store, o_nilCheck, o_un, o_fieldAddr, o_indexAddr, g_none, g_some, pick_bool, bin_add, bin_sub, bin_eql, bin_neq, bin_lss, bin_gtr, un_not, nil_ptr, resultsOf, oneOrAll, Option.bind_some, Option.map_some, Option.getD_some, decide_eq_true_eq, ↓reduceIte, Nat.reduceEqDiff, not_false_eq_true, not_true_eq_false, Nat.reduceAdd, reduceCtorEq, List.getElem?_cons_zero, List.getElem?_cons_succ, List.getElem?_toArray, Bool.false_eq_true, List.map_cons, List.map_nil, List.append_nil, List.nil_append, gt_iff_lt, Bool.not_eq_eq_eq_not, Bool.not_true, ne_eq, decide_eq_false_iff_not, fa_ptr T103 p103_2 (by decide), load_p1 T101 a101, loadc_def, fa_ptr T103 p103_0 (by decide), load_p1 T3 a3, fa_ptr T106 p106_3 (by decide), fa_ptr T106 p106_4 (by decide), load_p1 T4 a4, run0_h, fa_ptr T106 p106_5 (by decide), load_p1 T48 a48, hp1, k1, ixO, c0, hxl, c1, cz, c3, c4, g1, g2, g8, g9, ga, w1, c5, c6e, htk, eq_true c7, hdv, w3, c8, q1, hst2, callV_fn (g := 63) (by decide), callV_fn (g := 64) (by decide)]
          exact ⟨_, _, rfl, ⟨_, hR2, by unfold tp; rw [map_eraseIdx], rfl⟩, stfF hS2 (Ext.setS fun c hc => .inr ⟨c, mem_erase hc, rfl⟩)⟩
    rw [if_neg (by omega)] at e0
    obtain ⟨bb, v1, h1, v2, h2, hA, hB, hC, hD, y1, y2, y3, y4, y5, y6, y7, ⟨csA, kA, y8, y9⟩, ⟨csD, kD, ya, yb⟩, hO, hS, him, hex, hvm⟩ := hR.piece hss hx.sub (by omega)
    rw [ind_eq y1 g1] at y4 y5 y6 y7 y8 ya
    have w4 : s.nx.tmod 255 = s.nx % 255 := Int.tmod_eq_emod_of_nonneg (by omega)
    have w6 : IntKind.i64.wrap (s.nx % 255) = s.nx % 255 := wrap_i64 (by omega) (by omega)
    have w5 : IntKind.i64.wrap (s.nx % 255 + 1) = s.nx % 255 + 1 := wrap_i64 (by omega) (by omega)
    have hpD : hD.get p = some (.cells [.int .i64 R.q, .int .i64 R.r, R.sv, R.wv, R.jv, R.qv, .int .i64 R.ap, .int .i64 R.sq] .own) := hO.g
    rw [if_pos rfl] at e0
    obtain ⟨hJ, z1, z2, z3, z4⟩ := store_j hD c v2 (RowC.cells him.1).2
    have hcv : AV.cells v2 = some [v2] := (RowC.cells him.1).1
    have hci : ∀ (k : IntKind) (n : Int), AV.cells (.int k n) = some [.int k n] := fun _ _ => rfl
    have hcg : ∀ (cs : List AV), AV.cells (.agg cs) = some cs := fun _ => rfl
    have hcutJ := hR.j.1.cut T51 d51 T58 s58
    have hcutQ := hR.u.1.cut T51 d51 T58 s58
    have hlJ : ∀ h, aLen T 51 R.jv h = some (.int .i64 (R.js.length : Nat)) := fun h => hR.j.1.len T51 d51
    have hlQ : ∀ h, aLen T 51 R.qv h = some (.int .i64 (R.qs.length : Nat)) := fun h => hR.u.1.len T51 d51
    have hOJ := hO.grow z4
    have hpJ : hJ.get p = some (.cells [.int .i64 R.q, .int .i64 R.r, R.sv, R.wv, R.jv, R.qv, .int .i64 R.ap, .int .i64 R.sq] .own) := hOJ.g
    obtain ⟨v3, h3, j1, j2, j3, j4, j5, j6⟩ := hO.addJ z4 ⟨c, v2, s.d ++ new⟩ him hvm hjl1
    have hltD := hO.lt
    obtain ⟨H4, hH4⟩ : ∃ H4, H4 = h3.put p (.cells ({ R with ss := R.ss.set i (newX s v2 new), jv := v3, js := R.js ++ [⟨c, v2, s.d ++ new⟩] } : Rf).cs .own) := ⟨_, rfl⟩
    rw [← hH4] at j2 j3 j4
    have hp4 : H4.get p = some (.cells [.int .i64 R.q, .int .i64 R.r, R.sv, R.wv, v3, R.qv, .int .i64 R.ap, .int .i64 R.sq] .own) := j3.g
    have j2' : aStore T 51 (.ptr p 4) v3 h3 = some H4 := j2
    have gJ4 : H4.get hD.next = some (.cells [.int .i64 c, v2] .own) := by rw [hH4, AH.get_put, if_neg (by omega), j5.2 _ (by omega)]; exact z3
    have hSS := hS.trans j4
    by_cases c9 : 0 < R.r
    · rw [show (tp R).r = R.r from rfl, if_pos c9] at e0
      have imH4 : ImD H4 (R.off p) v2 (s.d ++ new) := him.stf j4
      obtain ⟨v5, h5, n1, n2, n3, n4, n5, n6⟩ := j3.addQ (Grow.refl H4) ⟨c, v2, s.d ++ new⟩ imH4 (im_dv (c := newX s v2 new) (List.mem_of_getElem? (List.getElem?_set_self hi))) hjl2
      obtain ⟨H6, hH6⟩ : ∃ H6, H6 = h5.put p (.cells ({ R with ss := R.ss.set i (newX s v2 new), jv := v3, js := R.js ++ [⟨c, v2, s.d ++ new⟩], qv := v5, qs := R.qs ++ [⟨c, v2, s.d ++ new⟩] } : Rf).cs .own) := ⟨_, rfl⟩
      rw [← hH6] at n2 n3 n4
      have hp6 : H6.get p = some (.cells [.int .i64 R.q, .int .i64 R.r, R.sv, R.wv, v3, v5, .int .i64 R.ap, .int .i64 R.sq] .own) := n3.g
      have n1' : aAppend T 51 51 (cutX R.qv) (.sl H4.next 0 1 1 2 true) (H4.alloc (.cells [.int .i64 c, v2] .own)) = some (v5, h5) := n1
      obtain ⟨v7, h7, q1, q2, q3, q4⟩ := run64 h64 (m + 294) i R.sv (R.ss.set i (newX s v2 new)) H6 n3.s (by rw [List.length_set]; exact hi) (by rw [List.length_set]; omega) n3.oneS
      rw [erase_set] at q2
      obtain ⟨hR2, hS2⟩ := n3.setS q4 q2 q3 (fun y hy => by
        have hm : y ∈ R.ss.set i (newX s v2 new) := mem_erase (by rw [erase_set]; exact hy)
        exact ⟨(n3.sd y hm).2, .inr ⟨y, hm, rfl, rfl⟩⟩)
      have hp7 : h7.get p = some (.cells ({ R with ss := R.ss.set i (newX s v2 new), jv := v3, js := R.js ++ [⟨c, v2, s.d ++ new⟩], qv := v5, qs := R.qs ++ [⟨c, v2, s.d ++ new⟩] } : Rf).cs .own) := by rw [q4.2 p n3.lt]; exact n3.g
      have hst2 : aStore T 101 (.ptr p 2) v7 h7 = some (h7.put p (.cells ({ R with ss := R.ss.eraseIdx i, sv := v7, jv := v3, js := R.js ++ [⟨c, v2, s.d ++ new⟩], qv := v5, qs := R.qs ++ [⟨c, v2, s.d ++ new⟩] } : Rf).cs .own)) :=
        store_1 (cs := ({ R with ss := R.ss.set i (newX s v2 new), jv := v3, js := R.js ++ [⟨c, v2, s.d ++ new⟩], qv := v5, qs := R.qs ++ [⟨c, v2, s.d ++ new⟩] } : Rf).cs) T101 s101 (RowC.cells q2).1 (RowC.cells q2).2 hp7 (by simp [Rf.cs])
      rw [e0]
      rcases hcz with cz | cz
      all_goals
        rcases h6 with ⟨c5, c6e, htk⟩ | ⟨c5, c6e, htk⟩ | ⟨c5, c6e, htk⟩ | ⟨c5, c6e, htk⟩
        all_goals
          simp +contextual (maxSteps := 3000000) only [↓code_skip, ↓code_seq, ↓code_region, ↓code_cond, ↓code_ret, aCond_bool, ↓ops_nil, ↓ops_cons, run_none, run_someT, run_someF, ↓run0_v, ↓run0_h, ↓run0_r, ↓seqK_normal, ↓retK_ret, put_same, put_ne, put_none, env0_at, ev_tmp, ev_const, ev_func, oc_int, oc_bool, o_move, o_assign, o_pick, o_bin, o_call, o_len, o_alloc, o_build, o_buildSlice, o_load, o_store, o_nilCheck, o_un, o_slice, o_fieldAddr, o_indexAddr, o_append, g_none, g_some, pick_bool, bin_add, bin_sub, bin_rem, bin_eql, bin_neq, bin_lss, bin_gtr, un_not, nil_ptr, resultsOf, oneOrAll, Option.bind_some, Option.map_some, Option.map_none, Option.getD_some, decide_eq_true_eq, ↓reduceIte, Nat.reduceEqDiff, not_false_eq_true, not_true_eq_false, Nat.reduceAdd, Nat.reduceMul, reduceCtorEq, List.getElem?_cons_zero, List.getElem?_cons_succ, List.getElem?_toArray, Bool.false_eq_true, List.map_cons, List.map_nil, List.append_nil, List.nil_append, List.cons_append, AH.get_alloc, and_true, Nat.reduceLeDiff, Nat.le_refl, gt_iff_lt, Bool.not_eq_eq_eq_not, Bool.not_true, ne_eq, decide_eq_false_iff_not, fa_ptr T103 p103_2 (by decide), load_p1 T101 a101, loadc_def, fa_ptr T103 p103_0 (by decide), load_p1 T3 a3, fa_ptr T106 p106_3 (by decide), fa_ptr T106 p106_4 (by decide), load_p1 T4 a4, fa_ptr T106 p106_2 (by decide), run0_h, fa_ptr T106 p106_5 (by decide), load_p1 T48 a48, buildSl T48 d48 T5 (n := 0) (by rw [s5]; decide), s5, parts_eq, fillA, AH.splice, List.take_succ_cons, List.take_zero, List.take_nil, List.drop_succ_cons, List.drop_zero, List.drop_nil, List.length_cons, List.length_nil, repl, build_struct T58 d58, z58, p58_0, p58_1, alloc_t T58, fa_ptr T103 p103_4 (by decide), load_p1 T51 a51, load_pA T58 a58, s58, loadn_def, buildSl T51 d51 T58 (n := 1) (by rw [s58]; decide), fa_ptr T103 p103_1 (by decide), fa_ptr T103 p103_5 (by decide), hcv, hci, hcg, hbn, hp1, k1, ixO, c0, hxl, c1, cz, c3, c4, g1, g2, g8, g9, ga, w1, c5, c6e, htk, eq_true c7, hdv, w3, c8, y2, y3, y4, y5, y6, y7, y8, y9, ya, yb, w4, w5, (show ¬ (255 : Int) = 0 by decide), List.length_cons, List.length_nil, List.drop_zero, List.take_succ_cons, List.take_zero, List.take_nil, Nat.zero_add, Nat.add_zero, z1, z3, hpJ, hlJ, hlQ, hcutJ, hcutQ, j1, j2', hp4, gJ4, c9, n1', n2, hp6, q1, hst2, callV_fn (g := 63) (by decide), callV_fn (g := 64) (by decide)]
          exact ⟨_, _, rfl, ⟨_, hR2, by unfold tp; simp only [map_eraseIdx, List.map_append]; rfl, rfl⟩, stfF ((hSS.trans n4).trans hS2) (((hex.trans hS.1 j6).trans hSS.1 n6).trans (hSS.trans n4).1 (Ext.setS fun y hy => .inr ⟨y, mem_erase (i := i) (by rw [erase_set]; exact hy), rfl⟩))⟩
    · rw [show (tp R).r = R.r from rfl, if_neg c9] at e0
      obtain ⟨v7, h7, q1, q2, q3, q4⟩ := run64 h64 (m + 294) i R.sv (R.ss.set i (newX s v2 new)) H4 j3.s (by rw [List.length_set]; exact hi) (by rw [List.length_set]; omega) j3.oneS
      rw [erase_set] at q2
      obtain ⟨hR2, hS2⟩ := j3.setS q4 q2 q3 (fun y hy => by
        have hm : y ∈ R.ss.set i (newX s v2 new) := mem_erase (by rw [erase_set]; exact hy)
        exact ⟨(j3.sd y hm).2, .inr ⟨y, hm, rfl, rfl⟩⟩)
      have hp7 : h7.get p = some (.cells ({ R with ss := R.ss.set i (newX s v2 new), jv := v3, js := R.js ++ [⟨c, v2, s.d ++ new⟩] } : Rf).cs .own) := by rw [q4.2 p j3.lt]; exact j3.g
      have hst2 : aStore T 101 (.ptr p 2) v7 h7 = some (h7.put p (.cells ({ R with ss := R.ss.eraseIdx i, sv := v7, jv := v3, js := R.js ++ [⟨c, v2, s.d ++ new⟩] } : Rf).cs .own)) :=
        store_1 (cs := ({ R with ss := R.ss.set i (newX s v2 new), jv := v3, js := R.js ++ [⟨c, v2, s.d ++ new⟩] } : Rf).cs) T101 s101 (RowC.cells q2).1 (RowC.cells q2).2 hp7 (by simp [Rf.cs])
      rw [e0]
      rcases hcz with cz | cz
      all_goals
        rcases h6 with ⟨c5, c6e, htk⟩ | ⟨c5, c6e, htk⟩ | ⟨c5, c6e, htk⟩ | ⟨c5, c6e, htk⟩
        all_goals
          simp +contextual (maxSteps := 3000000) only [↓code_skip, ↓code_seq, ↓code_region, ↓code_cond, ↓code_ret, aCond_bool, ↓ops_nil, ↓ops_cons, run_none, run_someT, run_someF, ↓run0_v, ↓run0_h, ↓run0_r, ↓seqK_normal, ↓retK_ret, put_same, put_ne, put_none, env0_at, ev_tmp, ev_const, ev_func, oc_int, oc_bool, o_move, o_assign, o_pick, o_bin, o_call, o_len, o_alloc, o_build, o_buildSlice, o_load, o_store, o_nilCheck, o_un, o_slice, o_fieldAddr, o_indexAddr, o_append, g_none, g_some, pick_bool, bin_add, bin_sub, bin_rem, bin_eql, bin_neq, bin_lss, bin_gtr, un_not, nil_ptr, resultsOf, oneOrAll, Option.bind_some, Option.map_some, Option.map_none, Option.getD_some, decide_eq_true_eq, ↓reduceIte, Nat.reduceEqDiff, not_false_eq_true, not_true_eq_false, Nat.reduceAdd, Nat.reduceMul, reduceCtorEq, List.getElem?_cons_zero, List.getElem?_cons_succ, List.getElem?_toArray, Bool.false_eq_true, List.map_cons, List.map_nil, List.append_nil, List.nil_append, List.cons_append, AH.get_alloc, and_true, Nat.reduceLeDiff, Nat.le_refl, gt_iff_lt, Bool.not_eq_eq_eq_not, Bool.not_true, ne_eq, decide_eq_false_iff_not, fa_ptr T103 p103_2 (by decide), load_p1 T101 a101, loadc_def, fa_ptr T103 p103_0 (by decide), load_p1 T3 a3, fa_ptr T106 p106_3 (by decide), fa_ptr T106 p106_4 (by decide), load_p1 T4 a4, fa_ptr T106 p106_2 (by decide), run0_h, fa_ptr T106 p106_5 (by decide), load_p1 T48 a48, buildSl T48 d48 T5 (n := 0) (by rw [s5]; decide), s5, parts_eq, fillA, AH.splice, List.take_succ_cons, List.take_zero, List.take_nil, List.drop_succ_cons, List.drop_zero, List.drop_nil, List.length_cons, List.length_nil, repl, build_struct T58 d58, z58, p58_0, p58_1, alloc_t T58, fa_ptr T103 p103_4 (by decide), load_p1 T51 a51, load_pA T58 a58, s58, loadn_def, buildSl T51 d51 T58 (n := 1) (by rw [s58]; decide), fa_ptr T103 p103_1 (by decide), hcv, hci, hcg, hbn, hp1, k1, ixO, c0, hxl, c1, cz, c3, c4, g1, g2, g8, g9, ga, w1, c5, c6e, htk, eq_true c7, hdv, w3, c8, y2, y3, y4, y5, y6, y7, y8, y9, ya, yb, w4, w5, (show ¬ (255 : Int) = 0 by decide), List.length_cons, List.length_nil, List.drop_zero, List.take_succ_cons, List.take_zero, List.take_nil, Nat.zero_add, Nat.add_zero, z1, z3, hpJ, hlJ, hcutJ, j1, j2', hp4, c9, q1, hst2, callV_fn (g := 63) (by decide), callV_fn (g := 64) (by decide)]
          exact ⟨_, _, rfl, ⟨_, hR2, by unfold tp; simp only [map_eraseIdx, List.map_append]; rfl, rfl⟩, stfF (hSS.trans hS2) ((hex.trans hS.1 j6).trans hSS.1 (Ext.setS fun y hy => .inr ⟨y, mem_erase (i := i) (by rw [erase_set]; exact hy), rfl⟩))⟩
theorem L65f {I : Nat → Option (List AV → AH → Rs)} (h63 : I 63 = none) (h64 : I 64 = none) (h65 : I 65 = none) (m p : Nat) (c n : Int) (x : AV) (Q : Tp) (off : Nat → Prop) (h : AH) (new : List Int) (hQ : OkT h p Q off) (hx : Pc off h x new) (hb : ∀ s ∈ Q.ss, (1 ≤ s.n ∧ s.n ≤ 255) ∧ s.d.length ≤ 5000) (hnl : new.length ≤ 1000000000000000)
    (hl : Q.ws.length ≤ 200 ∧ Q.ss.length ≤ 200) (hjl : Q.js.length ≤ 1000000 ∧ Q.qs.length ≤ 1000000) :
    ∃ h2 off2, call F I T (m + 300) 65 [.ptr p 0, .int .i64 c, .int .i64 n, x, .bool false] h = some (.int .i64 (SendT Q c n new false).1, h2) ∧ OkT h2 p (SendT Q c n new false).2 off2 ∧ Stf h h2 off off2 := by
  obtain ⟨R, hR, rfl, rfl⟩ := hQ
  have hsl : R.ss.length ≤ 200 := by have := hl.2; rw [show (tp R).ss = R.ss.map tc from rfl, List.length_map] at this; exact this
  have hjl1 : R.js.length ≤ 1000000 := by have := hjl.1; rw [show (tp R).js = R.js.map jv from rfl, List.length_map] at this; exact this
  have hjl2 : R.qs.length ≤ 1000000 := by have := hjl.2; rw [show (tp R).qs = R.qs.map jv from rfl, List.length_map] at this; exact this
  have hp1 : h.get p = some (.cells [.int .i64 R.q, .int .i64 R.r, R.sv, R.wv, R.jv, R.qv, .int .i64 R.ap, .int .i64 R.sq] .own) := hR.g
  have k1 := run63 h63 (m + 279) R.sv R.ss c h hR.s ⟨by omega, by omega⟩
  rw [at_ss] at k1
  have hxl := hx.1
  have e0 : SendT (tp R) c n new false = match inS (R.ss.map tc) c with
    | none => (5, tp R)
    | some i => if barT (tp R) n new.length false = true then (2, tp R) else sendT (tp R) c i n new false := rfl
  have stay : ∀ er : Int, ∃ h2 off2, some (AV.int .i64 er, h) = some (.int .i64 er, h2) ∧ OkT h2 p (tp R) off2 ∧ Stf h h2 (R.offF p) off2 := fun er => ⟨h, _, rfl, ⟨R, hR, rfl, rfl⟩, Stf.refl _ _⟩
  cases hs : inS (R.ss.map tc) c with
  | none =>
    rw [hs] at k1 e0
    rw [e0]
    rw [call_F (by decide) h65 F65 rfl R65]; simp only [Tryd.f65, Option.getD]
    simp +contextual (maxSteps := 3000000) only [↓code_seq, ↓code_region, ↓code_cond, ↓code_ret, aCond_bool, ↓ops_nil, ↓ops_cons, run_none, ↓run0_v, ↓run0_r, ↓seqK_normal, ↓seqK_ret, ↓retK_ret, put_same, put_ne, env0_at, ev_tmp, ev_const, ev_func, oc_int, o_move, o_assign, o_bin, o_call, o_load, o_nilCheck, o_fieldAddr, g_none, bin_lss, nil_ptr, resultsOf, oneOrAll, Option.map_some, Option.getD_some, decide_eq_true_eq, ↓reduceIte, Nat.reduceEqDiff, not_false_eq_true, Nat.reduceAdd, reduceCtorEq, List.getElem?_cons_zero, List.getElem?_cons_succ, List.map_cons, List.map_nil, List.append_nil, List.nil_append, ne_eq, fa_ptr T103 p103_2 (by decide), load_p1 T101 a101, loadc_def, hp1, k1, ixO, (show ((-1 : Int) < 0) = True by decide), callV_fn (g := 63) (by decide)]
    exact stay 5
  | some i =>
    rw [hs] at k1 e0
    have hi : i < R.ss.length := by
      have := (List.findIdx?_eq_some_iff_getElem.1 hs).1
      rw [List.length_map] at this; exact this
    have c0 : ¬ ((i : Nat) : Int) < 0 := by omega
    have eQ : (tp R).q = R.q := rfl
    rw [call_F (by decide) h65 F65 rfl R65]; simp only [Tryd.f65, Option.getD]
    by_cases c1 : R.q < (new.length : Int)
    · have hb' : barT (tp R) n new.length false = true := by unfold barT; rw [eQ, decide_eq_true c1]; simp
      simp only [hb', if_true] at e0
      rw [e0]
      simp +contextual (maxSteps := 3000000) only [↓code_skip, ↓code_seq, ↓code_region, ↓code_cond, ↓code_ret, aCond_bool, ↓ops_nil, ↓ops_cons, run_none, run_someF, run_tup, ↓run0_v, ↓run0_r, ↓seqK_normal, ↓seqK_ret, ↓retK_ret, put_same, put_ne, env0_at, ev_tmp, ev_const, ev_func, oc_int, oc_bool, o_move, o_assign, o_pick, o_bin, o_call, o_len, o_load, o_nilCheck, o_un, o_fieldAddr, g_none, g_some, pick_bool, bin_lss, bin_gtr, nil_ptr, resultsOf, oneOrAll, Option.bind_some, Option.map_some, Option.getD_some, decide_eq_true_eq, ↓reduceIte, Nat.reduceEqDiff, not_false_eq_true, Nat.reduceAdd, reduceCtorEq, List.getElem?_cons_zero, List.getElem?_cons_succ, List.getElem?_toArray, List.map_cons, List.map_nil, List.append_nil, List.nil_append, gt_iff_lt, ne_eq, fa_ptr T103 p103_2 (by decide), load_p1 T101 a101, loadc_def, fa_ptr T103 p103_0 (by decide), load_p1 T3 a3, hp1, k1, ixO, c0, hxl, c1, callV_fn (g := 63) (by decide)]
      exact stay 2
    by_cases c2 : (new.length : Int) = 0
    · have hb' : barT (tp R) n new.length false = true := by
        have c2' : new.length = 0 := by omega
        unfold barT; rw [c2']; simp
      simp only [hb', if_true] at e0
      rw [e0]
      have c2a := c2
      simp +contextual (maxSteps := 3000000) only [↓code_skip, ↓code_seq, ↓code_region, ↓code_cond, ↓code_ret, aCond_bool, ↓ops_nil, ↓ops_cons, run_none, run_someT, run_someF, ↓run0_v, ↓run0_r, ↓seqK_normal, ↓seqK_ret, ↓retK_ret, put_same, put_ne, env0_at, ev_tmp, ev_const, ev_func, oc_int, oc_bool, o_move, o_assign, o_pick, o_bin, o_call, o_len, o_load, o_nilCheck, o_un, o_fieldAddr, g_none, g_some, pick_bool, bin_eql, bin_lss, bin_gtr, un_not, nil_ptr, resultsOf, oneOrAll, Option.bind_some, Option.map_some, Option.getD_some, decide_eq_true_eq, ↓reduceIte, Nat.reduceEqDiff, not_false_eq_true, Nat.reduceAdd, reduceCtorEq, List.getElem?_cons_zero, List.getElem?_cons_succ, List.getElem?_toArray, List.map_cons, List.map_nil, List.append_nil, List.nil_append, gt_iff_lt, Bool.not_false, ne_eq, fa_ptr T103 p103_2 (by decide), load_p1 T101 a101, loadc_def, fa_ptr T103 p103_0 (by decide), load_p1 T3 a3, hp1, k1, ixO, c0, hxl, c1, eq_true c2a, callV_fn (g := 63) (by decide)]
      exact stay 2
    have fin3 : ∀ (b : Bool), (n < 1 ∨ 255 < n) → barT (tp R) n new.length b = true := fun b h => by
      unfold barT
      rcases h with h | h
      · rw [decide_eq_true h]; simp
      · rw [decide_eq_true h]; simp
    have fin4 : ¬ (n < 1 ∨ 255 < n) → barT (tp R) n new.length false = false := fun h => by
      unfold barT
      rw [eQ, decide_eq_false c1, decide_eq_false (fun g => h (.inl g)), decide_eq_false (fun g => h (.inr g))]
      have : ¬ new.length = 0 := fun g => c2 (by omega)
      simp [this]
    have cz : ((new.length : Int) = 0) = False := eq_false c2
    by_cases c3 : n < 1
    · simp only [fin3 _ (.inl c3), if_true] at e0
      rw [e0]
      simp +contextual (maxSteps := 3000000) only [↓code_skip, ↓code_seq, ↓code_region, ↓code_cond, ↓code_ret, aCond_bool, ↓ops_nil, ↓ops_cons, run_none, run_someT, run_someF, ↓run0_v, ↓run0_r, ↓seqK_normal, ↓seqK_ret, ↓retK_ret, put_same, put_ne, env0_at, ev_tmp, ev_const, ev_func, oc_int, oc_bool, o_move, o_assign, o_pick, o_bin, o_call, o_len, o_load, o_nilCheck, o_un, o_fieldAddr, g_none, g_some, pick_bool, bin_eql, bin_lss, bin_gtr, nil_ptr, resultsOf, oneOrAll, Option.bind_some, Option.map_some, Option.getD_some, decide_eq_true_eq, ↓reduceIte, Nat.reduceEqDiff, not_false_eq_true, Nat.reduceAdd, reduceCtorEq, List.getElem?_cons_zero, List.getElem?_cons_succ, List.getElem?_toArray, Bool.false_eq_true, List.map_cons, List.map_nil, List.append_nil, List.nil_append, gt_iff_lt, ne_eq, fa_ptr T103 p103_2 (by decide), load_p1 T101 a101, loadc_def, fa_ptr T103 p103_0 (by decide), load_p1 T3 a3, hp1, k1, ixO, c0, hxl, c1, cz, c3, callV_fn (g := 63) (by decide)]
      exact stay 2
    by_cases c4 : 255 < n
    · simp only [fin3 _ (.inr c4), if_true] at e0
      rw [e0]
      simp +contextual (maxSteps := 3000000) only [↓code_skip, ↓code_seq, ↓code_region, ↓code_cond, ↓code_ret, aCond_bool, ↓ops_nil, ↓ops_cons, run_none, run_someT, run_someF, ↓run0_v, ↓run0_r, ↓seqK_normal, ↓seqK_ret, ↓retK_ret, put_same, put_ne, env0_at, ev_tmp, ev_const, ev_func, oc_int, oc_bool, o_move, o_assign, o_pick, o_bin, o_call, o_len, o_load, o_nilCheck, o_un, o_fieldAddr, g_none, g_some, pick_bool, bin_eql, bin_lss, bin_gtr, nil_ptr, resultsOf, oneOrAll, Option.bind_some, Option.map_some, Option.getD_some, decide_eq_true_eq, ↓reduceIte, Nat.reduceEqDiff, not_false_eq_true, Nat.reduceAdd, reduceCtorEq, List.getElem?_cons_zero, List.getElem?_cons_succ, List.getElem?_toArray, Bool.false_eq_true, List.map_cons, List.map_nil, List.append_nil, List.nil_append, gt_iff_lt, ne_eq, fa_ptr T103 p103_2 (by decide), load_p1 T101 a101, loadc_def, fa_ptr T103 p103_0 (by decide), load_p1 T3 a3, hp1, k1, ixO, c0, hxl, c1, cz, c3, c4, callV_fn (g := 63) (by decide)]
      exact stay 2
    have hbF := fin4 (fun g => g.elim c3 c4)
    simp only [hbF, Bool.false_eq_true, if_false] at e0
    obtain ⟨s, hss⟩ : ∃ s, R.ss[i]? = some s := ⟨R.ss[i], List.getElem?_eq_getElem hi⟩
    have hst : (R.ss.map tc)[i]? = some (tc s) := by rw [List.getElem?_map, hss]; rfl
    obtain ⟨hb1, hb2⟩ := hb (tc s) (List.mem_map_of_mem (List.mem_of_getElem? hss))
    have hn1 : 1 ≤ s.nx := hb1.1
    have hn2 : s.nx ≤ 255 := hb1.2
    have hdl : s.d.length ≤ 5000 := hb2
    have e1 : sendT (tp R) c i n new false = if n = befT s.nx ∧ s.tk = true then (0, { tp R with ss := (R.ss.map tc).set i { tc s with s := 0 } })
        else if ¬ n = s.nx then (90, tp R)
        else if 5000 < s.d.length + new.length then (4, { tp R with ss := (R.ss.map tc).eraseIdx i })
        else if false = true then (0, { tp R with ss := (R.ss.map tc).eraseIdx i, js := (tp R).js ++ [(c, s.d ++ new)], qs := if 0 < (tp R).r then (tp R).qs ++ [(c, s.d ++ new)] else (tp R).qs })
        else (0, { tp R with ss := (R.ss.map tc).set i { tc s with d := s.d ++ new, k := true, s := 0, n := s.nx % 255 + 1 } }) := by
      unfold sendT
      rw [show (tp R).ss = R.ss.map tc from rfl, hst]; rfl
    rw [e1] at e0
    obtain ⟨b, cs, kk, g1, g2, g3, g4, g5, g5', g6, g7, g8, g9, ga, gb, _, _, _, _, _, hsv⟩ := loadC hR.s hss
    have hbn : ¬ b = h.next := by have := hR.s.lt hsv; omega
    have w1 : IntKind.i64.wrap (s.nx - 1) = s.nx - 1 := wrap_i64 (by omega) (by omega)
    by_cases c6 : n = befT s.nx ∧ s.tk = true
    · rw [if_pos c6] at e0
      obtain ⟨c6a, c6b⟩ := c6
      rw [c6b] at g9
      have h6 := bef_yes c6a
      obtain ⟨b2, h2, q1, q2, q3, q4, q5, _⟩ := storeC Rc.av 7 Rc.len T101 d101 T106 s106 (w := .int .i64 0) (j := 2) (y := { s with si := 0 }) T3 s3 hR.s hss (by decide) rfl rfl rfl
      rw [ind_eq q1 g1] at q2
      have hS0 : Stf h h2 (R.off p) (R.off p) := ⟨by omega, fun y hy ho => ⟨q5 y ho.2.1, ho⟩⟩
      obtain ⟨hO, hS⟩ := hR.putS (h2 := h2) (l := R.ss.set i { s with si := 0 }) (by omega) (fun y hy ho => q5 y ho) (by rw [List.length_set]; exact q3) (fun y hy => by
        rcases List.mem_or_eq_of_mem_set hy with g | g
        · exact ⟨(hR.sd y g).1.stf hS0, (hR.sd y g).2⟩
        · rw [g]; exact ⟨(hR.sd s (List.mem_of_getElem? hss)).1.stf hS0, (hR.sd s (List.mem_of_getElem? hss)).2⟩)
      rw [e0]
      rcases h6 with ⟨c5, c6e⟩ | ⟨c5, c6e⟩
      all_goals
        simp +contextual (maxSteps := 3000000) only [↓code_skip, ↓code_seq, ↓code_region, ↓code_cond, ↓code_ret, aCond_bool, ↓ops_nil, ↓ops_cons, run_none, run_someT, run_someF, ↓run0_v, ↓run0_h, ↓run0_r, ↓seqK_normal, ↓seqK_ret, ↓retK_ret, put_same, put_ne, put_none, env0_at, ev_tmp, ev_const, ev_func, oc_int, oc_bool, o_move, o_assign, o_pick, o_bin, o_call, o_len, o_load, o_store, o_nilCheck, o_un, o_fieldAddr, o_indexAddr, g_none, g_some, pick_bool, bin_sub, bin_eql, bin_lss, bin_gtr, nil_ptr, resultsOf, oneOrAll, Option.bind_some, Option.map_some, Option.getD_some, decide_eq_true_eq, ↓reduceIte, Nat.reduceEqDiff, not_false_eq_true, Nat.reduceAdd, reduceCtorEq, List.getElem?_cons_zero, List.getElem?_cons_succ, List.getElem?_toArray, Bool.false_eq_true, List.map_cons, List.map_nil, List.append_nil, List.nil_append, gt_iff_lt, ne_eq, fa_ptr T103 p103_2 (by decide), load_p1 T101 a101, loadc_def, fa_ptr T103 p103_0 (by decide), load_p1 T3 a3, fa_ptr T106 p106_3 (by decide), fa_ptr T106 p106_4 (by decide), load_p1 T4 a4, fa_ptr T106 p106_2 (by decide), run0_h, hp1, k1, ixO, c0, hxl, c1, cz, c3, c4, g1, g2, g8, g9, w1, c5, c6e, q2, decide_true, callV_fn (g := 63) (by decide)]
        exact ⟨h2, _, rfl, ⟨_, hO, by unfold tp; rw [List.map_set]; rfl, rfl⟩, stfF hS (Ext.setS (v := R.sv) fun y hy => .inr ((List.mem_or_eq_of_mem_set hy).elim (fun g => ⟨y, g, rfl⟩) fun g => ⟨s, List.mem_of_getElem? hss, by rw [g]⟩))⟩
    rw [if_neg c6] at e0
    have h6 := bef_no c6
    by_cases c7 : n = s.nx
    rotate_left
    · rw [if_pos c7] at e0
      rw [e0]
      rcases h6 with ⟨c5, c6e, htk⟩ | ⟨c5, c6e, htk⟩ | ⟨c5, c6e, htk⟩ | ⟨c5, c6e, htk⟩
      all_goals
        simp +contextual (maxSteps := 3000000) only [↓code_skip, ↓code_seq, ↓code_region, ↓code_cond, ↓code_ret, aCond_bool, ↓ops_nil, ↓ops_cons, run_none, run_someT, run_someF, ↓run0_v, ↓run0_r, ↓seqK_normal, ↓seqK_ret, ↓retK_ret, put_same, put_ne, env0_at, ev_tmp, ev_const, ev_func, oc_int, oc_bool, o_move, o_assign, o_pick, o_bin, o_call, o_len, o_load, o_nilCheck, o_un, o_fieldAddr, o_indexAddr, g_none, g_some, pick_bool, bin_sub, bin_eql, bin_neq, bin_lss, bin_gtr, nil_ptr, resultsOf, oneOrAll, Option.bind_some, Option.map_some, Option.getD_some, decide_eq_true_eq, ↓reduceIte, Nat.reduceEqDiff, not_false_eq_true, Nat.reduceAdd, reduceCtorEq, List.getElem?_cons_zero, List.getElem?_cons_succ, List.getElem?_toArray, Bool.false_eq_true, List.map_cons, List.map_nil, List.append_nil, List.nil_append, gt_iff_lt, Bool.not_eq_eq_eq_not, Bool.not_true, ne_eq, decide_eq_false_iff_not, fa_ptr T103 p103_2 (by decide), load_p1 T101 a101, loadc_def, fa_ptr T103 p103_0 (by decide), load_p1 T3 a3, fa_ptr T106 p106_3 (by decide), fa_ptr T106 p106_4 (by decide), load_p1 T4 a4, hp1, k1, ixO, c0, hxl, c1, cz, c3, c4, g1, g2, g8, g9, w1, c5, c6e, htk, c7, callV_fn (g := 63) (by decide)]
        exact stay 90
    rw [if_neg (fun g => g c7)] at e0
    have hdv := fun h => RowC.len (h2 := h) T48 d48 (hR.sd s (List.mem_of_getElem? hss)).1.1
    have w3 : IntKind.i64.wrap ((s.d.length : Int) + (new.length : Int)) = (s.d.length : Int) + (new.length : Int) := wrap_i64 (by omega) (by omega)
    by_cases c8 : 5000 < (s.d.length : Int) + (new.length : Int)
    · rw [if_pos (by omega)] at e0
      obtain ⟨v2, h2, q1, q2, q3, q4⟩ := run64 h64 (m + 294) i R.sv R.ss h hR.s hi (by omega) hR.oneS
      obtain ⟨hR2, hS2⟩ := hR.setS q4 q2 q3 (fun c hc => ⟨(hR.sd c (mem_erase hc)).2, .inr ⟨c, mem_erase hc, rfl, rfl⟩⟩)
      have hp2 : h2.get p = some (.cells R.cs .own) := by rw [q4.2 p hR.lt]; exact hR.g
      have hst2 : aStore T 101 (.ptr p 2) v2 h2 = some (h2.put p (.cells ({ R with sv := v2, ss := R.ss.eraseIdx i } : Rf).cs .own)) :=
        store_1 (cs := R.cs) T101 s101 (RowC.cells q2).1 (RowC.cells q2).2 hp2 (by simp [Rf.cs])
      rw [e0]
      rcases h6 with ⟨c5, c6e, htk⟩ | ⟨c5, c6e, htk⟩ | ⟨c5, c6e, htk⟩ | ⟨c5, c6e, htk⟩
      all_goals
        simp +contextual (maxSteps := 3000000) only [↓code_skip, ↓code_seq, ↓code_region, ↓code_cond, ↓code_ret, aCond_bool, ↓ops_nil, ↓ops_cons, run_none, run_someT, run_someF, ↓run0_v, ↓run0_h, ↓run0_r, ↓seqK_normal, ↓seqK_ret, ↓retK_ret, put_same, put_ne, put_none, env0_at, ev_tmp, ev_const, ev_func, oc_int, oc_bool, o_move, o_assign, o_pick, o_bin, o_call, o_len, o_load, o_store, o_nilCheck, o_un, o_fieldAddr, o_indexAddr, g_none, g_some, pick_bool, bin_add, bin_sub, bin_eql, bin_neq, bin_lss, bin_gtr, nil_ptr, resultsOf, oneOrAll, Option.bind_some, Option.map_some, Option.getD_some, decide_eq_true_eq, ↓reduceIte, Nat.reduceEqDiff, not_false_eq_true, not_true_eq_false, Nat.reduceAdd, reduceCtorEq, List.getElem?_cons_zero, List.getElem?_cons_succ, List.getElem?_toArray, Bool.false_eq_true, List.map_cons, List.map_nil, List.append_nil, List.nil_append, gt_iff_lt, Bool.not_eq_eq_eq_not, Bool.not_true, ne_eq, decide_eq_false_iff_not, fa_ptr T103 p103_2 (by decide), load_p1 T101 a101, loadc_def, fa_ptr T103 p103_0 (by decide), load_p1 T3 a3, fa_ptr T106 p106_3 (by decide), fa_ptr T106 p106_4 (by decide), load_p1 T4 a4, run0_h, fa_ptr T106 p106_5 (by decide), load_p1 T48 a48, hp1, k1, ixO, c0, hxl, c1, cz, c3, c4, g1, g2, g8, g9, ga, w1, c5, c6e, htk, eq_true c7, hdv, w3, c8, q1, hst2, callV_fn (g := 63) (by decide), callV_fn (g := 64) (by decide)]
        exact ⟨_, _, rfl, ⟨_, hR2, by unfold tp; rw [map_eraseIdx], rfl⟩, stfF hS2 (Ext.setS fun c hc => .inr ⟨c, mem_erase hc, rfl⟩)⟩
    rw [if_neg (by omega)] at e0
    obtain ⟨bb, v1, h1, v2, h2, hA, hB, hC, hD, y1, y2, y3, y4, y5, y6, y7, ⟨csA, kA, y8, y9⟩, ⟨csD, kD, ya, yb⟩, hO, hS, him, hex, hvm⟩ := hR.piece hss hx.sub (by omega)
    rw [ind_eq y1 g1] at y4 y5 y6 y7 y8 ya
    have w4 : s.nx.tmod 255 = s.nx % 255 := Int.tmod_eq_emod_of_nonneg (by omega)
    have w6 : IntKind.i64.wrap (s.nx % 255) = s.nx % 255 := wrap_i64 (by omega) (by omega)
    have w5 : IntKind.i64.wrap (s.nx % 255 + 1) = s.nx % 255 + 1 := wrap_i64 (by omega) (by omega)
    have hpD : hD.get p = some (.cells [.int .i64 R.q, .int .i64 R.r, R.sv, R.wv, R.jv, R.qv, .int .i64 R.ap, .int .i64 R.sq] .own) := hO.g
    rw [if_neg (by simp)] at e0
    rw [e0]
    rcases h6 with ⟨c5, c6e, htk⟩ | ⟨c5, c6e, htk⟩ | ⟨c5, c6e, htk⟩ | ⟨c5, c6e, htk⟩
    all_goals
      simp +contextual (maxSteps := 3000000) only [↓code_skip, ↓code_seq, ↓code_region, ↓code_cond, ↓code_ret, aCond_bool, ↓ops_nil, ↓ops_cons, run_none, run_someT, run_someF, ↓run0_v, ↓run0_h, ↓run0_r, ↓seqK_normal, ↓retK_ret, put_same, put_ne, put_none, env0_at, ev_tmp, ev_const, ev_func, oc_int, oc_bool, o_move, o_assign, o_pick, o_bin, o_call, o_len, o_buildSlice, o_load, o_store, o_nilCheck, o_un, o_fieldAddr, o_indexAddr, o_append, g_none, g_some, pick_bool, bin_add, bin_sub, bin_rem, bin_eql, bin_neq, bin_lss, bin_gtr, nil_ptr, resultsOf, oneOrAll, Option.bind_some, Option.map_some, Option.getD_some, decide_eq_true_eq, ↓reduceIte, Nat.reduceEqDiff, not_false_eq_true, not_true_eq_false, Nat.reduceAdd, reduceCtorEq, List.getElem?_cons_zero, List.getElem?_cons_succ, List.getElem?_toArray, Bool.false_eq_true, List.map_cons, List.map_nil, List.append_nil, List.nil_append, AH.get_alloc, gt_iff_lt, Bool.not_eq_eq_eq_not, Bool.not_true, ne_eq, decide_eq_false_iff_not, fa_ptr T103 p103_2 (by decide), load_p1 T101 a101, loadc_def, fa_ptr T103 p103_0 (by decide), load_p1 T3 a3, fa_ptr T106 p106_3 (by decide), fa_ptr T106 p106_4 (by decide), load_p1 T4 a4, fa_ptr T106 p106_2 (by decide), run0_h, fa_ptr T106 p106_5 (by decide), load_p1 T48 a48, buildSl T48 d48 T5 (n := 0) (by rw [s5]; decide), s5, parts_eq, fillA, repl, hbn, hp1, k1, ixO, c0, hxl, c1, cz, c3, c4, g1, g2, g8, g9, ga, w1, c5, c6e, htk, eq_true c7, hdv, w3, c8, y2, y3, y4, y5, y6, y7, y8, y9, w4, w5, (show ¬ (255 : Int) = 0 by decide), callV_fn (g := 63) (by decide)]
      exact ⟨hD, _, rfl, ⟨_, hO, by unfold tp; rw [List.map_set]; rfl, rfl⟩, stfF hS hex⟩
theorem L65 {I : Nat → Option (List AV → AH → Rs)} (h63 : I 63 = none) (h64 : I 64 = none) (h65 : I 65 = none) (m p : Nat) (c n : Int) (x : AV) (en : Bool) (Q : Tp) (off : Nat → Prop) (h : AH) (new : List Int) (hQ : OkT h p Q off) (hx : Pc off h x new) (hb : ∀ s ∈ Q.ss, (1 ≤ s.n ∧ s.n ≤ 255) ∧ s.d.length ≤ 5000) (hnl : new.length ≤ 1000000000000000)
    (hl : Q.ws.length ≤ 200 ∧ Q.ss.length ≤ 200) (hjl : Q.js.length ≤ 1000000 ∧ Q.qs.length ≤ 1000000) :
    ∃ h2 off2, call F I T (m + 300) 65 [.ptr p 0, .int .i64 c, .int .i64 n, x, .bool en] h = some (.int .i64 (SendT Q c n new en).1, h2) ∧ OkT h2 p (SendT Q c n new en).2 off2 ∧ Stf h h2 off off2 := by
  cases en with
  | true => exact L65t h63 h64 h65 m p c n x Q off h new hQ hx hb hnl hl hjl
  | false => exact L65f h63 h64 h65 m p c n x Q off h new hQ hx hb hnl hl hjl
theorem L48 {I : Nat → Option (List AV → AH → Rs)} (h63 : I 63 = none) (h64 : I 64 = none) (h65 : I 65 = none) (h48 : I 48 = none) (m p : Nat) (c n : Int) (x : AV) (en : Bool) (Q : Tp) (off : Nat → Prop) (h : AH) (new : List Int) (hQ : OkT h p Q off) (hx : Pc off h x new) (hb : ∀ s ∈ Q.ss, (1 ≤ s.n ∧ s.n ≤ 255) ∧ s.d.length ≤ 5000) (hnl : new.length ≤ 1000000000000000)
    (hl : Q.ws.length ≤ 200 ∧ Q.ss.length ≤ 200) (hjl : Q.js.length ≤ 1000000 ∧ Q.qs.length ≤ 1000000) :
    ∃ h2 off2, call F I T (m + 301) 48 [.ptr p 0, .int .i64 c, .int .i64 n, x, .bool en] h = some (.int .i64 (if c < 1 then (5, Q) else SendT Q c n new en).1, h2) ∧ OkT h2 p (if c < 1 then (5, Q) else SendT Q c n new en).2 off2 ∧ Stf h h2 off off2 := by
  obtain ⟨h2, off2, q1, q2, q3⟩ := L65 h63 h64 h65 m p c n x en Q off h new hQ hx hb hnl hl hjl
  rw [call_F (by decide) h48 F48 rfl R48]; simp only [Tryd.f48, Option.getD]
  by_cases c1 : c < 1
  · simp only [if_pos c1]
    simp +contextual (maxSteps := 3000000) only [↓code_seq, ↓code_region, ↓code_cond, ↓code_ret, aCond_bool, ↓ops_nil, ↓ops_cons, run_none, ↓run0_v, ↓seqK_normal, ↓seqK_ret, ↓retK_ret, put_same, put_ne, env0_at, ev_tmp, ev_const, oc_int, o_move, o_assign, o_bin, g_none, bin_lss, resultsOf, oneOrAll, Option.map_some, Option.getD_some, decide_eq_true_eq, ↓reduceIte, Nat.reduceEqDiff, not_false_eq_true, List.getElem?_cons_zero, List.getElem?_cons_succ, ne_eq, c1]
    exact ⟨h, off, rfl, hQ, Stf.refl _ _⟩
  · simp only [if_neg c1]
    simp +contextual (maxSteps := 3000000) only [↓code_skip, ↓code_seq, ↓code_region, ↓code_cond, ↓code_ret, aCond_bool, ↓ops_nil, ↓ops_cons, run_none, ↓run0_v, ↓run0_r, ↓seqK_normal, ↓retK_ret, put_same, put_ne, env0_at, ev_tmp, ev_const, ev_func, oc_int, o_move, o_assign, o_bin, o_call, g_none, bin_lss, resultsOf, oneOrAll, Option.map_some, Option.getD_some, decide_eq_true_eq, ↓reduceIte, Nat.reduceEqDiff, not_false_eq_true, reduceCtorEq, List.getElem?_cons_zero, List.getElem?_cons_succ, List.map_cons, List.map_nil, List.append_nil, List.nil_append, ne_eq, c1, q1, callV_fn (g := 65) (by decide)]
    exact ⟨h2, off2, rfl, q2, q3⟩
end Go.AM.X
