/- PrinterPlays: both look the same; the law. Own work. -/
import Derived.Test.YtleefbnanliliaaDoorPcgR
namespace Go.AM.X
open Go Go.AM Go.Proofs Go.AM.Sx
set_option maxHeartbeats 6400000
set_option maxRecDepth 100000
set_option linter.unusedVariables false
theorem F29 : F 29 = some { body := (Tryd.f29.body.getD .skip), results := Tryd.f29.results.toList, rf := false } := by kernel_rfl
theorem R29 : regsOk T (Tryd.f29.body.getD .skip) = true := by kernel_rfl
theorem F27 : F 27 = some { body := (Tryd.f27.body.getD .skip), results := Tryd.f27.results.toList, rf := false } := by kernel_rfl
theorem R27 : regsOk T (Tryd.f27.body.getD .skip) = true := by kernel_rfl
theorem F17 : F 17 = some { body := (Tryd.f17.body.getD .skip), results := Tryd.f17.results.toList, rf := false } := by kernel_rfl
theorem R17 : regsOk T (Tryd.f17.body.getD .skip) = true := by kernel_rfl
theorem F7 : F 7 = some { body := (Tryd.f7.body.getD .skip), results := Tryd.f7.results.toList, rf := false } := by kernel_rfl
theorem R7 : regsOk T (Tryd.f7.body.getD .skip) = true := by kernel_rfl
theorem L54 {I : Nat → Option (List AV → AH → Rs)} (h54 : I 54 = none) (m p : Nat) (Q : Tp) (off : Nat → Prop) (h : AH) (hQ : OkT h p Q off) : ∃ v K, call F I T (m + 2) 54 [.ptr p 0] h = some (v, h) ∧ RowG 2 h v K.length (jcs K) ∧ (∀ j ∈ K, Dat h j.d j.bs) ∧ K.map jv = Q.js := by
  obtain ⟨R, hR, rfl, rfl⟩ := hQ
  have hp1 : h.get p = some (.cells [.int .i64 R.q, .int .i64 R.r, R.sv, R.wv, R.jv, R.qv, .int .i64 R.ap, .int .i64 R.sq] .own) := hR.g
  refine ⟨R.jv, R.js, ?_, hR.j.1, fun j hj => (hR.jd j hj).1, rfl⟩
  rw [call_F (by decide) h54 F54 rfl R54]; simp only [Tryd.f54, Option.getD]
  simp +contextual (maxSteps := 3000000) only [↓code_seq, ↓code_region, ↓code_ret, ↓ops_nil, ↓ops_cons, run_none, ↓run0_v, ↓seqK_normal, ↓retK_ret, put_same, put_ne, env0_at, ev_tmp, ev_const, oc_nils, o_move, o_assign, o_load, o_nilCheck, o_fieldAddr, g_none, nil_ptr, resultsOf, oneOrAll, Option.map_some, Option.getD_some, not_false_eq_true, Nat.reduceAdd, reduceCtorEq, List.getElem?_cons_zero, List.getElem?_cons_succ, ne_eq, fa_ptr T103 p103_4 (by decide), load_p1 T51 a51, loadc_def, hp1]
theorem run29 {I : Nat → Option (List AV → AH → Rs)} (h32 : I 32 = none) (h14 : I 14 = none) (h16 : I 16 = none) (h25 : I 25 = none) (h44 : I 44 = some itG) (h19 : I 19 = none) (h23 : I 23 = none) (h45 : I 45 = none) (h24 : I 24 = none) (h31 : I 31 = none) (h66 : I 66 = none) (h52 : I 52 = none) (h53 : I 53 = none) (h54 : I 54 = none) (h55 : I 55 = none) (h56 : I 56 = none) (h29 : I 29 = none) (h63 : I 63 = none) (h64 : I 64 = none) (m n p r s t : Nat) (V : Vp) (Q : Tp) (oV oQ : Nat → Prop) (h : AH) (hV : OkV h p V oV) (hQ : OkT h r Q oQ) (hR : Rel t V Q) (hI : Inv n s V) (hn : n ≤ 1000) :
    ∃ h2, call F I T (m + 1300) 29 [.ptr p 0, .ptr r 0] h = some (.bool true, h2) ∧ Grow h h2 := by
  have hq : ¬ V.q = 0 := by have := hI.q; omega
  obtain ⟨⟨f1a, f1b⟩, _, _, _, f5, f6, _, f8, _⟩ := hR.fit hI
  have ecs : Q.ss.map Ts.c = V.ss.map Vs.c := by rw [hR.ss, List.map_map]; rfl
  have ecw : Q.ws.map Wt.c = V.ws.map Wt.c := by rw [hR.ws, List.map_map]; rfl
  have hjl := hI.jl
  have hwl := hI.wl
  have hsl : V.ss.length ≤ 20 := by have := hI.sl; have := hI.r; omega
  obtain ⟨v1, h1, a1', a2', a3', a4'⟩ := V14' h32 h14 (m + 1099) p V oV h hV hq
  obtain ⟨v2, h2, b1', b2', b3', b4'⟩ := L52 h66 h52 (m + 1049) r Q oQ h1 (hQ.grow a4') f1b
  rw [ecs] at b2'
  have g2 := a4'.trans b4'
  have k31 := run31 h31 (m + 1279) v1 v2 (V.ss.map Vs.c) h2 (a2'.grow b4') b2' ⟨by rw [List.length_map]; omega, by rw [List.length_map]; omega⟩
  obtain ⟨v3, h3, c1', c2', c3', c4'⟩ := V16 h32 h16 (m + 1099) p V oV h2 (hV.grow g2) hq
  have g3 := g2.trans c4'
  obtain ⟨v4, h4, d1', d2', d3', d4'⟩ := L53 h66 h53 (m + 1049) r Q oQ h3 (hQ.grow g3) f1a
  rw [ecw] at d2'
  have g4 := g3.trans d4'
  have k31b := run31 h31 (m + 1279) v3 v4 (V.ws.map Wt.c) h4 (c2'.grow d4') d2' ⟨by rw [List.length_map]; omega, by rw [List.length_map]; omega⟩
  obtain ⟨v5, J, h5, x1, x2, x3, x4⟩ := V24 h32 h45 h24 (m + 1099) p V oV h4 (hV.grow g4) hq ⟨by omega, by omega⟩ hI.jd
  have g5 := g4.trans x4
  obtain ⟨v6, K, y1, y2, y3, y4⟩ := L54 h54 (m + 1297) r Q oQ h5 (hQ.grow g5)
  have hJl : J.length ≤ 1000 := by have := congrArg List.length x3; rw [List.length_map] at this; omega
  have k23 := run23G h23 (m + 1279) v5 v6 J K _ h5 x2 y2 y3 (by rw [x3, y4, hR.js]) ⟨by omega, by omega⟩
  have hV5 := hV.grow g5
  have hQ5 := hQ.grow g5
  have hlf := hI.lf
  have k25 := V25 h32 h25 (m + 1289) p V oV h5 hV5 hq ⟨by omega, by omega, by omega⟩
  have k55 := L55 h55 (m + 1297) r Q oQ h5 hQ5
  have k19 := V19 h32 h25 h44 h19 (m + 1279) p V oV h5 hV5 hq hI.r.1 ⟨by omega, by omega, by omega⟩ (fun x hx => (hI.sb x hx).2.2.2.1)
  have k56 := L56 h44 h56 (m + 1294) r Q oQ h5 hQ5 (by omega) f8
  have eq1 : (if V.r = 0 then (0 : Int) else ((V.js.length : Nat) : Int) - V.lf) = ((Q.qs.length : Nat) : Int) := by
    rw [hR.qs]
    by_cases z : V.r = 0
    · rw [if_pos z, if_neg (by omega)]; rfl
    · rw [if_neg z, if_pos (by have := hI.r.1; omega), List.length_drop]; omega
  have eq2 : statS Q.r ((Q.qs.length : Nat) : Int) (Q.ss.map Ts.c) = statS V.r (((V.js.length : Nat) : Int) - V.lf) (V.ss.map Vs.c) := by
    rw [hR.r, ecs]
    unfold statS
    by_cases z : 0 < V.r
    · rw [if_pos z, if_pos z, ← eq1, if_neg (by omega)]
    · rw [if_neg z, if_neg z]
  rw [eq1] at k25
  rw [eq2] at k56
  refine ⟨h5, ?_, g5⟩
  rw [call_F (by decide) h29 F29 rfl R29]; simp only [Tryd.f29, Option.getD]
  simp +contextual (maxSteps := 3000000) only [↓code_seq, ↓code_region, ↓code_ret, ↓ops_nil, ↓ops_cons, run_none, run_someT, ↓run0_v, ↓run0_r, ↓seqK_normal, ↓retK_ret, put_same, put_ne, env0_at, ev_tmp, ev_const, ev_func, oc_bool, o_move, o_assign, o_pick, o_bin, o_call, g_none, g_some, pick_bool, bin_eql, str_eql, resultsOf, oneOrAll, Option.bind_some, Option.map_some, Option.getD_some, ↓reduceIte, Nat.reduceEqDiff, not_false_eq_true, reduceCtorEq, List.getElem?_cons_zero, List.getElem?_cons_succ, List.getElem?_toArray, List.map_cons, List.map_nil, List.append_nil, List.nil_append, ne_eq, a1', b1', k31, c1', d1', k31b, x1, y1, k23, k25, k55, k19, k56, decide_true, callV_fn (g := 14) (by decide), callV_fn (g := 52) (by decide), callV_fn (g := 31) (by decide), callV_fn (g := 16) (by decide), callV_fn (g := 53) (by decide), callV_fn (g := 24) (by decide), callV_fn (g := 54) (by decide), callV_fn (g := 23) (by decide), callV_fn (g := 25) (by decide), callV_fn (g := 55) (by decide), callV_fn (g := 19) (by decide), callV_fn (g := 56) (by decide)]
theorem run27 {I : Nat → Option (List AV → AH → Rs)} (h32 : I 32 = none) (h14 : I 14 = none) (h16 : I 16 = none) (h25 : I 25 = none) (h44 : I 44 = some itG) (h19 : I 19 = none) (h23 : I 23 = none) (h45 : I 45 = none) (h24 : I 24 = none) (h31 : I 31 = none) (h66 : I 66 = none) (h52 : I 52 = none) (h53 : I 53 = none) (h54 : I 54 = none) (h55 : I 55 = none) (h56 : I 56 = none) (h29 : I 29 = none) (h27 : I 27 = none) (h63 : I 63 = none) (h64 : I 64 = none) (m n b mb p s r t : Nat) (sq : Int → Int) (V S : Vp) (Q U : Tp) (oV oS oQ oU : Nat → Prop) (h : AH) (hW : W7 h b mb p s r t sq V S Q U oV oS oQ oU) (hP : Pair n s t V S Q U) (hn : n ≤ 1000) :
    ∃ h2, call F I T (m + 1301) 27 [.ptr b 0] h = some (.bool true, h2) ∧ Grow h h2 := by
  obtain ⟨h2, q1, q2⟩ := run29 h32 h14 h16 h25 h44 h19 h23 h45 h24 h31 h66 h52 h53 h54 h55 h56 h29 h63 h64 m n p r s t V Q oV oQ h hW.fv hW.fq hP.a hP.ia hn
  have W2 := hW.grow q2
  obtain ⟨h3, q3, q4⟩ := run29 h32 h14 h16 h25 h44 h19 h23 h45 h24 h31 h66 h52 h53 h54 h55 h56 h29 h63 h64 m n s t s t S U oS oU h2 W2.fs W2.fu hP.b hP.ib hn
  have bx := hW.bx
  have bx2 := W2.bx
  refine ⟨h3, ?_, q2.trans q4⟩
  rw [call_F (by decide) h27 F27 rfl R27]; simp only [Tryd.f27, Option.getD]
  simp +contextual (maxSteps := 3000000) only [↓code_seq, ↓code_region, ↓code_ret, ↓ops_nil, ↓ops_cons, run_none, run_someT, ↓run0_v, ↓run0_r, ↓seqK_normal, ↓retK_ret, put_same, put_ne, env0_at, ev_tmp, ev_const, ev_func, oc_bool, o_move, o_assign, o_pick, o_call, o_load, o_nilCheck, o_fieldAddr, g_none, g_some, pick_bool, nil_ptr, resultsOf, oneOrAll, Option.bind_some, Option.map_some, Option.getD_some, ↓reduceIte, Nat.reduceEqDiff, not_false_eq_true, Nat.reduceAdd, reduceCtorEq, List.getElem?_cons_zero, List.getElem?_cons_succ, List.getElem?_toArray, List.map_cons, List.map_nil, List.append_nil, List.nil_append, ne_eq, fa_ptr T43 p43_0 (by decide), load_p1 T23 a23, loadc_def, fa_ptr T43 p43_2 (by decide), load_p1 T40 a40, fa_ptr T43 p43_1 (by decide), fa_ptr T43 p43_3 (by decide), bx, q1, bx2, q3, callV_fn (g := 29) (by decide)]
end Go.AM.X
namespace Go.AM.X
open Go Go.AM Go.Proofs Go.AM.Sx
set_option maxHeartbeats 6400000
set_option maxRecDepth 100000
set_option linter.unusedVariables false
def okRm (r : Int) : Bool := within r 1 20
def prf (q r : Int) : AB := .cells [.int .i64 q, .int .i64 r, .nils, .nils, .nils, .nils, .int .i64 0, .int .i64 0] .own
theorem L20 {I : Nat → Option (List AV → AH → Rs)} (h30 : I 30 = none) (h20 : I 20 = none) (m : Nat) (q r : Int) (h : AH) : call F I T (m + 2) 20 [.int .i64 q, .int .i64 r] h = if okQ q = true ∧ okRm r = true then some (.tup [.ptr h.next 0, .int .i64 0], h.alloc (prt q r)) else some (.tup [.nilp, .int .i64 2], h) := by
  rw [call_F (by decide) h20 F20 rfl R20]; simp only [Tryd.f20, Option.getD]
  cases hq : within q 1 500 <;> cases hr : within r 1 20 <;> simp +contextual (maxSteps := 3000000) only [↓code_skip, ↓code_seq, ↓code_region, ↓code_cond, ↓code_ret, aCond_bool, ↓ops_nil, ↓ops_cons, run_none, run_someF, ↓run0_v, ↓run0_r, ↓seqK_normal, ↓seqK_ret, ↓retK_ret, put_same, put_ne, env0_at, ev_tmp, ev_const, ev_func, oc_int, oc_bool, oc_nilp, o_move, o_assign, o_pick, o_call, o_box, o_build, o_un, g_none, g_some, pick_bool, un_not, resultsOf, oneOrAll, Option.bind_some, Option.map_some, Option.getD_some, ↓reduceIte, Nat.reduceEqDiff, not_false_eq_true, Nat.reduceAdd, reduceCtorEq, List.getElem?_cons_zero, List.getElem?_cons_succ, List.getElem?_toArray, Bool.false_eq_true, List.map_cons, List.map_nil, List.append_nil, List.nil_append, List.cons_append, and_true, Nat.reduceLeDiff, Bool.not_true, Bool.not_false, ne_eq, build_struct T73 d73, z73, parts_eq, fillA, AV.cells, AH.splice, List.take_succ_cons, List.take_zero, List.drop_succ_cons, List.drop_zero, List.length_cons, List.length_nil, p73_0, p73_1, box_agg, callV_fn (g := 30) (by decide), K30 h30, okQ, okRm, prt, hq, hr, and_self, and_false]
theorem L40 {I : Nat → Option (List AV → AH → Rs)} (h40 : I 40 = none) (m : Nat) (q : Int) (h : AH) : call F I T (m + 2) 40 [.int .i64 q] h = if okQ q = true then some (.tup [.ptr h.next 0, .int .i64 0], h.alloc (prf q 0)) else some (.tup [.nilp, .int .i64 2], h) := by
  rw [call_F (by decide) h40 F40 rfl R40]; simp only [Tryd.f40, Option.getD]
  simp +contextual (maxSteps := 3000000) only [↓code_skip, ↓code_seq, ↓code_region, ↓code_cond, ↓code_ret, aCond_bool, ↓ops_nil, ↓ops_cons, run_none, run_someF, ↓run0_v, ↓run0_r, ↓seqK_normal, ↓seqK_ret, ↓retK_ret, put_same, put_ne, env0_at, ev_tmp, ev_const, oc_int, oc_bool, oc_nilp, o_move, o_assign, o_pick, o_bin, o_box, o_build, g_none, g_some, pick_bool, bin_lss, bin_gtr, resultsOf, oneOrAll, Option.bind_some, Option.map_some, Option.getD_some, decide_eq_true_eq, ↓reduceIte, Nat.reduceEqDiff, not_false_eq_true, Nat.reduceAdd, reduceCtorEq, List.getElem?_cons_zero, List.getElem?_cons_succ, List.getElem?_toArray, List.map_cons, List.map_nil, List.nil_append, List.cons_append, and_true, Nat.reduceLeDiff, gt_iff_lt, ne_eq, build_struct T103 d103, z103, parts_eq, fillA, AV.cells, AH.splice, List.take_zero, List.drop_succ_cons, List.drop_zero, List.length_cons, List.length_nil, p103_0, box_agg, okQ, within, prf]
  (repeat' split) <;> (try simp_all) <;> (try omega)
theorem L41 {I : Nat → Option (List AV → AH → Rs)} (h41 : I 41 = none) (m : Nat) (q r : Int) (h : AH) : call F I T (m + 2) 41 [.int .i64 q, .int .i64 r] h = if okQ q = true ∧ okRm r = true then some (.tup [.ptr h.next 0, .int .i64 0], h.alloc (prf q r)) else some (.tup [.nilp, .int .i64 2], h) := by
  rw [call_F (by decide) h41 F41 rfl R41]; simp only [Tryd.f41, Option.getD]
  simp +contextual (maxSteps := 3000000) only [↓code_skip, ↓code_seq, ↓code_region, ↓code_cond, ↓code_ret, aCond_bool, ↓ops_nil, ↓ops_cons, run_none, run_someF, ↓run0_v, ↓run0_r, ↓seqK_normal, ↓seqK_ret, ↓retK_ret, put_same, put_ne, env0_at, ev_tmp, ev_const, oc_int, oc_bool, oc_nilp, o_move, o_assign, o_pick, o_bin, o_box, o_build, g_none, g_some, pick_bool, bin_lss, bin_gtr, resultsOf, oneOrAll, Option.bind_some, Option.map_some, Option.getD_some, decide_eq_true_eq, ↓reduceIte, Nat.reduceEqDiff, not_false_eq_true, Nat.reduceAdd, reduceCtorEq, List.getElem?_cons_zero, List.getElem?_cons_succ, List.getElem?_toArray, List.map_cons, List.map_nil, List.nil_append, List.cons_append, and_true, Nat.reduceLeDiff, gt_iff_lt, ne_eq, build_struct T103 d103, z103, parts_eq, fillA, AV.cells, AH.splice, List.take_succ_cons, List.take_zero, List.drop_succ_cons, List.drop_zero, List.length_cons, List.length_nil, p103_0, p103_1, box_agg, okQ, okRm, within, prf]
  (repeat' split) <;> (try simp_all) <;> (try omega)
def bxG (q w r : Int) : AB := .cells [.int .i64 q, .int .i64 w, .int .i64 r] .own
def hp17 (q w r : Int) : AH := ((((((((e0.alloc (bxG q w r)).alloc (bxG q w r)).alloc (prt q 0)).alloc (prf q 0)).alloc (prt w r)).alloc (prf w r)).alloc (.map [])).alloc
        (.cells [.ptr 2 0, .ptr 4 0, .ptr 3 0, .ptr 5 0, .mp 6] .own))
theorem run17ok {I : Nat → Option (List AV → AH → Rs)} (h30 : I 30 = none) (h10 : I 10 = none) (h20 : I 20 = none) (h40 : I 40 = none) (h41 : I 41 = none) (h17 : I 17 = none) (m : Nat) (q w r : Int) (hq : okQ q = true) (hs : okQ w = true ∧ okRm r = true) :
    call F I T (m + 4) 17 [.agg [.int .i64 q, .int .i64 w, .int .i64 r]] (e0.alloc (bxG q w r)) = some (.tup [.ptr 7 0, .bool true], hp17 q w r) := by
  rw [call_F (by decide) h17 F17 rfl R17]; simp only [Tryd.f17, Option.getD]
  simp +contextual (maxSteps := 3000000) only [↓code_skip, ↓code_seq, ↓code_region, ↓code_cond, ↓code_ret, aCond_bool, ↓ops_nil, ↓ops_cons, run_none, run_someF, ↓run0_v, ↓run0_r, ↓seqK_normal, ↓retK_ret, put_same, put_ne, env0_at, ev_tmp, ev_const, ev_func, oc_int, oc_bool, oc_nilp, o_move, o_assign, o_pick, o_bin, o_call, o_box, o_build, o_load, o_fieldAddr, o_extract, g_none, g_some, pick_bool, bin_eql, bin_neq, extract_tup, next_e0, resultsOf, oneOrAll, Option.bind_some, Option.map_some, Option.getD_some, decide_eq_true_eq, ↓reduceIte, Nat.reduceEqDiff, not_false_eq_true, not_true_eq_false, Nat.reduceAdd, List.getElem?_cons_zero, List.getElem?_cons_succ, List.getElem?_toArray, List.map_cons, List.map_nil, List.append_nil, List.nil_append, List.cons_append, AH.get_alloc, AH.next_alloc, and_true, Nat.reduceLeDiff, Nat.le_refl, Bool.not_eq_eq_eq_not, Bool.not_true, ne_eq, decide_eq_false_iff_not, box_agg, fa_ptr T36 p36_0 (by decide), load_p1 T3 a3, loadc_def, fa_ptr T36 p36_1 (by decide), fa_ptr T36 p36_2 (by decide), pn_neq T23 d23, bool_neq T4 d4, o_makeMap, build_struct T43 d43, z43, parts_eq, fillA, AV.cells, AH.splice, List.take_succ_cons, List.take_zero, List.drop_succ_cons, List.drop_zero, List.drop_nil, List.length_cons, List.length_nil, p43_0, p43_1, p43_2, p43_3, p43_4, callV_fn (g := 10) (by decide), K10 h30 h10, L20 h30 h20, L40 h40, L41 h41, callV_fn (g := 20) (by decide), callV_fn (g := 40) (by decide), callV_fn (g := 41) (by decide), hq, hs, o_makeMap, bxG, hp17]
theorem run17no {I : Nat → Option (List AV → AH → Rs)} (h30 : I 30 = none) (h10 : I 10 = none) (h20 : I 20 = none) (h40 : I 40 = none) (h41 : I 41 = none) (h17 : I 17 = none) (m : Nat) (q w r : Int) (hq : ¬ (okQ q = true ∧ okQ w = true ∧ okRm r = true)) :
    ∃ h', call F I T (m + 4) 17 [.agg [.int .i64 q, .int .i64 w, .int .i64 r]] (e0.alloc (bxG q w r)) = some (.tup [.nilp, .bool true], h') := by
  rw [call_F (by decide) h17 F17 rfl R17]; simp only [Tryd.f17, Option.getD]
  by_cases h1 : okQ q = true
  · have h2 : ¬ (okQ w = true ∧ okRm r = true) := fun h => hq ⟨h1, h⟩
    simp +contextual (maxSteps := 3000000) only [↓code_skip, ↓code_seq, ↓code_region, ↓code_cond, ↓code_ret, aCond_bool, ↓ops_nil, ↓ops_cons, run_none, run_someF, ↓run0_v, ↓run0_r, ↓seqK_normal, ↓seqK_ret, ↓retK_ret, put_same, put_ne, env0_at, ev_tmp, ev_const, ev_func, oc_int, oc_bool, oc_nilp, o_move, o_assign, o_pick, o_bin, o_call, o_box, o_build, o_load, o_fieldAddr, o_extract, g_none, g_some, pick_bool, bin_eql, bin_neq, extract_tup, next_e0, resultsOf, oneOrAll, Option.bind_some, Option.map_some, Option.getD_some, decide_eq_true_eq, ↓reduceIte, Nat.reduceEqDiff, not_false_eq_true, not_true_eq_false, Nat.reduceAdd, List.getElem?_cons_zero, List.getElem?_cons_succ, List.getElem?_toArray, List.map_cons, List.map_nil, List.append_nil, List.nil_append, List.cons_append, AH.get_alloc, AH.next_alloc, and_true, Nat.reduceLeDiff, Nat.le_refl, Bool.not_eq_eq_eq_not, Bool.not_true, ne_eq, decide_eq_false_iff_not, box_agg, fa_ptr T36 p36_0 (by decide), load_p1 T3 a3, loadc_def, fa_ptr T36 p36_1 (by decide), fa_ptr T36 p36_2 (by decide), pn_neq T23 d23, nn_neq T23 d23, bool_neq T4 d4, o_makeMap, build_struct T43 d43, z43, parts_eq, fillA, AV.cells, AH.splice, List.take_succ_cons, List.take_zero, List.drop_succ_cons, List.drop_zero, List.drop_nil, List.length_cons, List.length_nil, p43_0, p43_1, p43_2, p43_3, p43_4, callV_fn (g := 10) (by decide), K10 h30 h10, L20 h30 h20, L40 h40, L41 h41, callV_fn (g := 20) (by decide), callV_fn (g := 40) (by decide), callV_fn (g := 41) (by decide), h1, h2, o_makeMap, bxG]
    exact ⟨_, rfl⟩
  · by_cases h2 : okQ w = true ∧ okRm r = true
    · simp +contextual (maxSteps := 3000000) only [↓code_skip, ↓code_seq, ↓code_region, ↓code_cond, ↓code_ret, aCond_bool, ↓ops_nil, ↓ops_cons, run_none, run_someF, ↓run0_v, ↓run0_r, ↓seqK_normal, ↓seqK_ret, ↓retK_ret, put_same, put_ne, env0_at, ev_tmp, ev_const, ev_func, oc_int, oc_bool, oc_nilp, o_move, o_assign, o_pick, o_bin, o_call, o_box, o_build, o_load, o_fieldAddr, o_extract, g_none, g_some, pick_bool, bin_eql, bin_neq, extract_tup, next_e0, resultsOf, oneOrAll, Option.bind_some, Option.map_some, Option.getD_some, decide_eq_true_eq, ↓reduceIte, Nat.reduceEqDiff, not_false_eq_true, not_true_eq_false, Nat.reduceAdd, List.getElem?_cons_zero, List.getElem?_cons_succ, List.getElem?_toArray, Bool.false_eq_true, List.map_cons, List.map_nil, List.append_nil, List.nil_append, List.cons_append, AH.get_alloc, AH.next_alloc, and_true, Nat.reduceLeDiff, Nat.le_refl, Bool.not_eq_eq_eq_not, Bool.not_true, ne_eq, decide_eq_false_iff_not, box_agg, fa_ptr T36 p36_0 (by decide), load_p1 T3 a3, loadc_def, fa_ptr T36 p36_1 (by decide), fa_ptr T36 p36_2 (by decide), pn_neq T23 d23, nn_neq T23 d23, bool_neq T4 d4, o_makeMap, build_struct T43 d43, z43, parts_eq, fillA, AV.cells, AH.splice, List.take_succ_cons, List.take_zero, List.drop_succ_cons, List.drop_zero, List.drop_nil, List.length_cons, List.length_nil, p43_0, p43_1, p43_2, p43_3, p43_4, callV_fn (g := 10) (by decide), K10 h30 h10, L20 h30 h20, L40 h40, L41 h41, callV_fn (g := 20) (by decide), callV_fn (g := 40) (by decide), callV_fn (g := 41) (by decide), h1, h2, o_makeMap, bxG]
      exact ⟨_, rfl⟩
    · simp +contextual (maxSteps := 3000000) only [↓code_skip, ↓code_seq, ↓code_region, ↓code_cond, ↓code_ret, aCond_bool, ↓ops_nil, ↓ops_cons, run_none, run_someF, ↓run0_v, ↓run0_r, ↓seqK_normal, ↓seqK_ret, ↓retK_ret, put_same, put_ne, env0_at, ev_tmp, ev_const, ev_func, oc_int, oc_bool, oc_nilp, o_move, o_assign, o_pick, o_bin, o_call, o_box, o_build, o_load, o_fieldAddr, o_extract, g_none, g_some, pick_bool, bin_eql, bin_neq, extract_tup, next_e0, resultsOf, oneOrAll, Option.bind_some, Option.map_some, Option.getD_some, ↓reduceIte, Nat.reduceEqDiff, not_false_eq_true, not_true_eq_false, Nat.reduceAdd, List.getElem?_cons_zero, List.getElem?_cons_succ, List.getElem?_toArray, Bool.false_eq_true, List.map_cons, List.map_nil, List.append_nil, List.nil_append, List.cons_append, AH.get_alloc, AH.next_alloc, and_true, Nat.reduceLeDiff, Nat.le_refl, Bool.not_eq_eq_eq_not, Bool.not_true, ne_eq, decide_eq_false_iff_not, box_agg, fa_ptr T36 p36_0 (by decide), load_p1 T3 a3, loadc_def, fa_ptr T36 p36_1 (by decide), fa_ptr T36 p36_2 (by decide), nn_neq T23 d23, bool_neq T4 d4, o_makeMap, build_struct T43 d43, z43, parts_eq, fillA, AV.cells, AH.splice, List.take_succ_cons, List.take_zero, List.drop_succ_cons, List.drop_zero, List.drop_nil, List.length_cons, List.length_nil, p43_0, p43_1, p43_2, p43_3, p43_4, callV_fn (g := 10) (by decide), K10 h30 h10, L20 h30 h20, L40 h40, L41 h41, callV_fn (g := 20) (by decide), callV_fn (g := 40) (by decide), callV_fn (g := 41) (by decide), h1, h2, o_makeMap, bxG]
      exact ⟨_, rfl⟩
theorem aptNew {n : Nat} {a b : Nat → Prop} (h1 : ∀ c, n ≤ c → a c) (h2 : ∀ c, c < n → b c) : Apt a b := fun c => (Nat.lt_or_ge c n).elim (fun g => .inr (h2 c g)) fun g => .inl (h1 c g)
theorem okT0 (h : AH) (q r : Int) : ∃ off, OkT (h.alloc (prf q r)) h.next ⟨q, r, 0, 0, [], [], [], []⟩ off ∧ ∀ c, c < h.next → off c := by
  refine ⟨_, ⟨_, OkR.new h q r, rfl, rfl⟩, fun c hc => ⟨⟨by omega, fun b o l k z x e => (by cases e), fun b o l k z x e => (by cases e)⟩, fun v hv b o l k z x e => ?_⟩⟩
  simp [Rf.im] at hv
  rw [hv] at e; cases e
theorem wq7 (q w r : Int) : ∃ oV oS oQ oU, W7 (hp17 q w r) 7 6 2 4 3 5 (fun _ => 0) ⟨q, 0, 0, [], [], []⟩ ⟨w, r, 0, [], [], []⟩ ⟨q, 0, 0, 0, [], [], [], []⟩ ⟨w, r, 0, 0, [], [], [], []⟩ oV oS oQ oU := by
  obtain ⟨H2, e2⟩ : ∃ H2, H2 = (e0.alloc (bxG q w r)).alloc (bxG q w r) := ⟨_, rfl⟩
  have n2 : H2.next = 2 := by rw [e2]; rfl
  obtain ⟨oV, v1, v2⟩ := okV0 H2 q 0
  obtain ⟨H3, e3⟩ : ∃ H3, H3 = H2.alloc (prt q 0) := ⟨_, rfl⟩
  have n3 : H3.next = 3 := by rw [e3, AH.next_alloc, n2]
  rw [← e3] at v1
  obtain ⟨oQ, q1, q2⟩ := okT0 H3 q 0
  obtain ⟨H4, e4⟩ : ∃ H4, H4 = H3.alloc (prf q 0) := ⟨_, rfl⟩
  have n4 : H4.next = 4 := by rw [e4, AH.next_alloc, n3]
  rw [← e4] at q1
  obtain ⟨oS, s1, s2⟩ := okV0 H4 w r
  obtain ⟨H5, e5⟩ : ∃ H5, H5 = H4.alloc (prt w r) := ⟨_, rfl⟩
  have n5 : H5.next = 5 := by rw [e5, AH.next_alloc, n4]
  rw [← e5] at s1
  obtain ⟨oU, u1, u2⟩ := okT0 H5 w r
  obtain ⟨H6, e6⟩ : ∃ H6, H6 = H5.alloc (prf w r) := ⟨_, rfl⟩
  have n6 : H6.next = 6 := by rw [e6, AH.next_alloc, n5]
  rw [← e6] at u1
  have hm := MapN.new H6
  obtain ⟨H7, e7⟩ : ∃ H7, H7 = H6.alloc (.map []) := ⟨_, rfl⟩
  have n7 : H7.next = 7 := by rw [e7, AH.next_alloc, n6]
  rw [← e7] at hm
  have e8 : hp17 q w r = H7.alloc (.cells [.ptr 2 0, .ptr 4 0, .ptr 3 0, .ptr 5 0, .mp 6] .own) := by rw [e7, e6, e5, e4, e3, e2]; rfl
  have g4 : Grow H3 H4 := by rw [e4]; exact Grow.alloc _ _
  have g5 : Grow H4 H5 := by rw [e5]; exact Grow.alloc _ _
  have g6 : Grow H5 H6 := by rw [e6]; exact Grow.alloc _ _
  have g7 : Grow H6 H7 := by rw [e7]; exact Grow.alloc _ _
  have g8 : Grow H7 (hp17 q w r) := by rw [e8]; exact Grow.alloc _ _
  have t7 := g7.trans g8
  have t6 := g6.trans t7
  have t5 := g5.trans t6
  have t4 := g4.trans t5
  rw [n2] at v1 v2
  rw [n3] at q1 q2
  rw [n4] at s1 s2
  rw [n5] at u1 u2
  rw [n6] at hm
  have aV := fun c (hc : 3 ≤ c) => v1.off_ge (c := c) (by omega)
  have aQ := fun c (hc : 4 ≤ c) => q1.off_ge (c := c) (by omega)
  have aS := fun c (hc : 5 ≤ c) => s1.off_ge (c := c) (by omega)
  have aU := fun c (hc : 6 ≤ c) => u1.off_ge (c := c) (by omega)
  exact ⟨oV, oS, oQ, oU, {
    fv := v1.grow t4, fs := s1.grow t6, fq := q1.grow t5, fu := u1.grow t7
    pvs := aptNew (n := 4) (fun c hc => aV c (by omega)) s2
    pvq := aptNew (n := 3) aV q2
    pvu := aptNew (n := 5) (fun c hc => aV c (by omega)) u2
    psq := (aptNew (n := 4) aQ s2).symm
    psu := aptNew (n := 5) aS u2
    pqu := aptNew (n := 5) (fun c hc => aQ c (by omega)) u2
    bx := by rw [e8, AH.get_alloc, if_pos (by omega)]
    bl := by rw [e8, AH.next_alloc, n7]; omega
    bo := ⟨aV 7 (by omega), aS 7 (by omega), aQ 7 (by omega), aU 7 (by omega)⟩
    mp := hm.keep (g8.2 6 (by omega))
    ml := by rw [e8, AH.next_alloc, n7]; omega
    mo := ⟨aV 6 (by omega), aS 6 (by omega), aQ 6 (by omega), aU 6 (by omega)⟩
    ne := by decide }⟩
theorem pq7 (q w r : Int) (hq : okQ q = true) (hw : okQ w = true) (hr : okRm r = true) : Pair 0 4 5 ⟨q, 0, 0, [], [], []⟩ ⟨w, r, 0, [], [], []⟩ ⟨q, 0, 0, 0, [], [], [], []⟩ ⟨w, r, 0, 0, [], [], [], []⟩ := by
  simp only [okQ, okRm, within, Bool.and_eq_true, decide_eq_true_eq] at hq hw hr
  have ii : ∀ a b : Int, 1 ≤ a ∧ a ≤ 500 → 0 ≤ b ∧ b ≤ 20 → Inv 0 4 ⟨a, b, 0, [], [], []⟩ := fun a b h1 h2 =>
    { q := h1, r := h2, wb := fun x hx => (by cases hx), sb := fun x hx => (by cases hx), nd := List.nodup_nil, wl := Nat.zero_le _, sl := (by show (0 : Int) ≤ max b 1; omega), jl := Nat.le_refl _, jd := fun x hx => (by cases hx), lf := ⟨Int.le_refl _, Int.le_refl _⟩ }
  exact { a := ⟨rfl, rfl, rfl, rfl, rfl, rfl⟩, b := ⟨rfl, rfl, rfl, rfl, rfl, by show ([] : List (Int × List Int)) = if 0 < r then [] else []; split <;> rfl⟩, ia := ii q 0 hq ⟨by omega, by omega⟩, ib := ii w r hw ⟨by omega, by omega⟩, sr := hr.1, sv := fun x hx => by cases hx }
theorem actC {l : List Ac} {i : Nat} {a : Ac} (ha : l[i]? = some a) : ∃ pl, aIndexAddr T 47 (.lst false 6 l.length (fl Ac.av l)) (.int .i64 (i : Nat)) = some (.fp pl) ∧ 6 ≤ pl.length ∧ pl.take 6 = [.int .i64 a.dd, .int .i64 a.on, .int .i64 a.cl, .int .i64 a.n, .lst false 1 a.da.length (bytes a.da), .bool a.en] := by
  have hi := (List.getElem?_eq_some_iff.1 ha).1
  have h1 := fl_at Ac.av 6 Ac.len ha []
  rw [List.append_nil] at h1
  have hlt : (i + 1) * 6 ≤ l.length * 6 := Nat.mul_le_mul_right _ hi
  have h2 : 6 ≤ ((fl Ac.av l).drop (i * 6)).length := by rw [List.length_drop, fl_len Ac.av 6 Ac.len]; omega
  refine ⟨(fl Ac.av l).drop (i * 6), ?_, h2, h1⟩
  rw [ia_lst T47 d47 T53 s53, if_pos ⟨by omega, by omega⟩]; simp
end Go.AM.X
