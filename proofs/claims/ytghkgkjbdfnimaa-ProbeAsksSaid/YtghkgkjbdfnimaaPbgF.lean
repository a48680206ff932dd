/- A link: what is asked for; whether all is quiet; who clashes. Own work. -/
import Derived.Test.YtghkgkjbdfnimaaPbgE
namespace Go.AM.X
open Go Go.AM Go.Proofs Go.AM.Sx
set_option maxHeartbeats 6400000
set_option maxRecDepth 100000
set_option linter.unusedVariables false
theorem F31 : F 31 = some { body := (Try.f31.body.getD .skip), results := Try.f31.results.toList, rf := false } := by kernel_rfl
theorem R31 : regsOk T (Try.f31.body.getD .skip) = true := by kernel_rfl
theorem F15 : F 15 = some { body := (Try.f15.body.getD .skip), results := Try.f15.results.toList, rf := false } := by kernel_rfl
theorem R15 : regsOk T (Try.f15.body.getD .skip) = true := by kernel_rfl
def isAd (lo hi n d : Int) : Bool := decide (lo ≤ n) && decide (n ≤ hi) && decide (1 ≤ d) && decide (d ≤ 253)
theorem run31 {I : Nat → Option (List AV → AH → Rs)} (h31 : I 31 = none) (m p : Nat) (lo hi fr n d : Int) (sv : AV) (h : AH) (hp : h.get p = some (.cells [.int .i64 lo, .int .i64 hi, .nils, sv, .int .i64 fr] .own)) (hl : p < h.next) :
    ∃ h2, call F I T (m + 1) 31 [.ptr p 0, .agg [.int .i64 n, .int .i64 d]] h = some (.bool (isAd lo hi n d), h2) ∧ Grow h h2 := by
  have hg := Grow.alloc h (.cells [.int .i64 n, .int .i64 d] .own)
  have pne : ¬ p = h.next := by omega
  refine ⟨_, ?_, hg⟩
  unfold isAd
  rw [call_F (by decide) h31 F31 rfl R31]; simp only [Try.f31, Option.getD]
  simp +contextual (maxSteps := 3000000) only [↓code_seq, ↓code_region, ↓code_ret, ↓ops_nil, ↓ops_cons, run_none, run_someT, ↓run0_v, ↓run0_r, ↓seqK_normal, ↓retK_ret, put_same, put_ne, env0_at, ev_tmp, ev_const, oc_int, oc_bool, o_move, o_assign, o_pick, o_bin, o_box, o_load, o_nilCheck, o_fieldAddr, g_none, g_some, pick_bool, bin_leq, bin_geq, nil_ptr, resultsOf, oneOrAll, Option.bind_some, Option.map_some, Option.getD_some, decide_eq_true_eq, ↓reduceIte, Nat.reduceEqDiff, not_false_eq_true, Nat.reduceAdd, reduceCtorEq, List.getElem?_cons_zero, List.getElem?_cons_succ, List.getElem?_toArray, Bool.false_eq_true, AH.get_alloc, ge_iff_le, ne_eq, box_agg, fa_ptr T35 p35_0 (by decide), load_p1 T3 a3, loadc_def, fa_ptr T58 p58_0 (by decide), fa_ptr T58 p58_1 (by decide), fa_ptr T35 p35_1 (by decide), hp, pne]
  (repeat' split) <;> (try simp_all) <;> (try omega)
/-- A station asks for an address. -/
def askF (n d : Int) (s : Sn) : Sn := if eqA n d s.n s.d = false ∧ s.qs.any (fun e => eqA e.n e.d n d) = false ∧ hintI s n d < 0 then { s with qs := s.qs ++ [⟨n, d, 0⟩] } else s
def AskP (c : Int) (p : Nat) (lo hi : Int) (S : List Sn) (h : AH) (off : Nat → Prop) (r : Rs) : Prop := ∃ h2 off2, r = some (.int .i64 c, h2) ∧ Lk h2 p lo hi S off2 ∧ Stf h h2 off off2
def askC (lo hi n d : Int) (s : Sn) : Bool := decide (s.st = 2) && isAd lo hi n d
theorem V15no {I : Nat → Option (List AV → AH → Rs)} (h21 : I 21 = none) (h23 : I 23 = none) (h31 : I 31 = none) (h47 : I 47 = none) (h32 : I 32 = none) (h46 : I 46 = none) (h34 : I 34 = none) (h15 : I 15 = none) (m p : Nat) (i lo hi n d : Int) (S : List Sn) (off : Nat → Prop) (h : AH) (hL : Lk h p lo hi S off) (hl : ¬ lo = 0) (hb : ¬ bad S.length i = 0) : AskP (bad S.length i) p lo hi S h off (call F I T (m + 100) 15 [.ptr p 0, .int .i64 i, .agg [.int .i64 n, .int .i64 d]] h) := by
  have hg := Grow.alloc h (.cells [.int .i64 n, .int .i64 d] .own)
  have hL2 := hL.grow hg
  have hL2' := hL2
  obtain ⟨own, sv, M, hM, hS, ho⟩ := hL2
  have k1 := run23 h21 h23 (m + 97) p i lo hi own sv M _ hM hl
  rw [hS, List.length_map] at hb ⊢
  refine ⟨_, _, ?_, by rw [← hS]; exact hL2', Stf.grow _ hg⟩
  rw [call_F (by decide) h15 F15 rfl R15]; simp only [Try.f15, Option.getD]
  simp +contextual (maxSteps := 3000000) only [↓code_seq, ↓code_region, ↓code_cond, ↓code_ret, aCond_bool, ↓ops_nil, ↓ops_cons, run_none, ↓run0_v, ↓run0_r, ↓seqK_normal, ↓seqK_ret, ↓retK_ret, put_same, put_ne, env0_at, ev_tmp, ev_const, ev_func, oc_int, o_move, o_assign, o_bin, o_call, o_box, g_none, bin_neq, resultsOf, oneOrAll, Option.map_some, Option.getD_some, ↓reduceIte, Nat.reduceEqDiff, not_false_eq_true, reduceCtorEq, List.getElem?_cons_zero, List.getElem?_cons_succ, List.map_cons, List.map_nil, List.append_nil, List.nil_append, Bool.not_eq_eq_eq_not, Bool.not_true, ne_eq, decide_eq_false_iff_not, box_agg, k1, hb, callV_fn (g := 23) (by decide)]
theorem V15 {I : Nat → Option (List AV → AH → Rs)} (h21 : I 21 = none) (h23 : I 23 = none) (h31 : I 31 = none) (h47 : I 47 = none) (h32 : I 32 = none) (h46 : I 46 = none) (h34 : I 34 = none) (h15 : I 15 = none) (h33 : I 33 = none) (h48 : I 48 = none) (m p i : Nat) (lo hi n d : Int) (S : List Sn) (s : Sn) (off : Nat → Prop) (h : AH) (hL : Lk h p lo hi S off) (hl : ¬ lo = 0) (hs : S[i]? = some s) (hB : (s.hs.length ≤ m ∧ s.hs.length ≤ 1000000000) ∧ s.qs.length ≤ m ∧ s.qs.length ≤ 1000000000) :
    AskP (if askC lo hi n d s = true then 0 else 2) p lo hi (if askC lo hi n d s = true then S.set i (askF n d s) else S) h off (call F I T (m + 100) 15 [.ptr p 0, .int .i64 (i : Nat), .agg [.int .i64 n, .int .i64 d]] h) := by
  obtain ⟨own, sv, M, hM, rfl, rfl⟩ := hL
  obtain ⟨h1, e1⟩ : ∃ h1, h1 = h.alloc (.cells [.int .i64 n, .int .i64 d] .own) := ⟨_, rfl⟩
  have gA : Grow h h1 := by rw [e1]; exact Grow.alloc _ _
  have g0 : h1.get h.next = some (.cells [.int .i64 n, .int .i64 d] .own) := by rw [e1, AH.get_alloc, if_pos rfl]
  have nb : h.next < h1.next := by rw [e1]; simp
  have hM1 := hM.grow gA
  have k1 := run23 h21 h23 (m + 97) p (i : Nat) lo hi own sv M _ hM1 hl
  rw [List.getElem?_map, Option.map_eq_some_iff] at hs
  obtain ⟨q, hq, rfl⟩ := hs
  have hil := (List.getElem?_eq_some_iff.1 hq).1
  have c1 : bad M.length (i : Int) = 0 := by unfold bad; rw [if_neg (by omega)]
  rw [c1] at k1
  obtain ⟨fr, g⟩ := hM1.g
  obtain ⟨b, cs, bk, w1, w2, w3⟩ := loadM hM1.r hq
  have gq := StOk.ptr hM1 hq
  by_cases c2 : q.s.st = 2
  rotate_left
  · have ha : askC lo hi n d q.s = false := by unfold askC; rw [decide_eq_false c2]; rfl
    rw [ha, if_neg (by simp), if_neg (by simp)]
    refine ⟨h1, _, ?_, ⟨own, sv, M, hM1, rfl, rfl⟩, Stf.grow _ gA⟩
    rw [call_F (by decide) h15 F15 rfl R15]; simp only [Try.f15, Option.getD]
    simp +contextual (maxSteps := 3000000) only [↓code_skip, ↓code_seq, ↓code_region, ↓code_cond, ↓code_ret, aCond_bool, ↓ops_nil, ↓ops_cons, run_none, run_someF, ↓run0_v, ↓run0_r, ↓seqK_normal, ↓seqK_ret, ↓retK_ret, put_same, put_ne, env0_at, ev_tmp, ev_const, ev_func, oc_int, oc_bool, o_move, o_assign, o_pick, o_bin, o_call, o_box, o_load, o_nilCheck, o_un, o_fieldAddr, o_indexAddr, g_none, g_some, pick_bool, bin_neq, nil_ptr, resultsOf, oneOrAll, Option.bind_some, Option.map_some, Option.getD_some, ↓reduceIte, Nat.reduceEqDiff, not_false_eq_true, Nat.reduceAdd, reduceCtorEq, List.getElem?_cons_zero, List.getElem?_cons_succ, List.getElem?_toArray, Bool.false_eq_true, List.map_cons, List.map_nil, List.append_nil, List.nil_append, Bool.not_true, Bool.not_false, ne_eq, box_agg, fa_ptr T58 p58_3 (by decide), load_p1 T56 a56, loadc_def, load_p1 T59 a59, fa_ptr T64 p64_1 (by decide), load_p1 T3 a3, load_pA T35 a35, s35, loadn_def, List.drop_zero, callV_fn (g := 31) (by decide), ← e1, k1, g, w1, w2, w3, gq, c2, decide_true, decide_false, callV_fn (g := 23) (by decide)]
  obtain ⟨h2, k2, k3⟩ := run31 h31 (m + 98) p lo hi fr n d sv h1 g hM1.lt
  have hM2 := hM1.grow k3
  cases c3 : isAd lo hi n d
  · have ha : askC lo hi n d q.s = false := by unfold askC; rw [c3, Bool.and_false]
    rw [c3] at k2
    rw [ha, if_neg (by simp), if_neg (by simp)]
    refine ⟨h2, _, ?_, ⟨own, sv, M, hM2, rfl, rfl⟩, Stf.grow _ (gA.trans k3)⟩
    rw [call_F (by decide) h15 F15 rfl R15]; simp only [Try.f15, Option.getD]
    simp +contextual (maxSteps := 3000000) only [↓code_skip, ↓code_seq, ↓code_region, ↓code_cond, ↓code_ret, aCond_bool, ↓ops_nil, ↓ops_cons, run_none, run_someF, ↓run0_v, ↓run0_r, ↓seqK_normal, ↓seqK_ret, ↓retK_ret, put_same, put_ne, env0_at, ev_tmp, ev_const, ev_func, oc_int, oc_bool, o_move, o_assign, o_pick, o_bin, o_call, o_box, o_load, o_nilCheck, o_un, o_fieldAddr, o_indexAddr, g_none, g_some, pick_bool, bin_neq, un_not, nil_ptr, resultsOf, oneOrAll, Option.bind_some, Option.map_some, Option.getD_some, ↓reduceIte, Nat.reduceEqDiff, not_false_eq_true, Nat.reduceAdd, reduceCtorEq, List.getElem?_cons_zero, List.getElem?_cons_succ, List.getElem?_toArray, Bool.false_eq_true, List.map_cons, List.map_nil, List.append_nil, List.nil_append, Nat.le_refl, Bool.not_true, Bool.not_false, ne_eq, box_agg, fa_ptr T58 p58_3 (by decide), load_p1 T56 a56, loadc_def, load_p1 T59 a59, fa_ptr T64 p64_1 (by decide), load_p1 T3 a3, load_pA T35 a35, s35, loadn_def, List.take_succ_cons, List.take_nil, List.drop_zero, List.length_cons, List.length_nil, List.length_cons, List.length_nil, List.drop_zero, List.take_succ_cons, List.take_nil, Nat.zero_add, ← e1, k1, g, w1, w2, w3, gq, eq_true c2, g0, k2, decide_true, callV_fn (g := 23) (by decide), callV_fn (g := 31) (by decide)]
  have ha : askC lo hi n d q.s = true := by unfold askC; rw [c3, decide_eq_true c2]; rfl
  rw [c3] at k2
  rw [ha, if_pos rfl, if_pos rfl]
  have gq2 := StOk.ptr hM2 hq
  have hS2 := hM2.s i q hq
  have g02 := (k3.2 _ nb).trans g0
  obtain ⟨h3, k4, k5⟩ := run32 h47 h32 (m + 48) 33 (by decide) [.ptr h.next 0] (fun e => eqA e.n e.d n d) q.av q.s.qs h2 hS2.ra ⟨by omega, hB.2.2⟩ fun N H hG x hx => by
    exact run33 h33 N h.next n d x _ H ((hG.2 _ (Nat.lt_of_lt_of_le nb k3.1)).trans g02) (Nat.lt_of_lt_of_le (Nat.lt_of_lt_of_le nb k3.1) hG.1)
  have hM3 := hM2.grow k5
  have gq3 := StOk.ptr hM3 hq
  have hS3 := hM3.s i q hq
  have g03 := (k5.2 _ (Nat.lt_of_lt_of_le nb k3.1)).trans g02
  have G3 := (gA.trans k3).trans k5
  have stay : M.map Sm.s = (M.map Sm.s).set i q.s := by
    have h1' : (M.map Sm.s)[i]? = some q.s := by rw [List.getElem?_map, hq]; rfl
    rw [← (List.getElem?_eq_some_iff.1 h1').2]; exact (List.set_getElem_self _).symm
  cases c4 : eqA n d q.s.n q.s.d
  rotate_left
  · have hF : askF n d q.s = q.s := by unfold askF; rw [if_neg (by rw [c4]; simp)]
    rw [hF, ← stay]
    refine ⟨h3, _, ?_, ⟨own, sv, M, hM3, rfl, rfl⟩, Stf.grow _ G3⟩
    rw [call_F (by decide) h15 F15 rfl R15]; simp only [Try.f15, Option.getD]
    simp +contextual (maxSteps := 3000000) only [↓code_skip, ↓code_seq, ↓code_region, ↓code_cond, ↓code_ret, aCond_bool, ↓ops_nil, ↓ops_cons, run_none, run_someT, run_someF, ↓run0_v, ↓run0_r, ↓seqK_normal, ↓retK_ret, put_same, put_ne, env0_at, ev_tmp, ev_const, ev_func, oc_int, oc_bool, o_move, o_assign, o_pick, o_bin, o_call, o_box, o_load, o_nilCheck, o_un, o_makeFunc, o_fieldAddr, o_indexAddr, g_none, g_some, pick_bool, bin_neq, un_not, nil_ptr, resultsOf, oneOrAll, Option.bind_some, Option.map_some, Option.getD_some, ↓reduceIte, Nat.reduceEqDiff, not_false_eq_true, Nat.reduceAdd, reduceCtorEq, List.getElem?_cons_zero, List.getElem?_cons_succ, List.getElem?_toArray, Bool.false_eq_true, List.map_cons, List.map_nil, List.append_nil, List.nil_append, Nat.reduceLeDiff, Nat.le_refl, Bool.not_true, ne_eq, box_agg, fa_ptr T58 p58_3 (by decide), load_p1 T56 a56, loadc_def, load_p1 T59 a59, fa_ptr T64 p64_1 (by decide), load_p1 T3 a3, load_pA T35 a35, s35, loadn_def, fa_ptr T64 p64_5 (by decide), load_p1 T61 a61, fa_ptr T64 p64_4 (by decide), List.take_succ_cons, List.take_zero, List.take_nil, List.drop_succ_cons, List.drop_zero, List.length_cons, List.length_nil, callV_fn (g := 34) (by decide), List.drop_succ_cons, List.length_cons, List.length_nil, List.drop_zero, List.take_succ_cons, List.take_zero, List.take_nil, Nat.zero_add, ← e1, k1, g, w1, w2, w3, gq, eq_true c2, g0, k2, gq2, k4, g03, gq3, neq35, c4, decide_true, callV_fn (g := 23) (by decide), callV_fn (g := 31) (by decide), callV_fn (g := 32) (by decide)]
  cases c5 : q.s.qs.any (fun e => eqA e.n e.d n d)
  rotate_left
  · have hF : askF n d q.s = q.s := by unfold askF; rw [if_neg (by rw [c5]; simp)]
    rw [c5] at k4
    rw [hF, ← stay]
    refine ⟨h3, _, ?_, ⟨own, sv, M, hM3, rfl, rfl⟩, Stf.grow _ G3⟩
    rw [call_F (by decide) h15 F15 rfl R15]; simp only [Try.f15, Option.getD]
    simp +contextual (maxSteps := 3000000) only [↓code_skip, ↓code_seq, ↓code_region, ↓code_cond, ↓code_ret, aCond_bool, ↓ops_nil, ↓ops_cons, run_none, run_someT, run_someF, ↓run0_v, ↓run0_r, ↓seqK_normal, ↓retK_ret, put_same, put_ne, env0_at, ev_tmp, ev_const, ev_func, oc_int, oc_bool, o_move, o_assign, o_pick, o_bin, o_call, o_box, o_load, o_nilCheck, o_un, o_makeFunc, o_fieldAddr, o_indexAddr, g_none, g_some, pick_bool, bin_neq, un_not, nil_ptr, resultsOf, oneOrAll, Option.bind_some, Option.map_some, Option.getD_some, ↓reduceIte, Nat.reduceEqDiff, not_false_eq_true, Nat.reduceAdd, reduceCtorEq, List.getElem?_cons_zero, List.getElem?_cons_succ, List.getElem?_toArray, Bool.false_eq_true, List.map_cons, List.map_nil, List.append_nil, List.nil_append, Nat.reduceLeDiff, Nat.le_refl, Bool.not_true, Bool.not_false, ne_eq, box_agg, fa_ptr T58 p58_3 (by decide), load_p1 T56 a56, loadc_def, load_p1 T59 a59, fa_ptr T64 p64_1 (by decide), load_p1 T3 a3, load_pA T35 a35, s35, loadn_def, fa_ptr T64 p64_5 (by decide), load_p1 T61 a61, fa_ptr T64 p64_4 (by decide), List.take_succ_cons, List.take_zero, List.take_nil, List.drop_succ_cons, List.drop_zero, List.length_cons, List.length_nil, callV_fn (g := 34) (by decide), List.drop_succ_cons, List.length_cons, List.length_nil, List.drop_zero, List.take_succ_cons, List.take_zero, List.take_nil, Nat.zero_add, ← e1, k1, g, w1, w2, w3, gq, eq_true c2, g0, k2, gq2, k4, g03, gq3, neq35, c4, decide_true, callV_fn (g := 23) (by decide), callV_fn (g := 31) (by decide), callV_fn (g := 32) (by decide)]
  rw [c5] at k4
  obtain ⟨h4, k6, k7⟩ := run34 h46 h34 h48 (m + 39) q.a n d q.s.rv q.av q.hv q.s h3 hS3.g hS3.lt hS3.rh ⟨by omega, hB.1.2⟩
  have hM4 := hM3.grow k7
  have gq4 := StOk.ptr hM4 hq
  have hS4 := hM4.s i q hq
  have nb3 : h.next < h3.next := Nat.lt_of_lt_of_le (Nat.lt_of_lt_of_le nb k3.1) k5.1
  have g04 := (k7.2 _ nb3).trans g03
  have G4 := G3.trans k7
  by_cases c6 : hintI q.s n d < 0
  rotate_left
  · have hF : askF n d q.s = q.s := by unfold askF; rw [if_neg (fun g => c6 g.2.2)]
    rw [hF, ← stay]
    refine ⟨h4, _, ?_, ⟨own, sv, M, hM4, rfl, rfl⟩, Stf.grow _ G4⟩
    rw [call_F (by decide) h15 F15 rfl R15]; simp only [Try.f15, Option.getD]
    simp +contextual (maxSteps := 3000000) only [↓code_skip, ↓code_seq, ↓code_region, ↓code_cond, ↓code_ret, aCond_bool, ↓ops_nil, ↓ops_cons, run_none, run_someT, run_someF, ↓run0_v, ↓run0_r, ↓seqK_normal, ↓retK_ret, put_same, put_ne, env0_at, ev_tmp, ev_const, ev_func, oc_int, oc_bool, o_move, o_assign, o_pick, o_bin, o_call, o_box, o_load, o_nilCheck, o_un, o_makeFunc, o_fieldAddr, o_indexAddr, g_none, g_some, pick_bool, bin_neq, bin_lss, un_not, nil_ptr, resultsOf, oneOrAll, Option.bind_some, Option.map_some, Option.getD_some, ↓reduceIte, Nat.reduceEqDiff, not_false_eq_true, Nat.reduceAdd, reduceCtorEq, List.getElem?_cons_zero, List.getElem?_cons_succ, List.getElem?_toArray, Bool.false_eq_true, List.map_cons, List.map_nil, List.append_nil, List.nil_append, Nat.reduceLeDiff, Nat.le_refl, Bool.not_true, Bool.not_false, ne_eq, box_agg, fa_ptr T58 p58_3 (by decide), load_p1 T56 a56, loadc_def, load_p1 T59 a59, fa_ptr T64 p64_1 (by decide), load_p1 T3 a3, load_pA T35 a35, s35, loadn_def, fa_ptr T64 p64_5 (by decide), load_p1 T61 a61, fa_ptr T64 p64_4 (by decide), List.take_succ_cons, List.take_zero, List.take_nil, List.drop_succ_cons, List.drop_zero, List.length_cons, List.length_nil, List.drop_succ_cons, List.length_cons, List.length_nil, List.drop_zero, List.take_succ_cons, List.take_zero, List.take_nil, Nat.zero_add, ← e1, k1, g, w1, w2, w3, gq, eq_true c2, g0, k2, gq2, k4, g03, gq3, neq35, c4, k6, c6, decide_true, decide_false, callV_fn (g := 23) (by decide), callV_fn (g := 31) (by decide), callV_fn (g := 32) (by decide), callV_fn (g := 34) (by decide)]
  have hF : askF n d q.s = { q.s with qs := q.s.qs ++ [⟨n, d, 0⟩] } := by unfold askF; rw [if_pos ⟨c4, c5, c6⟩]
  obtain ⟨v', h5, q1, q2, q3, q4, q5⟩ := hS4.ra.push (new := [.int .i64 n, .int .i64 d, .int .i64 0]) T61 d61 T74 s74 (by decide) (by rw [b74]; decide) rfl rfl (by rw [b74]; simp [maxBytes]; omega)
  have hcs : fl As.av q.s.qs ++ [.int .i64 n, .int .i64 d, .int .i64 0] = fl As.av (q.s.qs ++ [⟨n, d, 0⟩]) := by rw [fl_app]; rfl
  rw [hcs, show q.s.qs.length + 1 = (q.s.qs ++ [(⟨n, d, 0⟩ : As)]).length by simp] at q2
  obtain ⟨u1, u2⟩ := q2.cells
  obtain ⟨t0, t1, t2⟩ := hM4.setA hq q2 (by omega) q4 q5
  have w4 := store_1 (T := T) T61 s61 u1 u2 t0 (show 6 < 8 by decide)
  refine ⟨_, _, ?_, ⟨_, sv, _, t1, by rw [map_set_s, hF], rfl⟩, (Stf.grow _ G4).trans t2⟩
  rw [call_F (by decide) h15 F15 rfl R15]; simp only [Try.f15, Option.getD]
  simp +contextual (maxSteps := 3000000) only [↓code_skip, ↓code_seq, ↓code_region, ↓code_cond, ↓code_ret, aCond_bool, ↓ops_nil, ↓ops_cons, run_none, run_someT, run_someF, ↓run0_v, ↓run0_h, ↓run0_r, ↓seqK_normal, ↓retK_ret, put_same, put_ne, put_none, env0_at, ev_tmp, ev_const, ev_func, oc_int, oc_bool, o_move, o_assign, o_pick, o_bin, o_call, o_box, o_build, o_buildSlice, o_load, o_store, o_nilCheck, o_un, o_makeFunc, o_fieldAddr, o_indexAddr, o_append, g_none, g_some, pick_bool, bin_neq, bin_lss, un_not, nil_ptr, resultsOf, oneOrAll, Option.bind_some, Option.map_some, Option.getD_some, ↓reduceIte, Nat.reduceEqDiff, not_false_eq_true, Nat.reduceAdd, Nat.reduceMul, reduceCtorEq, List.getElem?_cons_zero, List.getElem?_cons_succ, List.getElem?_toArray, Bool.false_eq_true, List.map_cons, List.map_nil, List.append_nil, List.nil_append, List.cons_append, and_true, Nat.reduceLeDiff, Nat.le_refl, Bool.not_true, Bool.not_false, ne_eq, box_agg, fa_ptr T58 p58_3 (by decide), load_p1 T56 a56, loadc_def, load_p1 T59 a59, fa_ptr T64 p64_1 (by decide), load_p1 T3 a3, load_pA T35 a35, s35, loadn_def, fa_ptr T64 p64_5 (by decide), load_p1 T61 a61, fa_ptr T64 p64_4 (by decide), build_struct T74 d74, z74, parts_eq, fillA, AV.cells, AH.splice, List.take_succ_cons, List.take_zero, List.take_nil, List.drop_succ_cons, List.drop_zero, List.drop_nil, List.length_cons, List.length_nil, p74_0, buildSl T61 d61 T74 (n := 1) (by rw [s74]; decide), s74, repl, run0_h, List.drop_succ_cons, List.length_cons, List.length_nil, List.drop_zero, List.take_succ_cons, List.take_zero, List.take_nil, Nat.zero_add, ← e1, k1, g, w1, w2, w3, gq, eq_true c2, g0, k2, gq2, k4, g03, gq3, neq35, c4, k6, eq_true c6, gq4, g04, q1, w4, decide_true, callV_fn (g := 23) (by decide), callV_fn (g := 31) (by decide), callV_fn (g := 32) (by decide), callV_fn (g := 34) (by decide)]
  rfl
end Go.AM.X
namespace Go.AM.X
open Go Go.AM Go.Proofs Go.AM.Sx
set_option maxHeartbeats 6400000
set_option maxRecDepth 100000
set_option linter.unusedVariables false
theorem F18 : F 18 = some { body := (Try.f18.body.getD .skip), results := Try.f18.results.toList, rf := false } := by kernel_rfl
theorem R18 : regsOk T (Try.f18.body.getD .skip) = true := by kernel_rfl
theorem F26 : F 26 = some { body := (Try.f26.body.getD .skip), results := Try.f26.results.toList, rf := false } := by kernel_rfl
theorem R26 : regsOk T (Try.f26.body.getD .skip) = true := by kernel_rfl
theorem F38 : F 38 = some { body := (Try.f38.body.getD .skip), results := Try.f38.results.toList, rf := false } := by kernel_rfl
theorem R38 : regsOk T (Try.f38.body.getD .skip) = true := by kernel_rfl
theorem F25 : F 25 = some { body := (Try.f25.body.getD .skip), results := Try.f25.results.toList, rf := false } := by kernel_rfl
theorem R25 : regsOk T (Try.f25.body.getD .skip) = true := by kernel_rfl
theorem F10 : F 10 = some { body := (Try.f10.body.getD .skip), results := Try.f10.results.toList, rf := false } := by kernel_rfl
theorem R10 : regsOk T (Try.f10.body.getD .skip) = true := by kernel_rfl
theorem F16 : F 16 = some { body := (Try.f16.body.getD .skip), results := Try.f16.results.toList, rf := false } := by kernel_rfl
theorem R16 : regsOk T (Try.f16.body.getD .skip) = true := by kernel_rfl
theorem V18 {I : Nat → Option (List AV → AH → Rs)} (h21 : I 21 = none) (h23 : I 23 = none) (h46 : I 46 = none) (h34 : I 34 = none) (h18 : I 18 = none) (h48 : I 48 = none) (m p i : Nat) (lo hi n d : Int) (S : List Sn) (s : Sn) (off : Nat → Prop) (h : AH) (hL : Lk h p lo hi S off) (hl : ¬ lo = 0) (hs : S[i]? = some s) (hB : s.hs.length ≤ m ∧ s.hs.length ≤ 1000000000) (e : Hi) (he : s.hs.find? (fun e => eqA e.n e.d n d) = some e) :
    ∃ h2, call F I T (m + 100) 18 [.ptr p 0, .int .i64 (i : Nat), .agg [.int .i64 n, .int .i64 d]] h = some (.tup [.int .i64 e.t, .bool true], h2) ∧ Grow h h2 := by
  obtain ⟨own, sv, M, hM, rfl, rfl⟩ := hL
  obtain ⟨h1, e1⟩ : ∃ h1, h1 = h.alloc (.cells [.int .i64 n, .int .i64 d] .own) := ⟨_, rfl⟩
  have gA : Grow h h1 := by rw [e1]; exact Grow.alloc _ _
  have g0 : h1.get h.next = some (.cells [.int .i64 n, .int .i64 d] .own) := by rw [e1, AH.get_alloc, if_pos rfl]
  have hM1 := hM.grow gA
  have k1 := run23 h21 h23 (m + 97) p (i : Nat) lo hi own sv M _ hM1 hl
  rw [List.getElem?_map, Option.map_eq_some_iff] at hs
  obtain ⟨q, hq, rfl⟩ := hs
  have hil := (List.getElem?_eq_some_iff.1 hq).1
  have c1 : bad M.length (i : Int) = 0 := by unfold bad; rw [if_neg (by omega)]
  rw [c1] at k1
  obtain ⟨fr, g⟩ := hM1.g
  obtain ⟨b, cs, bk, w1, w2, w3⟩ := loadM hM1.r hq
  have gq := StOk.ptr hM1 hq
  have hS1 := hM1.s i q hq
  obtain ⟨h2, k2, k3⟩ := run34 h46 h34 h48 (m + 39) q.a n d q.s.rv q.av q.hv q.s h1 hS1.g hS1.lt hS1.rh ⟨by omega, hB.2⟩
  have hM2 := hM1.grow k3
  have gq2 := StOk.ptr hM2 hq
  have hS2 := hM2.s i q hq
  obtain ⟨j, hj, hje⟩ : ∃ j : Nat, hintI q.s n d = (j : Int) ∧ q.s.hs[j]? = some e := by
    unfold hintI
    rcases idx_find (fun e => eqA e.n e.d n d) q.s.hs 0 with ⟨i', h1', h2', h3'⟩ | ⟨_, h2'⟩
    · refine ⟨i', by rw [h1', Nat.zero_add], ?_⟩
      obtain ⟨a1, a2, a3⟩ := List.findIdx?_eq_some_iff_getElem.1 h2'
      rw [List.find?_eq_some_iff_getElem] at he
      obtain ⟨b1, i2, b2, b3, b4⟩ := he
      have : i2 = i' := by
        rcases Nat.lt_trichotomy i2 i' with g | g | g
        · have := a3 i2 g; rw [b3] at this; exact absurd b1 this
        · exact g
        · have := b4 i' g; rw [a2] at this; cases this
      subst this
      rw [List.getElem?_eq_getElem b2, b3]
    · have := List.findIdx?_eq_none_iff.1 h2' e (List.mem_of_find?_eq_some he)
      have := List.find?_some he
      simp_all
  obtain ⟨b', cs', bk', x1, x2, x3, x4⟩ := loadHi hS2.rh hje
  have x5 : cs'[j * 4 + 2]? = some (.int .i64 e.t) := by
    have := congrArg (fun l => l[2]?) x4
    simpa [List.getElem?_take, List.getElem?_drop] using this
  have c2 : (0 : Int) ≤ (j : Int) := by omega
  rw [hj] at k2
  refine ⟨h2, ?_, gA.trans k3⟩
  rw [call_F (by decide) h18 F18 rfl R18]; simp only [Try.f18, Option.getD]
  simp +contextual (maxSteps := 3000000) only [↓code_skip, ↓code_seq, ↓code_region, ↓code_cond, ↓code_ret, aCond_bool, ↓ops_nil, ↓ops_cons, run_none, ↓run0_v, ↓run0_r, ↓seqK_normal, ↓seqK_ret, ↓retK_ret, put_same, put_ne, env0_at, ev_tmp, ev_const, ev_func, oc_int, oc_bool, o_move, o_assign, o_bin, o_call, o_box, o_load, o_nilCheck, o_fieldAddr, o_indexAddr, g_none, bin_neq, bin_geq, nil_ptr, resultsOf, oneOrAll, Option.map_some, Option.getD_some, ↓reduceIte, Nat.reduceEqDiff, not_false_eq_true, Nat.reduceAdd, reduceCtorEq, List.getElem?_cons_zero, List.getElem?_cons_succ, Bool.false_eq_true, List.map_cons, List.map_nil, List.append_nil, List.nil_append, Nat.le_refl, ge_iff_le, Bool.not_true, ne_eq, box_agg, fa_ptr T58 p58_3 (by decide), load_p1 T56 a56, loadc_def, load_p1 T59 a59, load_pA T35 a35, s35, loadn_def, fa_ptr T64 p64_6 (by decide), load_p1 T62 a62, fa_ptr T68 p68_1 (by decide), load_p1 T3 a3, List.length_cons, List.length_nil, List.drop_zero, List.take_succ_cons, List.take_nil, Nat.zero_add, ← e1, k1, g, w1, w2, w3, g0, k2, eq_true c2, gq2, x1, x2, x5, decide_true, callV_fn (g := 23) (by decide), callV_fn (g := 34) (by decide)]
def busy (s : Sn) : Bool := decide (s.st = 1) || decide (0 < s.qs.length)
theorem run38 {I : Nat → Option (List AV → AH → Rs)} (h38 : I 38 = none) (m g : Nat) (hg : Nat.beq g YLD = false) (cx : List AV) (pr : Sm → Bool) (v : AV) (M : List Sm) (h : AH) (hr : RowC 1 h v M.length (M.map fun m => .ptr m.a 0)) (hn : M.length ≤ 200)
    (kc : ∀ m s, s ∈ M → call F I T (m + 1) g (.ptr s.a 0 :: cx) h = some (.bool (pr s), h)) :
    call F I T (m + 300) 38 [v, .fn g [] cx] h = some (.int .i64 (idxAt pr 0 M), h) := by
  have hlen : ∀ h, aLen T 56 v h = some (.int .i64 (M.length : Nat)) := fun h => hr.len T56 d56
  rw [call_F (by decide) h38 F38 rfl R38]; simp only [Try.f38, Option.getD]
  simp +contextual (maxSteps := 3000000) only [↓code_seq, ↓code_region, ↓code_block, ↓code_loop, ↓ops_nil, ↓ops_cons, run_none, ↓run0_v, ↓seqK_normal, put_same, put_ne, env0_at, ev_tmp, ev_const, oc_int, o_move, o_assign, o_len, g_none, Option.getD_some, not_false_eq_true, reduceCtorEq, List.getElem?_cons_zero, ne_eq, hlen]
  refine iterL_wp (Q := fun r => r = some (.int .i64 (idxAt pr 0 M), h)) (N := M.length) (Inv := fun k e h' => ∃ i, k + i = M.length ∧ idxAt pr 0 M = idxAt pr i (M.drop i) ∧ h' = h ∧ i ≤ M.length ∧ e 0 = v ∧ e 1 = .fn g [] cx ∧ e 7 = .int .i64 (M.length : Nat) ∧ e 8 = .int .i64 (i : Nat)) ?_ ?_ (by omega)
  · rintro k e h' K' ⟨i, hk, hix, hh, hil, e0, e1, e7, e8⟩ hnext hexit
    subst hh
    by_cases hi : i < M.length
    · have c1 : (i : Int) < (M.length : Int) := by omega
      obtain ⟨s, hs⟩ : ∃ s, M[i]? = some s := ⟨M[i], List.getElem?_eq_getElem hi⟩
      obtain ⟨b, cs, bk, g1, g2, g3⟩ := loadM hr hs
      have kc2 := fun m => kc m s (List.mem_of_getElem? hs)
      have c7 : IntKind.i64.wrap ((i : Int) + 1) = ((i + 1 : Nat) : Int) := by rw [wrap_i64 (by omega) (by omega)]; rfl
      rw [List.drop_eq_getElem_cons hi, (List.getElem?_eq_some_iff.1 hs).2] at hix
      simp only [idxAt] at hix
      cases hz : pr s
      · rw [hz, if_neg (by simp)] at hix
        simp +contextual (maxSteps := 3000000) only [↓code_skip, ↓code_seq, ↓code_region, ↓code_cond, ↓code_block, aCond_bool, ↓ops_nil, ↓ops_cons, run_none, ↓run0_v, ↓run0_r, ↓seqK_normal, ↓blkK_normal, put_same, put_ne, ev_tmp, ev_const, oc_int, o_move, o_assign, o_bin, o_call, o_load, o_indexAddr, g_none, bin_add, bin_lss, decide_eq_true_eq, ↓reduceIte, Nat.reduceEqDiff, not_false_eq_true, reduceCtorEq, Bool.false_eq_true, List.map_cons, List.map_nil, List.nil_append, List.cons_append, ne_eq, load_p1 T59 a59, loadc_def, e0, e1, e7, e8, c1, g1, g2, g3, callV_fn hg, List.cons_append, List.nil_append, kc2, hz, c7]
        refine hnext (k - 1) _ _ (by omega) ⟨i + 1, by omega, ?_, ?_, ?_, ?_, ?_, ?_, ?_⟩
        · exact hix
        · rfl
        · omega
        · simp only [put_ne, not_false_eq_true, reduceCtorEq, ne_eq, e0]
        · simp only [put_ne, Nat.reduceEqDiff, not_false_eq_true, ne_eq, e1]
        · simp only [put_ne, Nat.reduceEqDiff, not_false_eq_true, ne_eq, e7]
        · simp only [put_same]
      · rw [hz, if_pos rfl] at hix
        simp +contextual (maxSteps := 3000000) only [↓code_skip, ↓code_seq, ↓code_region, ↓code_cond, ↓code_block, ↓code_ret, aCond_bool, ↓ops_nil, ↓ops_cons, run_none, ↓run0_v, ↓run0_r, ↓seqK_normal, ↓seqK_ret, ↓blkK_ret, put_same, put_ne, ev_tmp, o_move, o_assign, o_bin, o_call, o_load, o_indexAddr, g_none, bin_lss, decide_eq_true_eq, ↓reduceIte, Nat.reduceEqDiff, not_false_eq_true, reduceCtorEq, List.map_cons, List.map_nil, List.nil_append, List.cons_append, ne_eq, load_p1 T59 a59, loadc_def, e0, e1, e7, e8, c1, g1, g2, g3, callV_fn hg, List.cons_append, List.nil_append, kc2, hz]
        refine hexit _ _ _ (by simp) ?_
        simp +contextual (maxSteps := 3000000) only [↓seqK_ret, ↓blkK_ret, ↓retK_ret, put_same, resultsOf, oneOrAll, Option.map_some, hix]
    · have c1 : ¬ (i : Int) < (M.length : Int) := by omega
      rw [List.drop_eq_nil_of_le (by omega)] at hix
      simp +contextual (maxSteps := 3000000) only [↓code_seq, ↓code_region, ↓code_cond, ↓code_exit, aCond_bool, ↓ops_nil, ↓ops_cons, run_none, ↓run0_v, ↓seqK_normal, ↓seqK_exit, put_same, ev_tmp, o_bin, g_none, bin_lss, decide_eq_true_eq, ↓reduceIte, e7, e8, c1]
      refine hexit _ _ _ (by simp) ?_
      simp +contextual (maxSteps := 3000000) only [↓code_seq, ↓code_region, ↓code_ret, ↓ops_nil, ↓ops_cons, run_none, ↓run0_v, ↓seqK_normal, ↓blkK_exit, ↓retK_ret, put_same, ev_const, oc_int, o_assign, g_none, resultsOf, oneOrAll, Option.map_some, ↓reduceIte, hix, idxAt]
  · refine ⟨0, by omega, ?_, ?_, ?_, ?_, ?_, ?_, ?_⟩
    · rfl
    · rfl
    · omega
    · simp only [put_ne, env0_at, Option.getD_some, not_false_eq_true, reduceCtorEq, List.getElem?_cons_zero, ne_eq]
    · simp only [put_ne, env0_at, Option.getD_some, Nat.reduceEqDiff, not_false_eq_true, List.getElem?_cons_zero, List.getElem?_cons_succ, ne_eq]
    · simp only [put_same, put_ne, Nat.reduceEqDiff, not_false_eq_true, ne_eq]
    · simp only [put_same]; rfl
theorem run26 {I : Nat → Option (List AV → AH → Rs)} (h26 : I 26 = none) (m : Nat) (q : Sm) (h : AH) (hg : h.get q.a = some (.cells [q.s.rv, .int .i64 q.s.st, .int .i64 q.s.k, .int .i64 q.s.se, .int .i64 q.s.n, .int .i64 q.s.d, q.av, q.hv] .own)) (hr : RowC 3 h q.av q.s.qs.length (fl As.av q.s.qs)) :
    call F I T (m + 1) 26 [.ptr q.a 0] h = some (.bool (busy q.s), h) := by
  have hlen : ∀ h, aLen T 61 q.av h = some (.int .i64 (q.s.qs.length : Nat)) := fun h => hr.len T61 d61
  have c6 : decide ((0 : Int) < (q.s.qs.length : Int)) = decide (0 < q.s.qs.length) := by by_cases z : 0 < q.s.qs.length <;> simp [z]
  unfold busy
  rw [call_F (by decide) h26 F26 rfl R26]; simp only [Try.f26, Option.getD]
  by_cases c1 : q.s.st = 1
  · simp +contextual (maxSteps := 3000000) only [↓code_seq, ↓code_region, ↓code_ret, ↓ops_nil, ↓ops_cons, run_none, run_someF, ↓run0_v, ↓seqK_normal, ↓retK_ret, put_same, put_ne, env0_at, ev_tmp, ev_const, oc_int, oc_bool, o_move, o_assign, o_pick, o_bin, o_len, o_load, o_nilCheck, o_fieldAddr, g_none, g_some, pick_bool, bin_eql, nil_ptr, resultsOf, oneOrAll, Option.bind_some, Option.map_some, Option.getD_some, ↓reduceIte, Nat.reduceEqDiff, not_false_eq_true, Nat.reduceAdd, reduceCtorEq, List.getElem?_cons_zero, List.getElem?_cons_succ, List.getElem?_toArray, ne_eq, fa_ptr T64 p64_1 (by decide), load_p1 T3 a3, loadc_def, hg, eq_true c1, decide_true, Bool.true_or]
  · simp +contextual (maxSteps := 3000000) only [↓code_seq, ↓code_region, ↓code_ret, ↓ops_nil, ↓ops_cons, run_none, run_someF, ↓run0_v, ↓seqK_normal, ↓retK_ret, put_same, put_ne, env0_at, ev_tmp, ev_const, oc_int, oc_bool, o_move, o_assign, o_pick, o_bin, o_len, o_load, o_nilCheck, o_fieldAddr, g_none, g_some, pick_bool, bin_eql, bin_gtr, nil_ptr, resultsOf, oneOrAll, Option.bind_some, Option.map_some, Option.getD_some, ↓reduceIte, Nat.reduceEqDiff, not_false_eq_true, Nat.reduceAdd, reduceCtorEq, List.getElem?_cons_zero, List.getElem?_cons_succ, List.getElem?_toArray, Bool.false_eq_true, gt_iff_lt, ne_eq, fa_ptr T64 p64_1 (by decide), load_p1 T3 a3, loadc_def, fa_ptr T64 p64_5 (by decide), load_p1 T61 a61, hg, c1, hlen, c6, decide_false, Bool.false_or]
theorem V10 {I : Nat → Option (List AV → AH → Rs)} (h21 : I 21 = none) (h38 : I 38 = none) (h25 : I 25 = none) (h26 : I 26 = none) (h10 : I 10 = none) (m p : Nat) (lo hi : Int) (S : List Sn) (off : Nat → Prop) (h : AH) (hL : Lk h p lo hi S off) (hl : ¬ lo = 0) (hS : S.length ≤ 200) :
    call F I T (m + 302) 10 [.ptr p 0] h = some (.bool (!S.any busy), h) := by
  obtain ⟨own, sv, M, hM, rfl, rfl⟩ := hL
  rw [List.length_map] at hS
  obtain ⟨fr, g⟩ := hM.g
  have k1 := run21 h21 (m + 300) p lo hi fr sv h g hl
  have k2 := run38 h38 m 26 (by decide) [] (fun q => busy q.s) sv M h hM.r hS fun m' q hq => by
    obtain ⟨i, hi, rfl⟩ := List.getElem_of_mem hq
    have hm := List.getElem?_eq_getElem hi
    exact run26 h26 m' _ h (StOk.ptr hM hm) (hM.s i _ hm).ra
  have hany := idxAt_nonneg (fun q : Sm => busy q.s) M 0
  have k3 : call F I T (m + 301) 25 [sv, .fn 26 [] []] h = some (.bool (M.any fun q => busy q.s), h) := by
    rw [call_F (by decide) h25 F25 rfl R25]; simp only [Try.f25, Option.getD]
    cases ha : M.any fun q => busy q.s
    · have c1 : ¬ 0 ≤ idxAt (fun q : Sm => busy q.s) 0 M := by rw [hany, ha]; simp
      simp +contextual (maxSteps := 3000000) only [↓code_seq, ↓code_region, ↓code_ret, ↓ops_nil, ↓ops_cons, run_none, ↓run0_v, ↓run0_r, ↓seqK_normal, ↓retK_ret, put_same, put_ne, env0_at, ev_tmp, ev_const, ev_func, oc_int, oc_bool, o_move, o_assign, o_bin, o_call, g_none, bin_geq, resultsOf, oneOrAll, Option.map_some, Option.getD_some, Nat.reduceEqDiff, not_false_eq_true, reduceCtorEq, List.getElem?_cons_zero, List.getElem?_cons_succ, List.map_cons, List.map_nil, List.append_nil, List.nil_append, ge_iff_le, ne_eq, k2, c1, decide_false, callV_fn (g := 38) (by decide)]
    · have c1 : 0 ≤ idxAt (fun q : Sm => busy q.s) 0 M := by rw [hany, ha]
      simp +contextual (maxSteps := 3000000) only [↓code_seq, ↓code_region, ↓code_ret, ↓ops_nil, ↓ops_cons, run_none, ↓run0_v, ↓run0_r, ↓seqK_normal, ↓retK_ret, put_same, put_ne, env0_at, ev_tmp, ev_const, ev_func, oc_int, oc_bool, o_move, o_assign, o_bin, o_call, g_none, bin_geq, resultsOf, oneOrAll, Option.map_some, Option.getD_some, Nat.reduceEqDiff, not_false_eq_true, reduceCtorEq, List.getElem?_cons_zero, List.getElem?_cons_succ, List.map_cons, List.map_nil, List.append_nil, List.nil_append, ge_iff_le, ne_eq, k2, c1, decide_true, callV_fn (g := 38) (by decide)]
  have hmm : (M.map Sm.s).any busy = M.any fun q => busy q.s := by rw [List.any_map]; rfl
  rw [hmm]
  rw [call_F (by decide) h10 F10 rfl R10]; simp only [Try.f10, Option.getD]
  simp +contextual (maxSteps := 3000000) only [↓code_seq, ↓code_region, ↓code_ret, ↓ops_nil, ↓ops_cons, run_none, run_someT, ↓run0_v, ↓run0_r, ↓seqK_normal, ↓retK_ret, put_same, put_ne, env0_at, ev_tmp, ev_const, ev_func, oc_bool, o_move, o_assign, o_pick, o_call, o_load, o_nilCheck, o_un, o_fieldAddr, g_none, g_some, pick_bool, un_not, nil_ptr, resultsOf, oneOrAll, Option.bind_some, Option.map_some, Option.getD_some, ↓reduceIte, Nat.reduceEqDiff, not_false_eq_true, Nat.reduceAdd, reduceCtorEq, List.getElem?_cons_zero, List.getElem?_cons_succ, List.getElem?_toArray, List.map_cons, List.map_nil, List.append_nil, List.nil_append, Bool.not_false, ne_eq, fa_ptr T58 p58_3 (by decide), load_p1 T56 a56, loadc_def, k1, g, k3, callV_fn (g := 21) (by decide), callV_fn (g := 25) (by decide)]
/-- No two stations are settled at one address. -/
def Alone (S : List Sn) : Prop := ∀ (i j : Nat) (s t : Sn), i < j → S[i]? = some s → S[j]? = some t → s.st = 2 → t.st = 2 → eqA s.n s.d t.n t.d = false
theorem V16 {I : Nat → Option (List AV → AH → Rs)} (h21 : I 21 = none) (h16 : I 16 = none) (m p : Nat) (lo hi : Int) (S : List Sn) (off : Nat → Prop) (h : AH) (hL : Lk h p lo hi S off) (hl : ¬ lo = 0) (hS : S.length ≤ 200) (hA : Alone S) :
    call F I T (m + 302) 16 [.ptr p 0] h = some (.nils, h) := by
  obtain ⟨own, sv, M, hM, rfl, rfl⟩ := hL
  rw [List.length_map] at hS
  obtain ⟨fr, g⟩ := hM.g
  have k1 := run21 h21 (m + 300) p lo hi fr sv h g hl
  have hlen : ∀ h, aLen T 56 sv h = some (.int .i64 (M.length : Nat)) := fun h => hM.r.len T56 d56
  rw [call_F (by decide) h16 F16 rfl R16]; simp only [Try.f16, Option.getD]
  simp +contextual (maxSteps := 3000000) only [↓code_skip, ↓code_seq, ↓code_region, ↓code_cond, ↓code_block, ↓code_loop, aCond_bool, ↓ops_nil, ↓ops_cons, run_none, ↓run0_v, ↓run0_r, ↓seqK_normal, put_same, put_ne, env0_at, ev_tmp, ev_const, ev_func, oc_int, oc_nils, o_move, o_assign, o_call, o_len, o_load, o_nilCheck, o_fieldAddr, g_none, nil_ptr, Option.getD_some, ↓reduceIte, not_false_eq_true, Nat.reduceAdd, reduceCtorEq, List.getElem?_cons_zero, List.getElem?_cons_succ, Bool.false_eq_true, List.map_cons, List.map_nil, List.append_nil, List.nil_append, ne_eq, fa_ptr T58 p58_3 (by decide), load_p1 T56 a56, loadc_def, k1, g, hlen, callV_fn (g := 21) (by decide)]
  refine iterL_wp (Q := fun r => r = some (.nils, h)) (N := M.length) (Inv := fun k e h' => ∃ i, k + i = M.length ∧ h' = h ∧ i ≤ M.length ∧ e 0 = .ptr p 0 ∧ e 3 = .nils ∧ e 13 = sv ∧ e 14 = .int .i64 (M.length : Nat) ∧ e 15 = .int .i64 (i : Nat)) ?_ ?_ (show M.length < m + 301 by omega)
  · rintro k e h' K' ⟨i, hk, hh, hil, e0, e3, e13, e14, e15⟩ hnext hexit
    by_cases hi : i < M.length
    · have c1 : (i : Int) < (M.length : Int) := by omega
      obtain ⟨s, hs⟩ : ∃ s, M[i]? = some s := ⟨M[i], List.getElem?_eq_getElem hi⟩
      rw [hh] 
      obtain ⟨b, cs, bk, g1, g2, g3⟩ := loadM hM.r hs
      have gs := StOk.ptr hM hs
      have c7 : IntKind.i64.wrap ((i : Int) + 1) = ((i + 1 : Nat) : Int) := by rw [wrap_i64 (by omega) (by omega)]; rfl
      have hnext0 := hnext
      obtain ⟨k0, hk0⟩ : ∃ k0, k0 = k := ⟨k, rfl⟩
      simp +contextual (maxSteps := 3000000) only [↓code_skip, ↓code_seq, ↓code_region, ↓code_cond, ↓code_block, ↓code_loop, aCond_bool, ↓ops_nil, ↓ops_cons, run_none, ↓run0_v, ↓seqK_normal, put_same, put_ne, ev_tmp, ev_const, oc_int, o_move, o_assign, o_bin, o_load, o_indexAddr, g_none, bin_add, bin_lss, decide_eq_true_eq, ↓reduceIte, Nat.reduceEqDiff, not_false_eq_true, ne_eq, loadc_def, load_p1 T59 a59, e13, e14, e15, c1, g1, g2, g3, c7]
      refine iterL_wp (Q := fun r => r = some (.nils, h)) (N := M.length - (i + 1)) (Inv := fun k e h' => ∃ z y, k + z = M.length - (i + 1) ∧ y = i + 1 + z ∧ h' = h ∧ y ≤ M.length ∧ e 0 = .ptr p 0 ∧ e 3 = .nils ∧ e 4 = .int .i64 (i : Nat) ∧ e 5 = .ptr s.a 0 ∧ e 6 = .int .i64 (y : Nat) ∧ e 13 = sv ∧ e 14 = .int .i64 (M.length : Nat) ∧ e 15 = .int .i64 (i : Nat)) ?_ ?_ (show M.length - (i + 1) < m + 301 by omega)
      · rintro k e h' K' ⟨z, y, hk, hy, hh2, hyl, e0, e3, e4, e5, e6, e13, e14, e15⟩ hnext hexit
        rw [hh2]
        by_cases hj : y < M.length
        · have d1 : (y : Int) < (M.length : Int) := by omega
          obtain ⟨t, ht⟩ : ∃ t, M[y]? = some t := ⟨M[y], List.getElem?_eq_getElem hj⟩
          obtain ⟨b', cs', bk', x1, x2, x3⟩ := loadM hM.r ht
          have gt := StOk.ptr hM ht
          have d7 : IntKind.i64.wrap ((y : Int) + 1) = ((y + 1 : Nat) : Int) := by rw [wrap_i64 (by omega) (by omega)]; rfl
          have hal := hA i y s.s t.s (by omega) (by rw [List.getElem?_map, hs]; rfl) (by rw [List.getElem?_map, ht]; rfl)
          by_cases c2 : s.s.st = 2
          · by_cases c3 : t.s.st = 2
            · have c4 := hal c2 c3
              simp +contextual (maxSteps := 3000000) only [↓code_skip, ↓code_seq, ↓code_region, ↓code_cond, ↓code_block, aCond_bool, ↓ops_nil, ↓ops_cons, run_none, run_someT, ↓run0_v, ↓seqK_normal, ↓blkK_normal, put_same, put_ne, ev_tmp, ev_const, oc_int, oc_bool, o_move, o_assign, o_pick, o_bin, o_len, o_load, o_nilCheck, o_fieldAddr, o_indexAddr, g_none, g_some, pick_bool, bin_add, bin_eql, bin_lss, nil_ptr, Option.bind_some, Option.map_some, ↓reduceIte, Nat.reduceEqDiff, not_false_eq_true, Nat.reduceAdd, reduceCtorEq, List.getElem?_cons_zero, List.getElem?_cons_succ, List.getElem?_toArray, Bool.false_eq_true, Nat.reduceLeDiff, ne_eq, fa_ptr T58 p58_3 (by decide), load_p1 T56 a56, loadc_def, load_p1 T59 a59, fa_ptr T64 p64_1 (by decide), load_p1 T3 a3, fa_ptr T64 p64_4 (by decide), load_pA T35 a35, s35, loadn_def, List.take_succ_cons, List.take_zero, List.drop_succ_cons, List.drop_zero, List.length_cons, List.length_nil, List.drop_succ_cons, List.length_cons, List.length_nil, List.drop_zero, List.take_succ_cons, List.take_zero, Nat.zero_add, e0, e5, e6, d1, g, hlen, x1, x2, x3, gs, gt, eq_true c2, eq_true c3, eql35, c4, decide_true, d7]
              refine hnext (k - 1) _ _ (by omega) ⟨z + 1, y + 1, by omega, ?_, ?_, ?_, ?_, ?_, ?_, ?_, ?_, ?_, ?_, ?_⟩
              · omega
              · rfl
              · omega
              · simp only [put_ne, not_false_eq_true, reduceCtorEq, ne_eq, e0]
              · simp only [put_ne, Nat.reduceEqDiff, not_false_eq_true, ne_eq, e3]
              · simp only [put_ne, Nat.reduceEqDiff, not_false_eq_true, ne_eq, e4]
              · simp only [put_ne, Nat.reduceEqDiff, not_false_eq_true, ne_eq, e5]
              · simp only [put_same]
              · simp only [put_ne, Nat.reduceEqDiff, not_false_eq_true, ne_eq, e13]
              · simp only [put_ne, Nat.reduceEqDiff, not_false_eq_true, ne_eq, e14]
              · simp only [put_ne, Nat.reduceEqDiff, not_false_eq_true, ne_eq, e15]
            · simp +contextual (maxSteps := 3000000) only [↓code_skip, ↓code_seq, ↓code_region, ↓code_cond, ↓code_block, aCond_bool, ↓ops_nil, ↓ops_cons, run_none, run_someT, ↓run0_v, ↓seqK_normal, ↓blkK_normal, put_same, put_ne, ev_tmp, ev_const, oc_int, oc_bool, o_move, o_assign, o_pick, o_bin, o_len, o_load, o_nilCheck, o_fieldAddr, o_indexAddr, g_none, g_some, pick_bool, bin_add, bin_eql, bin_lss, nil_ptr, Option.bind_some, ↓reduceIte, Nat.reduceEqDiff, not_false_eq_true, Nat.reduceAdd, reduceCtorEq, List.getElem?_cons_zero, List.getElem?_cons_succ, List.getElem?_toArray, Bool.false_eq_true, ne_eq, fa_ptr T58 p58_3 (by decide), load_p1 T56 a56, loadc_def, load_p1 T59 a59, fa_ptr T64 p64_1 (by decide), load_p1 T3 a3, e0, e5, e6, d1, g, hlen, x1, x2, x3, gs, gt, eq_true c2, c3, decide_true, decide_false, d7]
              refine hnext (k - 1) _ _ (by omega) ⟨z + 1, y + 1, by omega, ?_, ?_, ?_, ?_, ?_, ?_, ?_, ?_, ?_, ?_, ?_⟩
              · omega
              · rfl
              · omega
              · simp only [put_ne, not_false_eq_true, reduceCtorEq, ne_eq, e0]
              · simp only [put_ne, Nat.reduceEqDiff, not_false_eq_true, ne_eq, e3]
              · simp only [put_ne, Nat.reduceEqDiff, not_false_eq_true, ne_eq, e4]
              · simp only [put_ne, Nat.reduceEqDiff, not_false_eq_true, ne_eq, e5]
              · simp only [put_same]
              · simp only [put_ne, Nat.reduceEqDiff, not_false_eq_true, ne_eq, e13]
              · simp only [put_ne, Nat.reduceEqDiff, not_false_eq_true, ne_eq, e14]
              · simp only [put_ne, Nat.reduceEqDiff, not_false_eq_true, ne_eq, e15]
          · simp +contextual (maxSteps := 3000000) only [↓code_skip, ↓code_seq, ↓code_region, ↓code_cond, ↓code_block, aCond_bool, ↓ops_nil, ↓ops_cons, run_none, run_someT, ↓run0_v, ↓seqK_normal, ↓blkK_normal, put_same, put_ne, ev_tmp, ev_const, oc_int, oc_bool, o_move, o_assign, o_pick, o_bin, o_len, o_load, o_nilCheck, o_fieldAddr, o_indexAddr, g_none, g_some, pick_bool, bin_add, bin_eql, bin_lss, nil_ptr, Option.bind_some, ↓reduceIte, Nat.reduceEqDiff, not_false_eq_true, Nat.reduceAdd, reduceCtorEq, List.getElem?_cons_zero, List.getElem?_cons_succ, List.getElem?_toArray, Bool.false_eq_true, ne_eq, fa_ptr T58 p58_3 (by decide), load_p1 T56 a56, loadc_def, load_p1 T59 a59, fa_ptr T64 p64_1 (by decide), load_p1 T3 a3, e0, e5, e6, d1, g, hlen, x1, x2, x3, gs, c2, decide_true, decide_false, d7]
            refine hnext (k - 1) _ _ (by omega) ⟨z + 1, y + 1, by omega, ?_, ?_, ?_, ?_, ?_, ?_, ?_, ?_, ?_, ?_, ?_⟩
            · omega
            · rfl
            · omega
            · simp only [put_ne, not_false_eq_true, reduceCtorEq, ne_eq, e0]
            · simp only [put_ne, Nat.reduceEqDiff, not_false_eq_true, ne_eq, e3]
            · simp only [put_ne, Nat.reduceEqDiff, not_false_eq_true, ne_eq, e4]
            · simp only [put_ne, Nat.reduceEqDiff, not_false_eq_true, ne_eq, e5]
            · simp only [put_same]
            · simp only [put_ne, Nat.reduceEqDiff, not_false_eq_true, ne_eq, e13]
            · simp only [put_ne, Nat.reduceEqDiff, not_false_eq_true, ne_eq, e14]
            · simp only [put_ne, Nat.reduceEqDiff, not_false_eq_true, ne_eq, e15]
        · have d1 : ¬ (y : Int) < (M.length : Int) := by omega
          simp +contextual (maxSteps := 3000000) only [↓code_seq, ↓code_region, ↓code_cond, ↓code_exit, aCond_bool, ↓ops_nil, ↓ops_cons, run_none, ↓run0_v, ↓seqK_normal, ↓seqK_exit, put_same, put_ne, ev_tmp, o_move, o_bin, o_len, o_load, o_nilCheck, o_fieldAddr, g_none, bin_lss, nil_ptr, decide_eq_true_eq, ↓reduceIte, Nat.reduceEqDiff, not_false_eq_true, Nat.reduceAdd, reduceCtorEq, List.getElem?_cons_zero, List.getElem?_cons_succ, ne_eq, fa_ptr T58 p58_3 (by decide), load_p1 T56 a56, loadc_def, e0, e6, d1, g, hlen]
          refine hexit _ _ _ (by simp) ?_
          simp +contextual (maxSteps := 3000000) only [↓code_region, ↓ops_nil, ↓ops_cons, run_none, ↓run0_v, ↓seqK_normal, ↓blkK_normal, ↓blkK_exit, put_same, put_ne, ev_tmp, ev_const, oc_int, o_move, o_bin, g_none, bin_add, ↓reduceIte, Nat.reduceEqDiff, not_false_eq_true, ne_eq, e15, c7]
          refine hnext0 (k0 - 1) _ _ (by omega) ⟨i + 1, by omega, rfl, by omega, ?_, ?_, ?_, ?_, ?_⟩
          all_goals simp +contextual (maxSteps := 3000000) only [put_same, put_ne, Nat.reduceEqDiff, not_false_eq_true, reduceCtorEq, ne_eq, e0, e3, e13, e14]
      · refine ⟨0, i + 1, by omega, ?_, ?_, ?_, ?_, ?_, ?_, ?_, ?_, ?_, ?_, ?_⟩
        · omega
        · rfl
        · omega
        · simp only [put_ne, not_false_eq_true, reduceCtorEq, ne_eq, e0]
        · simp only [put_ne, Nat.reduceEqDiff, not_false_eq_true, ne_eq, e3]
        · simp only [put_same, put_ne, Nat.reduceEqDiff, not_false_eq_true, ne_eq]
        · simp only [put_same, put_ne, Nat.reduceEqDiff, not_false_eq_true, ne_eq]
        · simp only [put_same]
        · simp only [put_ne, Nat.reduceEqDiff, not_false_eq_true, ne_eq, e13]
        · simp only [put_ne, Nat.reduceEqDiff, not_false_eq_true, ne_eq, e14]
        · simp only [put_ne, Nat.reduceEqDiff, not_false_eq_true, ne_eq, e15]
    · have c1 : ¬ (i : Int) < (M.length : Int) := by omega
      rw [hh]
      simp +contextual (maxSteps := 3000000) only [↓code_seq, ↓code_region, ↓code_cond, ↓code_exit, aCond_bool, ↓ops_nil, ↓ops_cons, run_none, ↓run0_v, ↓seqK_normal, ↓seqK_exit, put_same, ev_tmp, o_bin, g_none, bin_lss, decide_eq_true_eq, ↓reduceIte, e14, e15, c1]
      refine hexit _ _ _ (by simp) ?_
      simp +contextual (maxSteps := 3000000) only [↓code_seq, ↓code_region, ↓code_ret, ↓ops_nil, ↓ops_cons, run_none, ↓run0_v, ↓seqK_normal, ↓blkK_exit, ↓retK_ret, put_same, put_ne, ev_tmp, o_move, o_assign, g_none, resultsOf, oneOrAll, Option.map_some, ↓reduceIte, Nat.reduceEqDiff, not_false_eq_true, ne_eq, e3]
  · refine ⟨0, by omega, ?_, ?_, ?_, ?_, ?_, ?_, ?_⟩
    · rfl
    · omega
    · simp only [put_ne, env0_at, Option.getD_some, not_false_eq_true, reduceCtorEq, List.getElem?_cons_zero, ne_eq]
    · simp only [put_same, put_ne, Nat.reduceEqDiff, not_false_eq_true, ne_eq]
    · simp only [put_same, put_ne, Nat.reduceEqDiff, not_false_eq_true, ne_eq]
    · simp only [put_same, put_ne, Nat.reduceEqDiff, not_false_eq_true, ne_eq]
    · simp only [put_same]; rfl
end Go.AM.X
