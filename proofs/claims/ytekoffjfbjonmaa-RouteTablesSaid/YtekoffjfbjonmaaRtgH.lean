/- The document's tables: what is heard. Own work. -/
import Derived.Test.YtekoffjfbjonmaaRtgG
namespace Go.AM.X
open Go Go.AM Go.Proofs Go.AM.Sx
set_option maxHeartbeats 3200000
set_option maxRecDepth 100000
set_option linter.unusedVariables false
theorem F100 : F 100 = some { body := (Try.f100.body.getD .skip), results := Try.f100.results.toList, rf := false } := by kernel_rfl
theorem R100 : regsOk T (Try.f100.body.getD .skip) = true := by kernel_rfl
theorem F69 : F 69 = some { body := (Try.f69.body.getD .skip), results := Try.f69.results.toList, rf := false } := by kernel_rfl
theorem R69 : regsOk T (Try.f69.body.getD .skip) = true := by kernel_rfl
theorem findR_spec (lo hi : Int) : ∀ (es : List E6) (k : Nat), findR lo hi k es = (-1, false) ∨ (∃ i e, es[i]? = some e ∧ e.lo = lo ∧ e.hi = hi ∧ findR lo hi k es = (((k + i : Nat) : Int), true)) ∨ (findR lo hi k es = (-1, true) ∧ ∀ e ∈ es, ¬ (e.lo = lo ∧ e.hi = hi) ∧ mt e.lo e.hi lo hi = false)
  | [], k => .inr (.inr ⟨rfl, fun e he => by cases he⟩)
  | e :: es, k => by
    by_cases h1 : e.lo = lo ∧ e.hi = hi
    · exact .inr (.inl ⟨0, e, rfl, h1.1, h1.2, by simp only [findR]; rw [if_pos h1]; rfl⟩)
    · by_cases h2 : mt e.lo e.hi lo hi = true
      · exact .inl (by simp only [findR]; rw [if_neg h1, if_pos h2])
      · have hf : findR lo hi k (e :: es) = findR lo hi (k + 1) es := by simp only [findR]; rw [if_neg h1, if_neg h2]
        rcases findR_spec lo hi es (k + 1) with h | ⟨i, e', g1, g2, g3, g4⟩ | ⟨g1, g2⟩
        · exact .inl (by rw [hf, h])
        · exact .inr (.inl ⟨i + 1, e', by simpa using g1, g2, g3, by rw [hf, g4]; congr 1; omega⟩)
        · refine .inr (.inr ⟨by rw [hf, g1], fun x hx => ?_⟩)
          rcases List.mem_cons.1 hx with rfl | hx
          · exact ⟨h1, by simpa using h2⟩
          · exact g2 x hx
def hearD (n f : Int) (es : List E6) (x : Tp) : List E6 :=
  if badX x = true then es
  else if (findR x.lo x.hi 0 es).2 = false then es
  else if (findR x.lo x.hi 0 es).1 < 0 then (if 15 ≤ x.di then es else es ++ [newX n f x])
  else match es[(findR x.lo x.hi 0 es).1.toNat]? with
    | none => es
    | some e => if 15 ≤ x.di then (if e.po = n ∧ e.nx = f then es.set (findR x.lo x.hi 0 es).1.toNat { e with st := max e.st 2 } else es)
      else if 0 < e.di ∧ givesX n f x e = true then es.set (findR x.lo x.hi 0 es).1.toNat (newX n f x) else es
theorem run100 {I : Nat → Option (List AV → AH → Rs)} (h97 : I 97 = none) (h98 : I 98 = none) (h111 : I 111 = none) (h100 : I 100 = none) (m t : Nat) (n f : Int) (x : Tp) (pv ev : AV) (ps : List Pt) (es : List E6) (h : AH) (hT : Tb h t pv ev ps es) (hn : es.length ≤ m ∧ es.length ≤ 100000000) :
    ∃ ev2 h2, call F I T (m + 40) 100 [.ptr t 0, .int .i64 n, .int .i64 f, .agg [.int .i64 x.lo, .int .i64 x.hi, .int .i64 x.di]] h = some (.tup [], h2) ∧ Tb h2 t pv ev2 ps (hearD n f es x) ∧ Stf h h2 (tOff t pv ev) (tOff t pv ev2) := by
  obtain ⟨hA, hhA⟩ : ∃ hA, hA = h.alloc (.cells [.int .i64 x.lo, .int .i64 x.hi, .int .i64 x.di] .own) := ⟨_, rfl⟩
  have gA : Grow h hA := by rw [hhA]; exact Grow.alloc _ _
  have nA : hA.next = h.next + 1 := by rw [hhA]; rfl
  have k1 : hA.get h.next = some (.cells [.int .i64 x.lo, .int .i64 x.hi, .int .i64 x.di] .own) := by rw [hhA, AH.get_alloc, if_pos rfl]
  have hTA := hT.grow gA
  have gt := hTA.g
  have same : ∀ hZ, Grow h hZ → hearD n f es x = es → Tb hZ t pv ev ps (hearD n f es x) ∧ Stf h hZ (tOff t pv ev) (tOff t pv ev) := fun hZ hg he => by rw [he]; exact ⟨hT.grow hg, Stf.grow _ hg⟩
  cases c0 : isR x.lo x.hi
  · have hb : hearD n f es x = es := by unfold hearD badX; rw [c0]; rfl
    refine ⟨ev, hA, ?_, same hA gA hb⟩
    rw [call_F (by decide) h100 F100 rfl R100]; simp only [Try.f100, Option.getD]
    simp +contextual (maxSteps := 3000000) only [↓code_seq, ↓code_region, ↓code_cond, ↓code_ret, aCond_bool, ↓ops_nil, ↓ops_cons, run_none, run_someF, run_tup, ↓run0_v, ↓run0_r, ↓seqK_normal, ↓seqK_ret, ↓retK_ret, put_same, put_ne, env0_at, ev_tmp, ev_const, ev_func, oc_int, oc_bool, o_move, o_pick, o_bin, o_call, o_box, o_load, o_un, o_fieldAddr, g_none, g_some, pick_bool, un_not, resultsOf, oneOrAll, Option.bind_some, Option.map_some, Option.getD_some, ↓reduceIte, Nat.reduceEqDiff, not_false_eq_true, Nat.reduceAdd, List.getElem?_cons_zero, List.getElem?_cons_succ, List.getElem?_toArray, List.map_cons, List.map_nil, List.append_nil, List.nil_append, Bool.not_false, ne_eq, box_agg, fa_ptr T62 p62_0 (by decide), load_p1 T3 a3, loadc_def, fa_ptr T62 p62_1 (by decide), fa_ptr T62 p62_2 (by decide), K97 h97, ← hhA, k1, c0, callV_fn (g := 97) (by decide)]
  by_cases hbad : ¬ x.di = 31 ∧ (x.di < 0 ∨ 15 < x.di)
  · have hb : hearD n f es x = es := by
      unfold hearD badX; rw [c0]
      rcases hbad with ⟨h1, h2 | h2⟩ <;> simp [h1, h2]
    refine ⟨ev, hA, ?_, same hA gA hb⟩
    obtain ⟨b1, b2⟩ := hbad
    by_cases c1 : x.di < 0
    · rw [call_F (by decide) h100 F100 rfl R100]; simp only [Try.f100, Option.getD]
      simp +contextual (maxSteps := 3000000) only [↓code_seq, ↓code_region, ↓code_cond, ↓code_ret, aCond_bool, ↓ops_nil, ↓ops_cons, run_none, run_someT, run_someF, ↓run0_v, ↓run0_r, ↓seqK_normal, ↓seqK_ret, ↓retK_ret, put_same, put_ne, env0_at, ev_tmp, ev_const, ev_func, oc_int, oc_bool, o_move, o_pick, o_bin, o_call, o_box, o_load, o_un, o_fieldAddr, g_none, g_some, pick_bool, bin_neq, bin_lss, un_not, resultsOf, oneOrAll, Option.bind_some, Option.map_some, Option.getD_some, decide_eq_true_eq, ↓reduceIte, Nat.reduceEqDiff, not_false_eq_true, Nat.reduceAdd, List.getElem?_cons_zero, List.getElem?_cons_succ, List.getElem?_toArray, Bool.false_eq_true, List.map_cons, List.map_nil, List.append_nil, List.nil_append, Bool.not_eq_eq_eq_not, Bool.not_true, ne_eq, decide_eq_false_iff_not, box_agg, fa_ptr T62 p62_0 (by decide), load_p1 T3 a3, loadc_def, fa_ptr T62 p62_1 (by decide), fa_ptr T62 p62_2 (by decide), K97 h97, ← hhA, k1, c0, b1, c1, callV_fn (g := 97) (by decide)]
    · have b4 : 15 < x.di := b2.resolve_left c1
      rw [call_F (by decide) h100 F100 rfl R100]; simp only [Try.f100, Option.getD]
      simp +contextual (maxSteps := 3000000) only [↓code_seq, ↓code_region, ↓code_cond, ↓code_ret, aCond_bool, ↓ops_nil, ↓ops_cons, run_none, run_someT, run_someF, ↓run0_v, ↓run0_r, ↓seqK_normal, ↓seqK_ret, ↓retK_ret, put_same, put_ne, env0_at, ev_tmp, ev_const, ev_func, oc_int, oc_bool, o_move, o_pick, o_bin, o_call, o_box, o_load, o_un, o_fieldAddr, g_none, g_some, pick_bool, bin_neq, bin_lss, bin_gtr, un_not, resultsOf, oneOrAll, Option.bind_some, Option.map_some, Option.getD_some, decide_eq_true_eq, ↓reduceIte, Nat.reduceEqDiff, not_false_eq_true, Nat.reduceAdd, List.getElem?_cons_zero, List.getElem?_cons_succ, List.getElem?_toArray, Bool.false_eq_true, List.map_cons, List.map_nil, List.append_nil, List.nil_append, gt_iff_lt, Bool.not_eq_eq_eq_not, Bool.not_true, ne_eq, decide_eq_false_iff_not, box_agg, fa_ptr T62 p62_0 (by decide), load_p1 T3 a3, loadc_def, fa_ptr T62 p62_1 (by decide), fa_ptr T62 p62_2 (by decide), K97 h97, ← hhA, k1, c0, b1, c1, b4, callV_fn (g := 97) (by decide)]
  have hdi : x.di = 31 ∨ (¬ x.di = 31 ∧ ¬ x.di < 0 ∧ ¬ 15 < x.di) := by
    by_cases g : x.di = 31
    · exact .inl g
    · exact .inr ⟨g, fun g2 => hbad ⟨g, .inl g2⟩, fun g2 => hbad ⟨g, .inr g2⟩⟩
  have hdr : 0 ≤ x.di ∧ x.di ≤ 31 := by omega
  have hnb : ¬ badX x = true := by
    unfold badX
    rw [c0]
    simp
    omega
  have cw : IntKind.i64.wrap (x.di + 1) = x.di + 1 := wrap_i64 (by omega) (by omega)
  have k111 := fun mm (hm : es.length ≤ mm) => run111 h98 h111 mm t x.lo x.hi pv ev ps es hA hTA ⟨hm, hn.2⟩
  replace k111 := k111 (m + 19) (by omega)
  rcases findR_spec x.lo x.hi es 0 with hf | ⟨i, e, he, e1', e2', hf⟩ | ⟨hf, hno⟩
  · rw [hf] at k111
    have hb : hearD n f es x = es := by unfold hearD; rw [if_neg hnb, hf]; rfl
    refine ⟨ev, hA, ?_, same hA gA hb⟩
    rcases hdi with q31 | ⟨q31, q32, q33⟩
    · rw [call_F (by decide) h100 F100 rfl R100]; simp only [Try.f100, Option.getD]
      simp +contextual (maxSteps := 3000000) only [↓code_skip, ↓code_seq, ↓code_region, ↓code_cond, ↓code_ret, aCond_bool, ↓ops_nil, ↓ops_cons, run_none, run_someT, run_someF, run_tup, ↓run0_v, ↓run0_r, ↓seqK_normal, ↓seqK_ret, ↓retK_ret, put_same, put_ne, env0_at, ev_tmp, ev_const, ev_func, oc_int, oc_bool, o_move, o_assign, o_pick, o_bin, o_call, o_box, o_load, o_un, o_fieldAddr, o_extract, g_none, g_some, pick_bool, bin_neq, un_not, extract_tup, resultsOf, oneOrAll, Option.bind_some, Option.map_some, Option.getD_some, ↓reduceIte, Nat.reduceEqDiff, not_false_eq_true, reduceCtorEq, List.getElem?_cons_zero, List.getElem?_cons_succ, List.getElem?_toArray, Bool.false_eq_true, List.map_cons, List.map_nil, List.append_nil, List.nil_append, Bool.not_true, Bool.not_false, ne_eq, box_agg, fa_ptr T62 p62_0 (by decide), load_p1 T3 a3, loadc_def, fa_ptr T62 p62_1 (by decide), fa_ptr T62 p62_2 (by decide), K97 h97, Nat.zero_add, Nat.add_zero, ← hhA, k1, c0, k111, eq_true q31, decide_true, callV_fn (g := 97) (by decide), callV_fn (g := 111) (by decide)]
    · rw [call_F (by decide) h100 F100 rfl R100]; simp only [Try.f100, Option.getD]
      simp +contextual (maxSteps := 3000000) only [↓code_skip, ↓code_seq, ↓code_region, ↓code_cond, ↓code_ret, aCond_bool, ↓ops_nil, ↓ops_cons, run_none, run_someT, run_someF, ↓run0_v, ↓run0_r, ↓seqK_normal, ↓seqK_ret, ↓retK_ret, put_same, put_ne, env0_at, ev_tmp, ev_const, ev_func, oc_int, oc_bool, o_move, o_assign, o_pick, o_bin, o_call, o_box, o_load, o_un, o_fieldAddr, o_extract, g_none, g_some, pick_bool, bin_neq, bin_lss, bin_gtr, un_not, extract_tup, resultsOf, oneOrAll, Option.bind_some, Option.map_some, Option.getD_some, decide_eq_true_eq, ↓reduceIte, Nat.reduceEqDiff, not_false_eq_true, reduceCtorEq, List.getElem?_cons_zero, List.getElem?_cons_succ, List.getElem?_toArray, Bool.false_eq_true, List.map_cons, List.map_nil, List.append_nil, List.nil_append, gt_iff_lt, Bool.not_eq_eq_eq_not, Bool.not_true, Bool.not_false, ne_eq, decide_eq_false_iff_not, box_agg, fa_ptr T62 p62_0 (by decide), load_p1 T3 a3, loadc_def, fa_ptr T62 p62_1 (by decide), fa_ptr T62 p62_2 (by decide), K97 h97, Nat.zero_add, Nat.add_zero, ← hhA, k1, c0, k111, q31, q32, q33, callV_fn (g := 97) (by decide), callV_fn (g := 111) (by decide)]
  rotate_left
  · rw [hf] at k111
    have n1 : ((-1 : Int) < 0) := by decide
    have n2 : ¬ (0 : Int) ≤ -1 := by decide
    by_cases c4 : 15 ≤ x.di
    · have hb : hearD n f es x = es := by unfold hearD; rw [if_neg hnb, hf]; simp only; rw [if_neg (by simp), if_pos (by decide), if_pos c4]
      refine ⟨ev, hA, ?_, same hA gA hb⟩
      rcases hdi with q31 | ⟨q31, q32, q33⟩
      · rw [call_F (by decide) h100 F100 rfl R100]; simp only [Try.f100, Option.getD]
        simp +contextual (maxSteps := 3000000) only [↓code_skip, ↓code_seq, ↓code_region, ↓code_cond, ↓code_ret, aCond_bool, ↓ops_nil, ↓ops_cons, run_none, run_someT, run_someF, run_tup, ↓run0_v, ↓run0_r, ↓seqK_normal, ↓seqK_ret, ↓retK_ret, put_same, put_ne, env0_at, ev_tmp, ev_const, ev_func, oc_int, oc_bool, o_move, o_assign, o_pick, o_bin, o_call, o_box, o_load, o_nilCheck, o_un, o_fieldAddr, o_indexAddr, o_extract, g_none, g_some, pick_bool, bin_neq, bin_geq, un_not, extract_tup, resultsOf, oneOrAll, Option.bind_some, Option.map_some, Option.getD_some, decide_eq_true_eq, ↓reduceIte, Nat.reduceEqDiff, not_false_eq_true, not_true_eq_false, reduceCtorEq, List.getElem?_cons_zero, List.getElem?_cons_succ, List.getElem?_toArray, Bool.false_eq_true, List.map_cons, List.map_nil, List.append_nil, List.nil_append, ge_iff_le, Bool.not_eq_eq_eq_not, Bool.not_true, ne_eq, decide_eq_false_iff_not, box_agg, fa_ptr T62 p62_0 (by decide), load_p1 T3 a3, loadc_def, fa_ptr T62 p62_1 (by decide), fa_ptr T62 p62_2 (by decide), K97 h97, Nat.zero_add, Nat.add_zero, ← hhA, k1, c0, k111, eq_true q31, n2, c4, callV_fn (g := 97) (by decide), callV_fn (g := 111) (by decide)]
      · rw [call_F (by decide) h100 F100 rfl R100]; simp only [Try.f100, Option.getD]
        simp +contextual (maxSteps := 3000000) only [↓code_skip, ↓code_seq, ↓code_region, ↓code_cond, ↓code_ret, aCond_bool, ↓ops_nil, ↓ops_cons, run_none, run_someT, run_someF, ↓run0_v, ↓run0_r, ↓seqK_normal, ↓seqK_ret, ↓retK_ret, put_same, put_ne, env0_at, ev_tmp, ev_const, ev_func, oc_int, oc_bool, o_move, o_assign, o_pick, o_bin, o_call, o_box, o_load, o_nilCheck, o_un, o_fieldAddr, o_indexAddr, o_extract, g_none, g_some, pick_bool, bin_neq, bin_lss, bin_gtr, bin_geq, un_not, extract_tup, resultsOf, oneOrAll, Option.bind_some, Option.map_some, Option.getD_some, decide_eq_true_eq, ↓reduceIte, Nat.reduceEqDiff, not_false_eq_true, reduceCtorEq, List.getElem?_cons_zero, List.getElem?_cons_succ, List.getElem?_toArray, Bool.false_eq_true, List.map_cons, List.map_nil, List.append_nil, List.nil_append, gt_iff_lt, ge_iff_le, Bool.not_eq_eq_eq_not, Bool.not_true, ne_eq, decide_eq_false_iff_not, box_agg, fa_ptr T62 p62_0 (by decide), load_p1 T3 a3, loadc_def, fa_ptr T62 p62_1 (by decide), fa_ptr T62 p62_2 (by decide), K97 h97, Nat.zero_add, Nat.add_zero, ← hhA, k1, c0, k111, q31, q32, q33, n2, c4, callV_fn (g := 97) (by decide), callV_fn (g := 111) (by decide)]
    have hb : hearD n f es x = es ++ [newX n f x] := by unfold hearD; rw [if_neg hnb, hf]; simp only; rw [if_neg (by simp), if_pos (by decide), if_neg c4]
    rw [hb]
    obtain ⟨hD, y1, y2, y3, y4⟩ := store_e hA (newX n f x)
    simp only [newX] at y1 y3
    rw [nA] at y1 y3
    have gAD := gA.trans y4
    have hTD := hT.grow gAD
    have gtD := hTD.g
    have k1D : hD.get h.next = some (.cells [.int .i64 x.lo, .int .i64 x.hi, .int .i64 x.di] .own) := by rw [y4.2 _ (by omega)]; exact k1
    obtain ⟨ev2, hE, q1, q2, q3, q4, q5⟩ := hTD.e.push (new := [.int .i64 x.lo, .int .i64 x.hi, .int .i64 (x.di + 1), .int .i64 n, .int .i64 f, .int .i64 0]) T36 d36 T60 s60 (by decide) (by rw [b60]; decide) rfl rfl (by rw [b60]; simp [maxBytes]; omega)
    have hcs : fl E6.av es ++ [.int .i64 x.lo, .int .i64 x.hi, .int .i64 (x.di + 1), .int .i64 n, .int .i64 f, .int .i64 0] = fl E6.av (es ++ [newX n f x]) := by rw [fl_app]; rfl
    have hln : es.length + 1 = (es ++ [newX n f x]).length := by simp
    rw [hcs, hln] at q2
    obtain ⟨hTF, sF⟩ := hTD.setE q2 (by omega) q4 q5
    obtain ⟨hF, hhF⟩ : ∃ hF, hF = hE.put t (.cells [pv, ev2] .own) := ⟨_, rfl⟩
    rw [← hhF] at hTF sF
    obtain ⟨ue1, ue2⟩ := q2.cells
    have gE : hE.get t = some (.cells [pv, ev] .own) := by rw [q4 t hTD.lt hTD.te]; exact gtD
    have stF : aStore T 36 (.ptr t 1) ev2 hE = some hF := by rw [store_1 T36 s36 ue1 ue2 gE (by simp), hhF]; rfl
    refine ⟨ev2, hF, ?_, hTF, (Stf.grow _ gAD).trans sF⟩
    rcases hdi with q31 | ⟨q31, q32, q33⟩
    · rw [call_F (by decide) h100 F100 rfl R100]; simp only [Try.f100, Option.getD]
      simp +contextual (maxSteps := 3000000) only [↓code_skip, ↓code_seq, ↓code_region, ↓code_cond, ↓code_ret, aCond_bool, ↓ops_nil, ↓ops_cons, run_none, run_someT, run_someF, run_tup, ↓run0_v, ↓run0_h, ↓run0_r, ↓seqK_normal, ↓seqK_ret, ↓retK_ret, put_same, put_ne, put_none, env0_at, ev_tmp, ev_const, ev_func, oc_int, oc_bool, o_move, o_assign, o_pick, o_bin, o_call, o_alloc, o_box, o_build, o_buildSlice, o_load, o_store, o_nilCheck, o_un, o_fieldAddr, o_extract, o_append, g_none, g_some, pick_bool, bin_add, bin_neq, bin_lss, bin_geq, un_not, extract_tup, nil_ptr, resultsOf, oneOrAll, Option.bind_some, Option.map_some, Option.getD_some, decide_eq_true_eq, ↓reduceIte, Nat.reduceEqDiff, not_false_eq_true, not_true_eq_false, Nat.reduceAdd, Nat.reduceMul, reduceCtorEq, List.getElem?_cons_zero, List.getElem?_cons_succ, List.getElem?_toArray, Bool.false_eq_true, List.map_cons, List.map_nil, List.append_nil, List.nil_append, List.cons_append, and_true, Nat.reduceLeDiff, Nat.le_refl, ge_iff_le, Bool.not_eq_eq_eq_not, Bool.not_true, ne_eq, decide_eq_false_iff_not, box_agg, fa_ptr T62 p62_0 (by decide), load_p1 T3 a3, loadc_def, fa_ptr T62 p62_1 (by decide), fa_ptr T62 p62_2 (by decide), fa_ptr T52 p52_1 (by decide), load_p1 T36 a36, run0_h, build_struct T60 d60, z60, parts_eq, fillA, AV.cells, AH.splice, List.take_succ_cons, List.take_zero, List.take_nil, List.drop_succ_cons, List.drop_zero, List.drop_nil, List.length_cons, List.length_nil, p60_0, p60_1, p60_2, p60_3, p60_4, alloc_t T60, load_pA T60 a60, s60, loadn_def, buildSl T36 d36 T60 (n := 1) (by rw [s60]; decide), repl, K97 h97, List.length_cons, List.length_nil, List.drop_zero, List.take_succ_cons, List.take_zero, List.take_nil, Nat.zero_add, Nat.add_zero, ← hhA, nA, k1, c0, cw, k111, eq_true q31, n1, c4, y1, y3, gtD, q1, stF, callV_fn (g := 97) (by decide), callV_fn (g := 111) (by decide)]
    · rw [call_F (by decide) h100 F100 rfl R100]; simp only [Try.f100, Option.getD]
      simp +contextual (maxSteps := 3000000) only [↓code_skip, ↓code_seq, ↓code_region, ↓code_cond, ↓code_ret, aCond_bool, ↓ops_nil, ↓ops_cons, run_none, run_someT, run_someF, ↓run0_v, ↓run0_h, ↓run0_r, ↓seqK_normal, ↓seqK_ret, ↓retK_ret, put_same, put_ne, put_none, env0_at, ev_tmp, ev_const, ev_func, oc_int, oc_bool, o_move, o_assign, o_pick, o_bin, o_call, o_alloc, o_box, o_build, o_buildSlice, o_load, o_store, o_nilCheck, o_un, o_fieldAddr, o_extract, o_append, g_none, g_some, pick_bool, bin_add, bin_neq, bin_lss, bin_gtr, bin_geq, un_not, extract_tup, nil_ptr, resultsOf, oneOrAll, Option.bind_some, Option.map_some, Option.getD_some, decide_eq_true_eq, ↓reduceIte, Nat.reduceEqDiff, not_false_eq_true, Nat.reduceAdd, Nat.reduceMul, reduceCtorEq, List.getElem?_cons_zero, List.getElem?_cons_succ, List.getElem?_toArray, Bool.false_eq_true, List.map_cons, List.map_nil, List.append_nil, List.nil_append, List.cons_append, and_true, Nat.reduceLeDiff, Nat.le_refl, gt_iff_lt, ge_iff_le, Bool.not_eq_eq_eq_not, Bool.not_true, ne_eq, decide_eq_false_iff_not, box_agg, fa_ptr T62 p62_0 (by decide), load_p1 T3 a3, loadc_def, fa_ptr T62 p62_1 (by decide), fa_ptr T62 p62_2 (by decide), fa_ptr T52 p52_1 (by decide), load_p1 T36 a36, run0_h, build_struct T60 d60, z60, parts_eq, fillA, AV.cells, AH.splice, List.take_succ_cons, List.take_zero, List.take_nil, List.drop_succ_cons, List.drop_zero, List.drop_nil, List.length_cons, List.length_nil, p60_0, p60_1, p60_2, p60_3, p60_4, alloc_t T60, load_pA T60 a60, s60, loadn_def, buildSl T36 d36 T60 (n := 1) (by rw [s60]; decide), repl, K97 h97, List.length_cons, List.length_nil, List.drop_zero, List.take_succ_cons, List.take_zero, List.take_nil, Nat.zero_add, Nat.add_zero, ← hhA, nA, k1, c0, cw, k111, q31, q32, q33, n1, c4, y1, y3, gtD, q1, stF, callV_fn (g := 97) (by decide), callV_fn (g := 111) (by decide)]
  rw [hf, Nat.zero_add] at k111
  have n1 : ¬ ((i : Nat) : Int) < 0 := by omega
  have n2 : (0 : Int) ≤ (i : Nat) := by omega
  have hin : (((0 + i : Nat) : Int)).toNat = i := by omega
  have i3 := (List.getElem?_eq_some_iff.1 he).1
  have hy : hearD n f es x = if 15 ≤ x.di then (if e.po = n ∧ e.nx = f then es.set i { e with st := max e.st 2 } else es) else if 0 < e.di ∧ givesX n f x e = true then es.set i (newX n f x) else es := by
    unfold hearD; rw [if_neg hnb, hf]; simp only; rw [if_neg (by simp), if_neg (by omega), hin, he]
  obtain ⟨b, cs, bk, w1, w2, w3, w4⟩ := loadE hTA.e he
  have w5 := take6 w4
  by_cases c4 : 15 ≤ x.di
  · rw [if_pos c4] at hy
    by_cases p1 : e.po = n
    · by_cases p2 : e.nx = f
      · rw [if_pos ⟨p1, p2⟩] at hy
        rw [hy]
        obtain ⟨b', h2, v1, v2, v3, v4, v5, _⟩ := storeC E6.av 6 E6.len T36 d36 T60 s60 T3 s3 (y := { e with st := max e.st 2 }) (w := .int .i64 (max e.st 2)) (j := 5) hTA.e he (by decide) rfl rfl rfl
        have hbb : b' = b := by rw [w1] at v1; cases v1; rfl
        subst hbb
        obtain ⟨t1, t2⟩ := hTA.rowE (by rw [List.length_set]; exact v3) v4 v5
        have hmx : aMax (.int .i64 e.st) (.int .i64 2) = some (.int .i64 (max e.st 2)) := by
          simp only [aMax]; congr 2; split <;> omega
        refine ⟨ev, h2, ?_, t1, (Stf.grow _ gA).trans t2⟩
        rcases hdi with q31 | ⟨q31, q32, q33⟩
        · rw [call_F (by decide) h100 F100 rfl R100]; simp only [Try.f100, Option.getD]
          simp +contextual (maxSteps := 3000000) only [↓code_skip, ↓code_seq, ↓code_region, ↓code_cond, ↓code_ret, aCond_bool, ↓ops_nil, ↓ops_cons, run_none, run_someT, run_someF, run_tup, ↓run0_v, ↓run0_h, ↓run0_r, ↓seqK_normal, ↓seqK_ret, ↓retK_ret, put_same, put_ne, env0_at, ev_tmp, ev_const, ev_func, oc_int, oc_bool, o_move, o_assign, o_pick, o_bin, o_call, o_box, o_load, o_store, o_nilCheck, o_un, o_fieldAddr, o_indexAddr, o_extract, o_max, g_none, g_some, pick_bool, bin_eql, bin_neq, bin_geq, un_not, extract_tup, nil_ptr, resultsOf, oneOrAll, Option.bind_some, Option.map_some, Option.getD_some, decide_eq_true_eq, ↓reduceIte, Nat.reduceEqDiff, not_false_eq_true, not_true_eq_false, reduceCtorEq, List.getElem?_cons_zero, List.getElem?_cons_succ, List.getElem?_toArray, Bool.false_eq_true, List.map_cons, List.map_nil, List.append_nil, List.nil_append, ge_iff_le, Bool.not_eq_eq_eq_not, Bool.not_true, ne_eq, decide_eq_false_iff_not, box_agg, fa_ptr T62 p62_0 (by decide), load_p1 T3 a3, loadc_def, fa_ptr T62 p62_1 (by decide), fa_ptr T62 p62_2 (by decide), fa_ptr T52 p52_1 (by decide), load_p1 T36 a36, fa_ptr T60 p60_3 (by decide), fa_ptr T60 p60_4 (by decide), fa_ptr T60 p60_5 (by decide), run0_h, K97 h97, Nat.zero_add, Nat.add_zero, ← hhA, k1, c0, gt, k111, eq_true q31, n2, c4, w1, w2, w5.2.2.2.1, w5.2.2.2.2.1, w5.2.2.2.2.2, eq_true p1, eq_true p2, hmx, v2, callV_fn (g := 97) (by decide), callV_fn (g := 111) (by decide)]
        · rw [call_F (by decide) h100 F100 rfl R100]; simp only [Try.f100, Option.getD]
          simp +contextual (maxSteps := 3000000) only [↓code_skip, ↓code_seq, ↓code_region, ↓code_cond, ↓code_ret, aCond_bool, ↓ops_nil, ↓ops_cons, run_none, run_someT, run_someF, ↓run0_v, ↓run0_h, ↓run0_r, ↓seqK_normal, ↓seqK_ret, ↓retK_ret, put_same, put_ne, env0_at, ev_tmp, ev_const, ev_func, oc_int, oc_bool, o_move, o_assign, o_pick, o_bin, o_call, o_box, o_load, o_store, o_nilCheck, o_un, o_fieldAddr, o_indexAddr, o_extract, o_max, g_none, g_some, pick_bool, bin_eql, bin_neq, bin_lss, bin_gtr, bin_geq, un_not, extract_tup, nil_ptr, resultsOf, oneOrAll, Option.bind_some, Option.map_some, Option.getD_some, decide_eq_true_eq, ↓reduceIte, Nat.reduceEqDiff, not_false_eq_true, reduceCtorEq, List.getElem?_cons_zero, List.getElem?_cons_succ, List.getElem?_toArray, Bool.false_eq_true, List.map_cons, List.map_nil, List.append_nil, List.nil_append, gt_iff_lt, ge_iff_le, Bool.not_eq_eq_eq_not, Bool.not_true, ne_eq, decide_eq_false_iff_not, box_agg, fa_ptr T62 p62_0 (by decide), load_p1 T3 a3, loadc_def, fa_ptr T62 p62_1 (by decide), fa_ptr T62 p62_2 (by decide), fa_ptr T52 p52_1 (by decide), load_p1 T36 a36, fa_ptr T60 p60_3 (by decide), fa_ptr T60 p60_4 (by decide), fa_ptr T60 p60_5 (by decide), run0_h, K97 h97, Nat.zero_add, Nat.add_zero, ← hhA, k1, c0, gt, k111, q31, q32, q33, n2, c4, w1, w2, w5.2.2.2.1, w5.2.2.2.2.1, w5.2.2.2.2.2, eq_true p1, eq_true p2, hmx, v2, callV_fn (g := 97) (by decide), callV_fn (g := 111) (by decide)]
      · rw [if_neg (by rintro ⟨g1, g2⟩; contradiction)] at hy
        refine ⟨ev, hA, ?_, same hA gA hy⟩
        rcases hdi with q31 | ⟨q31, q32, q33⟩
        · rw [call_F (by decide) h100 F100 rfl R100]; simp only [Try.f100, Option.getD]
          simp +contextual (maxSteps := 3000000) only [↓code_skip, ↓code_seq, ↓code_region, ↓code_cond, ↓code_ret, aCond_bool, ↓ops_nil, ↓ops_cons, run_none, run_someT, run_someF, run_tup, ↓run0_v, ↓run0_r, ↓seqK_normal, ↓seqK_ret, ↓retK_ret, put_same, put_ne, env0_at, ev_tmp, ev_const, ev_func, oc_int, oc_bool, o_move, o_assign, o_pick, o_bin, o_call, o_box, o_load, o_nilCheck, o_un, o_fieldAddr, o_indexAddr, o_extract, g_none, g_some, pick_bool, bin_eql, bin_neq, bin_geq, un_not, extract_tup, nil_ptr, resultsOf, oneOrAll, Option.bind_some, Option.map_some, Option.getD_some, decide_eq_true_eq, ↓reduceIte, Nat.reduceEqDiff, not_false_eq_true, not_true_eq_false, reduceCtorEq, List.getElem?_cons_zero, List.getElem?_cons_succ, List.getElem?_toArray, Bool.false_eq_true, List.map_cons, List.map_nil, List.append_nil, List.nil_append, ge_iff_le, Bool.not_eq_eq_eq_not, Bool.not_true, ne_eq, decide_eq_false_iff_not, box_agg, fa_ptr T62 p62_0 (by decide), load_p1 T3 a3, loadc_def, fa_ptr T62 p62_1 (by decide), fa_ptr T62 p62_2 (by decide), fa_ptr T52 p52_1 (by decide), load_p1 T36 a36, fa_ptr T60 p60_3 (by decide), fa_ptr T60 p60_4 (by decide), K97 h97, Nat.zero_add, Nat.add_zero, ← hhA, k1, c0, gt, k111, eq_true q31, n2, c4, w1, w2, w5.2.2.2.1, w5.2.2.2.2.1, eq_true p1, p2, callV_fn (g := 97) (by decide), callV_fn (g := 111) (by decide)]
        · rw [call_F (by decide) h100 F100 rfl R100]; simp only [Try.f100, Option.getD]
          simp +contextual (maxSteps := 3000000) only [↓code_skip, ↓code_seq, ↓code_region, ↓code_cond, ↓code_ret, aCond_bool, ↓ops_nil, ↓ops_cons, run_none, run_someT, run_someF, ↓run0_v, ↓run0_r, ↓seqK_normal, ↓seqK_ret, ↓retK_ret, put_same, put_ne, env0_at, ev_tmp, ev_const, ev_func, oc_int, oc_bool, o_move, o_assign, o_pick, o_bin, o_call, o_box, o_load, o_nilCheck, o_un, o_fieldAddr, o_indexAddr, o_extract, g_none, g_some, pick_bool, bin_eql, bin_neq, bin_lss, bin_gtr, bin_geq, un_not, extract_tup, nil_ptr, resultsOf, oneOrAll, Option.bind_some, Option.map_some, Option.getD_some, decide_eq_true_eq, ↓reduceIte, Nat.reduceEqDiff, not_false_eq_true, reduceCtorEq, List.getElem?_cons_zero, List.getElem?_cons_succ, List.getElem?_toArray, Bool.false_eq_true, List.map_cons, List.map_nil, List.append_nil, List.nil_append, gt_iff_lt, ge_iff_le, Bool.not_eq_eq_eq_not, Bool.not_true, ne_eq, decide_eq_false_iff_not, box_agg, fa_ptr T62 p62_0 (by decide), load_p1 T3 a3, loadc_def, fa_ptr T62 p62_1 (by decide), fa_ptr T62 p62_2 (by decide), fa_ptr T52 p52_1 (by decide), load_p1 T36 a36, fa_ptr T60 p60_3 (by decide), fa_ptr T60 p60_4 (by decide), K97 h97, Nat.zero_add, Nat.add_zero, ← hhA, k1, c0, gt, k111, q31, q32, q33, n2, c4, w1, w2, w5.2.2.2.1, w5.2.2.2.2.1, eq_true p1, p2, callV_fn (g := 97) (by decide), callV_fn (g := 111) (by decide)]
    · rw [if_neg (by rintro ⟨g1, g2⟩; contradiction)] at hy
      refine ⟨ev, hA, ?_, same hA gA hy⟩
      rcases hdi with q31 | ⟨q31, q32, q33⟩
      · rw [call_F (by decide) h100 F100 rfl R100]; simp only [Try.f100, Option.getD]
        simp +contextual (maxSteps := 3000000) only [↓code_skip, ↓code_seq, ↓code_region, ↓code_cond, ↓code_ret, aCond_bool, ↓ops_nil, ↓ops_cons, run_none, run_someT, run_someF, run_tup, ↓run0_v, ↓run0_r, ↓seqK_normal, ↓seqK_ret, ↓retK_ret, put_same, put_ne, env0_at, ev_tmp, ev_const, ev_func, oc_int, oc_bool, o_move, o_assign, o_pick, o_bin, o_call, o_box, o_load, o_nilCheck, o_un, o_fieldAddr, o_indexAddr, o_extract, g_none, g_some, pick_bool, bin_eql, bin_neq, bin_geq, un_not, extract_tup, nil_ptr, resultsOf, oneOrAll, Option.bind_some, Option.map_some, Option.getD_some, decide_eq_true_eq, ↓reduceIte, Nat.reduceEqDiff, not_false_eq_true, not_true_eq_false, reduceCtorEq, List.getElem?_cons_zero, List.getElem?_cons_succ, List.getElem?_toArray, Bool.false_eq_true, List.map_cons, List.map_nil, List.append_nil, List.nil_append, ge_iff_le, Bool.not_eq_eq_eq_not, Bool.not_true, ne_eq, decide_eq_false_iff_not, box_agg, fa_ptr T62 p62_0 (by decide), load_p1 T3 a3, loadc_def, fa_ptr T62 p62_1 (by decide), fa_ptr T62 p62_2 (by decide), fa_ptr T52 p52_1 (by decide), load_p1 T36 a36, fa_ptr T60 p60_3 (by decide), K97 h97, Nat.zero_add, Nat.add_zero, ← hhA, k1, c0, gt, k111, eq_true q31, n2, c4, w1, w2, w5.2.2.2.1, p1, callV_fn (g := 97) (by decide), callV_fn (g := 111) (by decide)]
      · rw [call_F (by decide) h100 F100 rfl R100]; simp only [Try.f100, Option.getD]
        simp +contextual (maxSteps := 3000000) only [↓code_skip, ↓code_seq, ↓code_region, ↓code_cond, ↓code_ret, aCond_bool, ↓ops_nil, ↓ops_cons, run_none, run_someT, run_someF, ↓run0_v, ↓run0_r, ↓seqK_normal, ↓seqK_ret, ↓retK_ret, put_same, put_ne, env0_at, ev_tmp, ev_const, ev_func, oc_int, oc_bool, o_move, o_assign, o_pick, o_bin, o_call, o_box, o_load, o_nilCheck, o_un, o_fieldAddr, o_indexAddr, o_extract, g_none, g_some, pick_bool, bin_eql, bin_neq, bin_lss, bin_gtr, bin_geq, un_not, extract_tup, nil_ptr, resultsOf, oneOrAll, Option.bind_some, Option.map_some, Option.getD_some, decide_eq_true_eq, ↓reduceIte, Nat.reduceEqDiff, not_false_eq_true, reduceCtorEq, List.getElem?_cons_zero, List.getElem?_cons_succ, List.getElem?_toArray, Bool.false_eq_true, List.map_cons, List.map_nil, List.append_nil, List.nil_append, gt_iff_lt, ge_iff_le, Bool.not_eq_eq_eq_not, Bool.not_true, ne_eq, decide_eq_false_iff_not, box_agg, fa_ptr T62 p62_0 (by decide), load_p1 T3 a3, loadc_def, fa_ptr T62 p62_1 (by decide), fa_ptr T62 p62_2 (by decide), fa_ptr T52 p52_1 (by decide), load_p1 T36 a36, fa_ptr T60 p60_3 (by decide), K97 h97, Nat.zero_add, Nat.add_zero, ← hhA, k1, c0, gt, k111, q31, q32, q33, n2, c4, w1, w2, w5.2.2.2.1, p1, callV_fn (g := 97) (by decide), callV_fn (g := 111) (by decide)]
  rw [if_neg c4] at hy
  have q31 : ¬ x.di = 31 := by omega
  have q32 : ¬ x.di < 0 := by omega
  have q33 : ¬ 15 < x.di := by omega
  obtain ⟨hD, y1, y2, y3, y4⟩ := store_e hA (newX n f x)
  simp only [newX] at y1 y3
  rw [nA] at y1 y3
  have nD : hD.next = h.next + 2 := by omega
  have gAD := gA.trans y4
  have hTD := hT.grow gAD
  have gtD := hTD.g
  have k1D : hD.get h.next = some (.cells [.int .i64 x.lo, .int .i64 x.hi, .int .i64 x.di] .own) := by rw [y4.2 _ (by omega)]; exact k1
  obtain ⟨b1, cs1, bk1, w1', w2', w3', w4'⟩ := loadE hTD.e he
  obtain ⟨hE, z1, z2, z3, z4⟩ := store_e hD e
  rw [nD] at z1 z3
  have gAE := gAD.trans z4
  have hTE := hT.grow gAE
  have gtE := hTE.g
  have y3E : hE.get (h.next + 1) = some (.cells [.int .i64 x.lo, .int .i64 x.hi, .int .i64 (x.di + 1), .int .i64 n, .int .i64 f, .int .i64 0] .own) := by rw [z4.2 _ (by omega)]; exact y3
  obtain ⟨b', hG, v1, v2, v3, v4, v5, _, _⟩ := storeR E6.av 6 E6.len T36 d36 T60 s60 (newX n f x) hTE.e he (E6.one _)
  have hbb : b' = b1 := by rw [w1'] at v1; cases v1; rfl
  subst hbb
  replace v2 : aStore T 60 (.ptr b' (i * 6)) (.agg [.int .i64 x.lo, .int .i64 x.hi, .int .i64 (x.di + 1), .int .i64 n, .int .i64 f, .int .i64 0]) hE = some hG := v2
  obtain ⟨t1, t2⟩ := hTE.rowE (by rw [List.length_set]; exact v3) v4 v5
  have yes : 0 < e.di ∧ givesX n f x e = true → Tb hG t pv ev ps (hearD n f es x) ∧ Stf h hG (tOff t pv ev) (tOff t pv ev) := fun hg => by rw [hy, if_pos hg]; exact ⟨t1, (Stf.grow _ gAE).trans t2⟩
  have no : ¬ (0 < e.di ∧ givesX n f x e = true) → Tb hE t pv ev ps (hearD n f es x) ∧ Stf h hE (tOff t pv ev) (tOff t pv ev) := fun hg => by rw [hy, if_neg hg]; exact ⟨hT.grow gAE, Stf.grow _ gAE⟩
  by_cases p0 : 0 < e.di
  rotate_left
  · refine ⟨ev, hE, ?_, no (by unfold givesX; simp [p0] <;> omega)⟩
    rw [call_F (by decide) h100 F100 rfl R100]; simp only [Try.f100, Option.getD]
    simp +contextual (maxSteps := 3000000) only [↓code_skip, ↓code_seq, ↓code_region, ↓code_cond, aCond_bool, ↓ops_nil, ↓ops_cons, run_none, run_someT, run_someF, run_tup, ↓run0_v, ↓run0_h, ↓run0_r, ↓seqK_normal, ↓retK_normal, put_same, put_ne, put_none, env0_at, ev_tmp, ev_const, ev_func, oc_int, oc_bool, o_move, o_assign, o_pick, o_bin, o_call, o_alloc, o_box, o_build, o_load, o_store, o_nilCheck, o_un, o_fieldAddr, o_indexAddr, o_extract, g_none, g_some, pick_bool, bin_add, bin_neq, bin_lss, bin_gtr, bin_geq, un_not, extract_tup, nil_ptr, resultsOf, oneOrAll, Option.bind_some, Option.map_some, Option.getD_some, decide_eq_true_eq, ↓reduceIte, Nat.reduceEqDiff, not_false_eq_true, Nat.reduceAdd, reduceCtorEq, List.getElem?_cons_zero, List.getElem?_cons_succ, List.getElem?_toArray, Bool.false_eq_true, List.map_cons, List.map_nil, List.append_nil, List.nil_append, List.cons_append, and_true, Nat.reduceLeDiff, gt_iff_lt, ge_iff_le, Bool.not_eq_eq_eq_not, Bool.not_true, ne_eq, decide_eq_false_iff_not, box_agg, fa_ptr T62 p62_0 (by decide), load_p1 T3 a3, loadc_def, fa_ptr T62 p62_1 (by decide), fa_ptr T62 p62_2 (by decide), fa_ptr T52 p52_1 (by decide), load_p1 T36 a36, fa_ptr T60 p60_3 (by decide), fa_ptr T60 p60_4 (by decide), fa_ptr T60 p60_5 (by decide), run0_h, build_struct T60 d60, z60, parts_eq, fillA, AV.cells, AH.splice, List.take_succ_cons, List.take_zero, List.drop_succ_cons, List.drop_zero, List.length_cons, List.length_nil, p60_0, p60_1, p60_2, p60_3, p60_4, alloc_t T60, load_pA T60 a60, s60, loadn_def, fa_ptr T60 p60_2 (by decide), K97 h97, List.length_cons, List.length_nil, List.drop_zero, List.take_succ_cons, List.take_zero, Nat.zero_add, Nat.add_zero, ← hhA, nA, k1, c0, cw, k111, nD, q31, q32, q33, n1, y1, gtD, c4, w1', w2', w3', w4', z1, z3, p0, callV_fn (g := 97) (by decide), callV_fn (g := 111) (by decide)]
  by_cases us1 : 2 ≤ e.st
  · refine ⟨ev, hG, ?_, yes (by unfold givesX; simp [p0, us1] <;> omega)⟩
    rw [call_F (by decide) h100 F100 rfl R100]; simp only [Try.f100, Option.getD]
    simp +contextual (maxSteps := 3000000) only [↓code_skip, ↓code_seq, ↓code_region, ↓code_cond, aCond_bool, ↓ops_nil, ↓ops_cons, run_none, run_someT, run_someF, run_tup, ↓run0_v, ↓run0_h, ↓run0_r, ↓seqK_normal, ↓retK_normal, put_same, put_ne, put_none, env0_at, ev_tmp, ev_const, ev_func, oc_int, oc_bool, o_move, o_assign, o_pick, o_bin, o_call, o_alloc, o_box, o_build, o_load, o_store, o_nilCheck, o_un, o_fieldAddr, o_indexAddr, o_extract, g_none, g_some, pick_bool, bin_add, bin_neq, bin_lss, bin_gtr, bin_geq, un_not, extract_tup, nil_ptr, resultsOf, oneOrAll, Option.bind_some, Option.map_some, Option.getD_some, decide_eq_true_eq, ↓reduceIte, Nat.reduceEqDiff, not_false_eq_true, Nat.reduceAdd, reduceCtorEq, List.getElem?_cons_zero, List.getElem?_cons_succ, List.getElem?_toArray, Bool.false_eq_true, List.map_cons, List.map_nil, List.append_nil, List.nil_append, List.cons_append, and_true, Nat.reduceLeDiff, Nat.le_refl, gt_iff_lt, ge_iff_le, Bool.not_eq_eq_eq_not, Bool.not_true, ne_eq, decide_eq_false_iff_not, box_agg, fa_ptr T62 p62_0 (by decide), load_p1 T3 a3, loadc_def, fa_ptr T62 p62_1 (by decide), fa_ptr T62 p62_2 (by decide), fa_ptr T52 p52_1 (by decide), load_p1 T36 a36, fa_ptr T60 p60_3 (by decide), fa_ptr T60 p60_4 (by decide), fa_ptr T60 p60_5 (by decide), run0_h, build_struct T60 d60, z60, parts_eq, fillA, AV.cells, AH.splice, List.take_succ_cons, List.take_zero, List.take_nil, List.drop_succ_cons, List.drop_zero, List.length_cons, List.length_nil, p60_0, p60_1, p60_2, p60_3, p60_4, alloc_t T60, load_pA T60 a60, s60, loadn_def, fa_ptr T60 p60_2 (by decide), K97 h97, List.length_cons, List.length_nil, List.drop_zero, List.take_succ_cons, List.take_zero, List.take_nil, Nat.zero_add, Nat.add_zero, ← hhA, nA, k1, c0, cw, k111, nD, q31, q32, q33, n1, y1, y3E, gtD, gtE, c4, w1', w2', w3', w4', z1, z3, p0, us1, callV_fn (g := 97) (by decide), callV_fn (g := 111) (by decide), v2]
  · by_cases us2 : e.po = n
    · by_cases us3 : e.nx = f
      · refine ⟨ev, hG, ?_, yes (by unfold givesX; simp [p0, us1, us2, us3] <;> omega)⟩
        rw [call_F (by decide) h100 F100 rfl R100]; simp only [Try.f100, Option.getD]
        simp +contextual (maxSteps := 3000000) only [↓code_skip, ↓code_seq, ↓code_region, ↓code_cond, aCond_bool, ↓ops_nil, ↓ops_cons, run_none, run_someT, run_someF, run_tup, ↓run0_v, ↓run0_h, ↓run0_r, ↓seqK_normal, ↓retK_normal, put_same, put_ne, put_none, env0_at, ev_tmp, ev_const, ev_func, oc_int, oc_bool, o_move, o_assign, o_pick, o_bin, o_call, o_alloc, o_box, o_build, o_load, o_store, o_nilCheck, o_un, o_fieldAddr, o_indexAddr, o_extract, g_none, g_some, pick_bool, bin_add, bin_eql, bin_neq, bin_lss, bin_gtr, bin_geq, un_not, extract_tup, nil_ptr, resultsOf, oneOrAll, Option.bind_some, Option.map_some, Option.getD_some, decide_eq_true_eq, ↓reduceIte, Nat.reduceEqDiff, not_false_eq_true, Nat.reduceAdd, reduceCtorEq, List.getElem?_cons_zero, List.getElem?_cons_succ, List.getElem?_toArray, Bool.false_eq_true, List.map_cons, List.map_nil, List.append_nil, List.nil_append, List.cons_append, and_true, Nat.reduceLeDiff, Nat.le_refl, gt_iff_lt, ge_iff_le, Bool.not_eq_eq_eq_not, Bool.not_true, ne_eq, decide_eq_false_iff_not, box_agg, fa_ptr T62 p62_0 (by decide), load_p1 T3 a3, loadc_def, fa_ptr T62 p62_1 (by decide), fa_ptr T62 p62_2 (by decide), fa_ptr T52 p52_1 (by decide), load_p1 T36 a36, fa_ptr T60 p60_3 (by decide), fa_ptr T60 p60_4 (by decide), fa_ptr T60 p60_5 (by decide), run0_h, build_struct T60 d60, z60, parts_eq, fillA, AV.cells, AH.splice, List.take_succ_cons, List.take_zero, List.take_nil, List.drop_succ_cons, List.drop_zero, List.length_cons, List.length_nil, p60_0, p60_1, p60_2, p60_3, p60_4, alloc_t T60, load_pA T60 a60, s60, loadn_def, fa_ptr T60 p60_2 (by decide), K97 h97, List.length_cons, List.length_nil, List.drop_zero, List.take_succ_cons, List.take_zero, List.take_nil, Nat.zero_add, Nat.add_zero, ← hhA, nA, k1, c0, cw, k111, nD, q31, q32, q33, n1, y1, y3E, gtD, gtE, c4, w1', w2', w3', w4', z1, z3, p0, us1, eq_true us2, eq_true us3, callV_fn (g := 97) (by decide), callV_fn (g := 111) (by decide), v2]
      · by_cases r1 : x.di + 1 < e.di
        · refine ⟨ev, hG, ?_, yes (by unfold givesX; simp [p0, us1, us2, us3, r1] <;> omega)⟩
          rw [call_F (by decide) h100 F100 rfl R100]; simp only [Try.f100, Option.getD]
          simp +contextual (maxSteps := 3000000) only [↓code_skip, ↓code_seq, ↓code_region, ↓code_cond, aCond_bool, ↓ops_nil, ↓ops_cons, run_none, run_someT, run_someF, run_tup, ↓run0_v, ↓run0_h, ↓run0_r, ↓seqK_normal, ↓retK_normal, put_same, put_ne, put_none, env0_at, ev_tmp, ev_const, ev_func, oc_int, oc_bool, o_move, o_assign, o_pick, o_bin, o_call, o_alloc, o_box, o_build, o_load, o_store, o_nilCheck, o_un, o_fieldAddr, o_indexAddr, o_extract, g_none, g_some, pick_bool, bin_add, bin_eql, bin_neq, bin_lss, bin_gtr, bin_geq, un_not, extract_tup, nil_ptr, resultsOf, oneOrAll, Option.bind_some, Option.map_some, Option.getD_some, decide_eq_true_eq, ↓reduceIte, Nat.reduceEqDiff, not_false_eq_true, Nat.reduceAdd, reduceCtorEq, List.getElem?_cons_zero, List.getElem?_cons_succ, List.getElem?_toArray, Bool.false_eq_true, List.map_cons, List.map_nil, List.append_nil, List.nil_append, List.cons_append, and_true, Nat.reduceLeDiff, Nat.le_refl, gt_iff_lt, ge_iff_le, Bool.not_eq_eq_eq_not, Bool.not_true, ne_eq, decide_eq_false_iff_not, box_agg, fa_ptr T62 p62_0 (by decide), load_p1 T3 a3, loadc_def, fa_ptr T62 p62_1 (by decide), fa_ptr T62 p62_2 (by decide), fa_ptr T52 p52_1 (by decide), load_p1 T36 a36, fa_ptr T60 p60_3 (by decide), fa_ptr T60 p60_4 (by decide), fa_ptr T60 p60_5 (by decide), run0_h, build_struct T60 d60, z60, parts_eq, fillA, AV.cells, AH.splice, List.take_succ_cons, List.take_zero, List.take_nil, List.drop_succ_cons, List.drop_zero, List.length_cons, List.length_nil, p60_0, p60_1, p60_2, p60_3, p60_4, alloc_t T60, load_pA T60 a60, s60, loadn_def, fa_ptr T60 p60_2 (by decide), K97 h97, List.length_cons, List.length_nil, List.drop_zero, List.take_succ_cons, List.take_zero, List.take_nil, Nat.zero_add, Nat.add_zero, ← hhA, nA, k1, c0, cw, k111, nD, q31, q32, q33, n1, y1, y3E, gtD, gtE, c4, w1', w2', w3', w4', z1, z3, p0, us1, eq_true us2, us3, r1, callV_fn (g := 97) (by decide), callV_fn (g := 111) (by decide), v2]
        · by_cases r2 : e.di = x.di + 1
          · by_cases r3 : e.st = 1
            · refine ⟨ev, hG, ?_, yes (by unfold givesX; simp [us2, us3, r2, r3] <;> omega)⟩
              rw [call_F (by decide) h100 F100 rfl R100]; simp only [Try.f100, Option.getD]
              simp +contextual (maxSteps := 3000000) only [↓code_skip, ↓code_seq, ↓code_region, ↓code_cond, aCond_bool, ↓ops_nil, ↓ops_cons, run_none, run_someT, run_someF, ↓run0_v, ↓run0_h, ↓run0_r, ↓seqK_normal, ↓retK_normal, put_same, put_ne, put_none, env0_at, ev_tmp, ev_const, ev_func, oc_int, oc_bool, o_move, o_assign, o_pick, o_bin, o_call, o_alloc, o_box, o_build, o_load, o_store, o_nilCheck, o_un, o_fieldAddr, o_indexAddr, o_extract, g_none, g_some, pick_bool, bin_add, bin_eql, bin_neq, bin_lss, bin_gtr, bin_geq, un_not, extract_tup, nil_ptr, resultsOf, oneOrAll, Option.bind_some, Option.map_some, Option.getD_some, decide_eq_true_eq, ↓reduceIte, Nat.reduceEqDiff, not_false_eq_true, Nat.reduceAdd, reduceCtorEq, List.getElem?_cons_zero, List.getElem?_cons_succ, List.getElem?_toArray, Bool.false_eq_true, List.map_cons, List.map_nil, List.append_nil, List.nil_append, List.cons_append, and_true, Nat.reduceLeDiff, Nat.le_refl, gt_iff_lt, ge_iff_le, Bool.not_eq_eq_eq_not, Bool.not_true, ne_eq, decide_eq_false_iff_not, box_agg, fa_ptr T62 p62_0 (by decide), load_p1 T3 a3, loadc_def, fa_ptr T62 p62_1 (by decide), fa_ptr T62 p62_2 (by decide), fa_ptr T52 p52_1 (by decide), load_p1 T36 a36, fa_ptr T60 p60_3 (by decide), fa_ptr T60 p60_4 (by decide), fa_ptr T60 p60_5 (by decide), run0_h, build_struct T60 d60, z60, parts_eq, fillA, AV.cells, AH.splice, List.take_succ_cons, List.take_zero, List.take_nil, List.drop_succ_cons, List.drop_zero, List.length_cons, List.length_nil, p60_0, p60_1, p60_2, p60_3, p60_4, alloc_t T60, load_pA T60 a60, s60, loadn_def, fa_ptr T60 p60_2 (by decide), K97 h97, List.length_cons, List.length_nil, List.drop_zero, List.take_succ_cons, List.take_zero, List.take_nil, Nat.zero_add, Nat.add_zero, ← hhA, nA, k1, c0, cw, k111, nD, q31, q32, q33, n1, y1, y3E, gtD, gtE, c4, w1', w2', w3', w4', z1, z3, p0, us1, eq_true us2, us3, r1, eq_true r2, eq_true r3, callV_fn (g := 97) (by decide), callV_fn (g := 111) (by decide), v2]
            · refine ⟨ev, hE, ?_, no (by unfold givesX; simp [us1, us2, us3, r2, r3] <;> omega)⟩
              rw [call_F (by decide) h100 F100 rfl R100]; simp only [Try.f100, Option.getD]
              simp +contextual (maxSteps := 3000000) only [↓code_skip, ↓code_seq, ↓code_region, ↓code_cond, aCond_bool, ↓ops_nil, ↓ops_cons, run_none, run_someT, run_someF, ↓run0_v, ↓run0_h, ↓run0_r, ↓seqK_normal, ↓retK_normal, put_same, put_ne, put_none, env0_at, ev_tmp, ev_const, ev_func, oc_int, oc_bool, o_move, o_assign, o_pick, o_bin, o_call, o_alloc, o_box, o_build, o_load, o_store, o_nilCheck, o_un, o_fieldAddr, o_indexAddr, o_extract, g_none, g_some, pick_bool, bin_add, bin_eql, bin_neq, bin_lss, bin_gtr, bin_geq, un_not, extract_tup, nil_ptr, resultsOf, oneOrAll, Option.bind_some, Option.map_some, Option.getD_some, decide_eq_true_eq, ↓reduceIte, Nat.reduceEqDiff, not_false_eq_true, Nat.reduceAdd, reduceCtorEq, List.getElem?_cons_zero, List.getElem?_cons_succ, List.getElem?_toArray, Bool.false_eq_true, List.map_cons, List.map_nil, List.append_nil, List.nil_append, List.cons_append, and_true, Nat.reduceLeDiff, gt_iff_lt, ge_iff_le, Bool.not_eq_eq_eq_not, Bool.not_true, ne_eq, decide_eq_false_iff_not, box_agg, fa_ptr T62 p62_0 (by decide), load_p1 T3 a3, loadc_def, fa_ptr T62 p62_1 (by decide), fa_ptr T62 p62_2 (by decide), fa_ptr T52 p52_1 (by decide), load_p1 T36 a36, fa_ptr T60 p60_3 (by decide), fa_ptr T60 p60_4 (by decide), fa_ptr T60 p60_5 (by decide), run0_h, build_struct T60 d60, z60, parts_eq, fillA, AV.cells, AH.splice, List.take_succ_cons, List.take_zero, List.drop_succ_cons, List.drop_zero, List.length_cons, List.length_nil, p60_0, p60_1, p60_2, p60_3, p60_4, alloc_t T60, load_pA T60 a60, s60, loadn_def, fa_ptr T60 p60_2 (by decide), K97 h97, List.length_cons, List.length_nil, List.drop_zero, List.take_succ_cons, List.take_zero, Nat.zero_add, Nat.add_zero, ← hhA, nA, k1, c0, cw, k111, nD, q31, q32, q33, n1, y1, y3E, gtD, c4, w1', w2', w3', w4', z1, z3, p0, us1, eq_true us2, us3, r1, eq_true r2, r3, callV_fn (g := 97) (by decide), callV_fn (g := 111) (by decide)]
          · refine ⟨ev, hE, ?_, no (by unfold givesX; simp [p0, us1, us2, us3, r1, r2] <;> omega)⟩
            rw [call_F (by decide) h100 F100 rfl R100]; simp only [Try.f100, Option.getD]
            simp +contextual (maxSteps := 3000000) only [↓code_skip, ↓code_seq, ↓code_region, ↓code_cond, aCond_bool, ↓ops_nil, ↓ops_cons, run_none, run_someT, run_someF, ↓run0_v, ↓run0_h, ↓run0_r, ↓seqK_normal, ↓retK_normal, put_same, put_ne, put_none, env0_at, ev_tmp, ev_const, ev_func, oc_int, oc_bool, o_move, o_assign, o_pick, o_bin, o_call, o_alloc, o_box, o_build, o_load, o_store, o_nilCheck, o_un, o_fieldAddr, o_indexAddr, o_extract, g_none, g_some, pick_bool, bin_add, bin_eql, bin_neq, bin_lss, bin_gtr, bin_geq, un_not, extract_tup, nil_ptr, resultsOf, oneOrAll, Option.bind_some, Option.map_some, Option.getD_some, decide_eq_true_eq, ↓reduceIte, Nat.reduceEqDiff, not_false_eq_true, Nat.reduceAdd, reduceCtorEq, List.getElem?_cons_zero, List.getElem?_cons_succ, List.getElem?_toArray, Bool.false_eq_true, List.map_cons, List.map_nil, List.append_nil, List.nil_append, List.cons_append, and_true, Nat.reduceLeDiff, gt_iff_lt, ge_iff_le, Bool.not_eq_eq_eq_not, Bool.not_true, ne_eq, decide_eq_false_iff_not, box_agg, fa_ptr T62 p62_0 (by decide), load_p1 T3 a3, loadc_def, fa_ptr T62 p62_1 (by decide), fa_ptr T62 p62_2 (by decide), fa_ptr T52 p52_1 (by decide), load_p1 T36 a36, fa_ptr T60 p60_3 (by decide), fa_ptr T60 p60_4 (by decide), fa_ptr T60 p60_5 (by decide), run0_h, build_struct T60 d60, z60, parts_eq, fillA, AV.cells, AH.splice, List.take_succ_cons, List.take_zero, List.drop_succ_cons, List.drop_zero, List.length_cons, List.length_nil, p60_0, p60_1, p60_2, p60_3, p60_4, alloc_t T60, load_pA T60 a60, s60, loadn_def, fa_ptr T60 p60_2 (by decide), K97 h97, List.length_cons, List.length_nil, List.drop_zero, List.take_succ_cons, List.take_zero, Nat.zero_add, Nat.add_zero, ← hhA, nA, k1, c0, cw, k111, nD, q31, q32, q33, n1, y1, y3E, gtD, c4, w1', w2', w3', w4', z1, z3, p0, us1, eq_true us2, us3, r1, r2, callV_fn (g := 97) (by decide), callV_fn (g := 111) (by decide)]
    · by_cases r1 : x.di + 1 < e.di
      · refine ⟨ev, hG, ?_, yes (by unfold givesX; simp [p0, us1, us2, r1] <;> omega)⟩
        rw [call_F (by decide) h100 F100 rfl R100]; simp only [Try.f100, Option.getD]
        simp +contextual (maxSteps := 3000000) only [↓code_skip, ↓code_seq, ↓code_region, ↓code_cond, aCond_bool, ↓ops_nil, ↓ops_cons, run_none, run_someT, run_someF, run_tup, ↓run0_v, ↓run0_h, ↓run0_r, ↓seqK_normal, ↓retK_normal, put_same, put_ne, put_none, env0_at, ev_tmp, ev_const, ev_func, oc_int, oc_bool, o_move, o_assign, o_pick, o_bin, o_call, o_alloc, o_box, o_build, o_load, o_store, o_nilCheck, o_un, o_fieldAddr, o_indexAddr, o_extract, g_none, g_some, pick_bool, bin_add, bin_eql, bin_neq, bin_lss, bin_gtr, bin_geq, un_not, extract_tup, nil_ptr, resultsOf, oneOrAll, Option.bind_some, Option.map_some, Option.getD_some, decide_eq_true_eq, ↓reduceIte, Nat.reduceEqDiff, not_false_eq_true, Nat.reduceAdd, reduceCtorEq, List.getElem?_cons_zero, List.getElem?_cons_succ, List.getElem?_toArray, Bool.false_eq_true, List.map_cons, List.map_nil, List.append_nil, List.nil_append, List.cons_append, and_true, Nat.reduceLeDiff, Nat.le_refl, gt_iff_lt, ge_iff_le, Bool.not_eq_eq_eq_not, Bool.not_true, ne_eq, decide_eq_false_iff_not, box_agg, fa_ptr T62 p62_0 (by decide), load_p1 T3 a3, loadc_def, fa_ptr T62 p62_1 (by decide), fa_ptr T62 p62_2 (by decide), fa_ptr T52 p52_1 (by decide), load_p1 T36 a36, fa_ptr T60 p60_3 (by decide), fa_ptr T60 p60_4 (by decide), fa_ptr T60 p60_5 (by decide), run0_h, build_struct T60 d60, z60, parts_eq, fillA, AV.cells, AH.splice, List.take_succ_cons, List.take_zero, List.take_nil, List.drop_succ_cons, List.drop_zero, List.length_cons, List.length_nil, p60_0, p60_1, p60_2, p60_3, p60_4, alloc_t T60, load_pA T60 a60, s60, loadn_def, fa_ptr T60 p60_2 (by decide), K97 h97, List.length_cons, List.length_nil, List.drop_zero, List.take_succ_cons, List.take_zero, List.take_nil, Nat.zero_add, Nat.add_zero, ← hhA, nA, k1, c0, cw, k111, nD, q31, q32, q33, n1, y1, y3E, gtD, gtE, c4, w1', w2', w3', w4', z1, z3, p0, us1, us2, r1, callV_fn (g := 97) (by decide), callV_fn (g := 111) (by decide), v2]
      · by_cases r2 : e.di = x.di + 1
        · by_cases r3 : e.st = 1
          · refine ⟨ev, hG, ?_, yes (by unfold givesX; simp [us2, r2, r3] <;> omega)⟩
            rw [call_F (by decide) h100 F100 rfl R100]; simp only [Try.f100, Option.getD]
            simp +contextual (maxSteps := 3000000) only [↓code_skip, ↓code_seq, ↓code_region, ↓code_cond, aCond_bool, ↓ops_nil, ↓ops_cons, run_none, run_someT, run_someF, ↓run0_v, ↓run0_h, ↓run0_r, ↓seqK_normal, ↓retK_normal, put_same, put_ne, put_none, env0_at, ev_tmp, ev_const, ev_func, oc_int, oc_bool, o_move, o_assign, o_pick, o_bin, o_call, o_alloc, o_box, o_build, o_load, o_store, o_nilCheck, o_un, o_fieldAddr, o_indexAddr, o_extract, g_none, g_some, pick_bool, bin_add, bin_eql, bin_neq, bin_lss, bin_gtr, bin_geq, un_not, extract_tup, nil_ptr, resultsOf, oneOrAll, Option.bind_some, Option.map_some, Option.getD_some, decide_eq_true_eq, ↓reduceIte, Nat.reduceEqDiff, not_false_eq_true, Nat.reduceAdd, reduceCtorEq, List.getElem?_cons_zero, List.getElem?_cons_succ, List.getElem?_toArray, Bool.false_eq_true, List.map_cons, List.map_nil, List.append_nil, List.nil_append, List.cons_append, and_true, Nat.reduceLeDiff, Nat.le_refl, gt_iff_lt, ge_iff_le, Bool.not_eq_eq_eq_not, Bool.not_true, ne_eq, decide_eq_false_iff_not, box_agg, fa_ptr T62 p62_0 (by decide), load_p1 T3 a3, loadc_def, fa_ptr T62 p62_1 (by decide), fa_ptr T62 p62_2 (by decide), fa_ptr T52 p52_1 (by decide), load_p1 T36 a36, fa_ptr T60 p60_3 (by decide), fa_ptr T60 p60_4 (by decide), fa_ptr T60 p60_5 (by decide), run0_h, build_struct T60 d60, z60, parts_eq, fillA, AV.cells, AH.splice, List.take_succ_cons, List.take_zero, List.take_nil, List.drop_succ_cons, List.drop_zero, List.length_cons, List.length_nil, p60_0, p60_1, p60_2, p60_3, p60_4, alloc_t T60, load_pA T60 a60, s60, loadn_def, fa_ptr T60 p60_2 (by decide), K97 h97, List.length_cons, List.length_nil, List.drop_zero, List.take_succ_cons, List.take_zero, List.take_nil, Nat.zero_add, Nat.add_zero, ← hhA, nA, k1, c0, cw, k111, nD, q31, q32, q33, n1, y1, y3E, gtD, gtE, c4, w1', w2', w3', w4', z1, z3, p0, us1, us2, r1, eq_true r2, eq_true r3, callV_fn (g := 97) (by decide), callV_fn (g := 111) (by decide), v2]
          · refine ⟨ev, hE, ?_, no (by unfold givesX; simp [us1, us2, r2, r3] <;> omega)⟩
            rw [call_F (by decide) h100 F100 rfl R100]; simp only [Try.f100, Option.getD]
            simp +contextual (maxSteps := 3000000) only [↓code_skip, ↓code_seq, ↓code_region, ↓code_cond, aCond_bool, ↓ops_nil, ↓ops_cons, run_none, run_someT, run_someF, ↓run0_v, ↓run0_h, ↓run0_r, ↓seqK_normal, ↓retK_normal, put_same, put_ne, put_none, env0_at, ev_tmp, ev_const, ev_func, oc_int, oc_bool, o_move, o_assign, o_pick, o_bin, o_call, o_alloc, o_box, o_build, o_load, o_store, o_nilCheck, o_un, o_fieldAddr, o_indexAddr, o_extract, g_none, g_some, pick_bool, bin_add, bin_eql, bin_neq, bin_lss, bin_gtr, bin_geq, un_not, extract_tup, nil_ptr, resultsOf, oneOrAll, Option.bind_some, Option.map_some, Option.getD_some, decide_eq_true_eq, ↓reduceIte, Nat.reduceEqDiff, not_false_eq_true, Nat.reduceAdd, reduceCtorEq, List.getElem?_cons_zero, List.getElem?_cons_succ, List.getElem?_toArray, Bool.false_eq_true, List.map_cons, List.map_nil, List.append_nil, List.nil_append, List.cons_append, and_true, Nat.reduceLeDiff, gt_iff_lt, ge_iff_le, Bool.not_eq_eq_eq_not, Bool.not_true, ne_eq, decide_eq_false_iff_not, box_agg, fa_ptr T62 p62_0 (by decide), load_p1 T3 a3, loadc_def, fa_ptr T62 p62_1 (by decide), fa_ptr T62 p62_2 (by decide), fa_ptr T52 p52_1 (by decide), load_p1 T36 a36, fa_ptr T60 p60_3 (by decide), fa_ptr T60 p60_4 (by decide), fa_ptr T60 p60_5 (by decide), run0_h, build_struct T60 d60, z60, parts_eq, fillA, AV.cells, AH.splice, List.take_succ_cons, List.take_zero, List.drop_succ_cons, List.drop_zero, List.length_cons, List.length_nil, p60_0, p60_1, p60_2, p60_3, p60_4, alloc_t T60, load_pA T60 a60, s60, loadn_def, fa_ptr T60 p60_2 (by decide), K97 h97, List.length_cons, List.length_nil, List.drop_zero, List.take_succ_cons, List.take_zero, Nat.zero_add, Nat.add_zero, ← hhA, nA, k1, c0, cw, k111, nD, q31, q32, q33, n1, y1, y3E, gtD, c4, w1', w2', w3', w4', z1, z3, p0, us1, us2, r1, eq_true r2, r3, callV_fn (g := 97) (by decide), callV_fn (g := 111) (by decide)]
        · refine ⟨ev, hE, ?_, no (by unfold givesX; simp [p0, us1, us2, r1, r2] <;> omega)⟩
          rw [call_F (by decide) h100 F100 rfl R100]; simp only [Try.f100, Option.getD]
          simp +contextual (maxSteps := 3000000) only [↓code_skip, ↓code_seq, ↓code_region, ↓code_cond, aCond_bool, ↓ops_nil, ↓ops_cons, run_none, run_someT, run_someF, ↓run0_v, ↓run0_h, ↓run0_r, ↓seqK_normal, ↓retK_normal, put_same, put_ne, put_none, env0_at, ev_tmp, ev_const, ev_func, oc_int, oc_bool, o_move, o_assign, o_pick, o_bin, o_call, o_alloc, o_box, o_build, o_load, o_store, o_nilCheck, o_un, o_fieldAddr, o_indexAddr, o_extract, g_none, g_some, pick_bool, bin_add, bin_eql, bin_neq, bin_lss, bin_gtr, bin_geq, un_not, extract_tup, nil_ptr, resultsOf, oneOrAll, Option.bind_some, Option.map_some, Option.getD_some, decide_eq_true_eq, ↓reduceIte, Nat.reduceEqDiff, not_false_eq_true, Nat.reduceAdd, reduceCtorEq, List.getElem?_cons_zero, List.getElem?_cons_succ, List.getElem?_toArray, Bool.false_eq_true, List.map_cons, List.map_nil, List.append_nil, List.nil_append, List.cons_append, and_true, Nat.reduceLeDiff, gt_iff_lt, ge_iff_le, Bool.not_eq_eq_eq_not, Bool.not_true, ne_eq, decide_eq_false_iff_not, box_agg, fa_ptr T62 p62_0 (by decide), load_p1 T3 a3, loadc_def, fa_ptr T62 p62_1 (by decide), fa_ptr T62 p62_2 (by decide), fa_ptr T52 p52_1 (by decide), load_p1 T36 a36, fa_ptr T60 p60_3 (by decide), fa_ptr T60 p60_4 (by decide), fa_ptr T60 p60_5 (by decide), run0_h, build_struct T60 d60, z60, parts_eq, fillA, AV.cells, AH.splice, List.take_succ_cons, List.take_zero, List.drop_succ_cons, List.drop_zero, List.length_cons, List.length_nil, p60_0, p60_1, p60_2, p60_3, p60_4, alloc_t T60, load_pA T60 a60, s60, loadn_def, fa_ptr T60 p60_2 (by decide), K97 h97, List.length_cons, List.length_nil, List.drop_zero, List.take_succ_cons, List.take_zero, Nat.zero_add, Nat.add_zero, ← hhA, nA, k1, c0, cw, k111, nD, q31, q32, q33, n1, y1, y3E, gtD, c4, w1', w2', w3', w4', z1, z3, p0, us1, us2, r1, r2, callV_fn (g := 97) (by decide), callV_fn (g := 111) (by decide)]
def hearDL (n f : Int) (es : List E6) (l : List Tp) : List E6 := l.foldl (hearD n f) es
theorem hearD_len (n f : Int) (es : List E6) (x : Tp) : (hearD n f es x).length ≤ es.length + 1 := by
  unfold hearD
  repeat' split
  all_goals first | omega | (rw [List.length_set]; omega) | (rw [List.length_append]; simp)
theorem hearDL_len (n f : Int) (l : List Tp) : ∀ es : List E6, (hearDL n f es l).length ≤ es.length + l.length := by
  induction l with
  | nil => intro es; exact Nat.le_refl _
  | cons x l ih => intro es; have h1 := ih (hearD n f es x); have h2 := hearD_len n f es x; show (hearDL n f (hearD n f es x) l).length ≤ _; simp only [List.length_cons]; omega
def hearDR (ps : List Pt) (es : List E6) (n f : Int) (l : List Tp) : Int × List E6 :=
  if n < 1 ∨ (ps.length : Int) < n ∨ f < 1 then (2, es)
  else match ps[(n - 1).toNat]? with
    | none => (2, es)
    | some p => if p.up = true then (0, hearDL n f es l) else (0, es)
theorem run69 {I : Nat → Option (List AV → AH → Rs)} (h97 : I 97 = none) (h98 : I 98 = none) (h111 : I 111 = none) (h100 : I 100 = none) (h69 : I 69 = none) (m t : Nat) (n f : Int) (l : List Tp) (lv : AV) (ps : List Pt) (es : List E6) (off : Nat → Prop) (h : AH) (hT : TbV false h t ps es off) (hn : es.length + l.length ≤ m ∧ es.length + l.length ≤ 100000000) (hpl : ps.length ≤ 20) (hlv : RdT off h lv l) :
    ∃ h2 off2, call F I T (m + 60) 69 [.ptr t 0, .int .i64 n, .int .i64 f, lv] h = some (.int .i64 (hearDR ps es n f l).1, h2) ∧ TbV false h2 t ps (hearDR ps es n f l).2 off2 ∧ Stf h h2 off off2 := by
  have hT0 := hT
  obtain ⟨pv, ev, hTb, rfl, _⟩ := hT
  have gt := hTb.g
  have hlenp : ∀ h, aLen T 50 pv h = some (.int .i64 (ps.length : Nat)) := fun h => hTb.p.len T50 d50
  have hll := hlv.1
  have bad : ∀ (_ : hearDR ps es n f l = (2, es)), call F I T (m + 60) 69 [.ptr t 0, .int .i64 n, .int .i64 f, lv] h = some (.int .i64 2, h) → ∃ h2 off2, call F I T (m + 60) 69 [.ptr t 0, .int .i64 n, .int .i64 f, lv] h = some (.int .i64 (hearDR ps es n f l).1, h2) ∧ TbV false h2 t ps (hearDR ps es n f l).2 off2 ∧ Stf h h2 (tOff t pv ev) off2 := fun he hc => by
    rw [he]; exact ⟨h, _, hc, hT0, Stf.refl _ _⟩
  by_cases c1 : n < 1
  · refine bad (by unfold hearDR; rw [if_pos (.inl c1)]) ?_
    rw [call_F (by decide) h69 F69 rfl R69]; simp only [Try.f69, Option.getD]
    simp +contextual (maxSteps := 3000000) only [↓code_seq, ↓code_region, ↓code_cond, ↓code_ret, aCond_bool, ↓ops_nil, ↓ops_cons, run_none, run_someF, ↓run0_v, ↓seqK_normal, ↓seqK_ret, ↓retK_ret, put_same, put_ne, env0_at, ev_tmp, ev_const, oc_int, oc_bool, o_move, o_assign, o_pick, o_bin, o_len, o_load, o_nilCheck, o_fieldAddr, g_none, g_some, pick_bool, bin_lss, resultsOf, oneOrAll, Option.bind_some, Option.map_some, Option.getD_some, decide_eq_true_eq, ↓reduceIte, Nat.reduceEqDiff, not_false_eq_true, reduceCtorEq, List.getElem?_cons_zero, List.getElem?_cons_succ, List.getElem?_toArray, ne_eq, c1]
  by_cases c2 : (ps.length : Int) < n
  · refine bad (by unfold hearDR; rw [if_pos (.inr (.inl c2))]) ?_
    rw [call_F (by decide) h69 F69 rfl R69]; simp only [Try.f69, Option.getD]
    simp +contextual (maxSteps := 3000000) only [↓code_seq, ↓code_region, ↓code_cond, ↓code_ret, aCond_bool, ↓ops_nil, ↓ops_cons, run_none, run_someF, ↓run0_v, ↓seqK_normal, ↓seqK_ret, ↓retK_ret, put_same, put_ne, env0_at, ev_tmp, ev_const, oc_int, oc_bool, o_move, o_assign, o_pick, o_bin, o_len, o_load, o_nilCheck, o_fieldAddr, g_none, g_some, pick_bool, bin_lss, bin_gtr, nil_ptr, resultsOf, oneOrAll, Option.bind_some, Option.map_some, Option.getD_some, decide_eq_true_eq, ↓reduceIte, Nat.reduceEqDiff, not_false_eq_true, Nat.reduceAdd, reduceCtorEq, List.getElem?_cons_zero, List.getElem?_cons_succ, List.getElem?_toArray, gt_iff_lt, ne_eq, fa_ptr T52 p52_0 (by decide), load_p1 T50 a50, loadc_def, c1, gt, hlenp, c2]
  by_cases c3 : f < 1
  · refine bad (by unfold hearDR; rw [if_pos (.inr (.inr c3))]) ?_
    rw [call_F (by decide) h69 F69 rfl R69]; simp only [Try.f69, Option.getD]
    simp +contextual (maxSteps := 3000000) only [↓code_seq, ↓code_region, ↓code_cond, ↓code_ret, aCond_bool, ↓ops_nil, ↓ops_cons, run_none, run_someF, ↓run0_v, ↓seqK_normal, ↓seqK_ret, ↓retK_ret, put_same, put_ne, env0_at, ev_tmp, ev_const, oc_int, oc_bool, o_move, o_assign, o_pick, o_bin, o_len, o_load, o_nilCheck, o_fieldAddr, g_none, g_some, pick_bool, bin_lss, bin_gtr, nil_ptr, resultsOf, oneOrAll, Option.bind_some, Option.map_some, Option.getD_some, decide_eq_true_eq, ↓reduceIte, Nat.reduceEqDiff, not_false_eq_true, Nat.reduceAdd, reduceCtorEq, List.getElem?_cons_zero, List.getElem?_cons_succ, List.getElem?_toArray, gt_iff_lt, ne_eq, fa_ptr T52 p52_0 (by decide), load_p1 T50 a50, loadc_def, c1, gt, hlenp, c2, c3]
  obtain ⟨i, hi⟩ : ∃ i : Nat, n = ((i + 1 : Nat) : Int) := ⟨(n - 1).toNat, by omega⟩
  have hil : i < ps.length := by omega
  obtain ⟨p, hp⟩ : ∃ p, ps[i]? = some p := ⟨ps[i], List.getElem?_eq_getElem hil⟩
  have hnt : (n - 1).toNat = i := by omega
  have hR : hearDR ps es n f l = if p.up = true then (0, hearDL n f es l) else (0, es) := by
    unfold hearDR; rw [if_neg (by rintro (h | h | h) <;> contradiction), hnt, hp]
  have c9 : IntKind.i64.wrap (n - 1) = (i : Int) := by rw [wrap_i64 (by omega) (by omega)]; omega
  obtain ⟨R, hRR⟩ : ∃ R, R = hearDR ps es n f l := ⟨_, rfl⟩
  rw [← hRR] at hR ⊢
  rw [call_F (by decide) h69 F69 rfl R69]; simp only [Try.f69, Option.getD]
  simp +contextual (maxSteps := 3000000) only [↓code_skip, ↓code_seq, ↓code_region, ↓code_cond, ↓code_block, ↓code_loop, aCond_bool, ↓ops_nil, ↓ops_cons, run_none, run_someF, ↓run0_v, ↓seqK_normal, put_same, put_ne, env0_at, ev_tmp, ev_const, oc_int, oc_bool, o_move, o_assign, o_pick, o_bin, o_len, o_load, o_nilCheck, o_fieldAddr, g_none, g_some, pick_bool, bin_lss, bin_gtr, nil_ptr, Option.bind_some, Option.getD_some, decide_eq_true_eq, ↓reduceIte, Nat.reduceEqDiff, not_false_eq_true, Nat.reduceAdd, reduceCtorEq, List.getElem?_cons_zero, List.getElem?_cons_succ, List.getElem?_toArray, gt_iff_lt, ne_eq, fa_ptr T52 p52_0 (by decide), load_p1 T50 a50, loadc_def, c1, gt, hlenp, c2, c3]
  refine iterL_wp (Q := fun r => ∃ h2 off2, r = some (.int .i64 R.1, h2) ∧ TbV false h2 t ps R.2 off2 ∧ Stf h h2 (tOff t pv ev) off2) (N := l.length) (Inv := fun k e h' => ∃ k1 evk L, k + k1 = l.length ∧ Tb h' t pv evk ps L ∧ Stf h h' (tOff t pv ev) (tOff t pv evk) ∧ L = hearDL n f es (l.take k1) ∧ k1 ≤ l.length ∧ (p.up = false → k1 = 0) ∧ e 0 = .ptr t 0 ∧ e 1 = .int .i64 n ∧ e 2 = .int .i64 f ∧ e 3 = lv ∧ e 8 = .int .i64 0 ∧ e 9 = .int .i64 (k1 : Nat)) ?_ ?_ (by omega)
  · rintro k e h' K' ⟨k1, evk, L, hk, hL, hS, hLe, hkl, hu0, e0, e1, e2, e3, e8, e9⟩ hnext hexit
    have gk := hL.g
    obtain ⟨b, cs, bk, w1, w2, w3, w4, w5⟩ := loadQ hL.p hp
    cases hu : p.up
    · rw [hu] at w5
      have hk0 := hu0 hu
      rw [hu, if_neg (by simp)] at hR
      have hLs : L = es := by rw [hLe, hk0]; rfl
      simp +contextual (maxSteps := 3000000) only [↓code_seq, ↓code_region, ↓code_cond, ↓code_exit, aCond_bool, ↓ops_nil, ↓ops_cons, run_none, run_someT, ↓run0_v, ↓seqK_normal, ↓seqK_exit, put_same, put_ne, ev_tmp, ev_const, oc_int, oc_bool, o_move, o_pick, o_bin, o_len, o_load, o_nilCheck, o_fieldAddr, o_indexAddr, g_none, g_some, pick_bool, bin_sub, nil_ptr, Option.bind_some, ↓reduceIte, Nat.reduceEqDiff, not_false_eq_true, Nat.reduceAdd, List.getElem?_cons_zero, List.getElem?_cons_succ, List.getElem?_toArray, Bool.false_eq_true, ne_eq, fa_ptr T52 p52_0 (by decide), load_p1 T50 a50, loadc_def, fa_ptr T120 p120_2 (by decide), load_p1 T4 a4, e0, e1, e3, e9, gk, c9, w1, w2, w5]
      refine hexit _ _ _ (by simp) ?_
      rw [hR]
      refine ⟨h', _, ?_, ⟨pv, evk, hLs ▸ hL, rfl, fun h => by cases h⟩, hS⟩
      simp +contextual (maxSteps := 3000000) only [↓code_seq, ↓code_region, ↓code_ret, ↓ops_nil, ↓ops_cons, run_none, ↓run0_v, ↓seqK_normal, ↓blkK_exit, ↓retK_ret, put_same, ev_const, oc_int, o_assign, g_none, resultsOf, oneOrAll, Option.map_some, ↓reduceIte]
    rw [hu] at w5
    by_cases hk1 : k1 < l.length
    · have d1 : (k1 : Int) < (l.length : Int) := by omega
      obtain ⟨y, hy⟩ : ∃ y, l[k1]? = some y := ⟨l[k1], List.getElem?_eq_getElem hk1⟩
      obtain ⟨pl, hpl1, hpl2⟩ := hlv.2 k1 y hy
      have hpl3 := hpl2 h' hS.1 (fun c hc ho => (hS.2 c hc ho).1)
      have c7 : IntKind.i64.wrap ((k1 : Int) + 1) = ((k1 + 1 : Nat) : Int) := by rw [wrap_i64 (by omega) (by omega)]; rfl
      have hLl : L.length ≤ es.length + k1 := by
        have := hearDL_len n f (l.take k1) es
        rw [hLe]; rw [List.length_take] at this; omega
      obtain ⟨ev2, h2, q1, q2, q3⟩ := run100 h97 h98 h111 h100 (m + 19) t n f y pv evk ps L h' hL ⟨by omega, by omega⟩
      have hLn : hearD n f L y = hearDL n f es (l.take (k1 + 1)) := by rw [List.take_add_one, hy, hLe]; unfold hearDL; simp
      simp +contextual (maxSteps := 3000000) only [↓code_skip, ↓code_seq, ↓code_region, ↓code_cond, ↓code_block, aCond_bool, ↓ops_nil, ↓ops_cons, run_none, run_someT, ↓run0_v, ↓run0_r, ↓seqK_normal, ↓blkK_normal, put_same, put_ne, ev_tmp, ev_const, ev_func, oc_int, oc_bool, o_move, o_assign, o_pick, o_bin, o_call, o_len, o_load, o_nilCheck, o_fieldAddr, o_indexAddr, g_none, g_some, pick_bool, bin_add, bin_sub, bin_lss, nil_ptr, Option.bind_some, decide_eq_true_eq, ↓reduceIte, Nat.reduceEqDiff, not_false_eq_true, Nat.reduceAdd, reduceCtorEq, List.getElem?_cons_zero, List.getElem?_cons_succ, List.getElem?_toArray, List.map_cons, List.map_nil, List.append_nil, List.nil_append, ne_eq, fa_ptr T52 p52_0 (by decide), load_p1 T50 a50, loadc_def, fa_ptr T120 p120_2 (by decide), load_p1 T4 a4, e0, e1, e2, e3, e9, gk, c9, w1, w2, w5, d1, hll, hpl1, hpl3, q1, c7, callV_fn (g := 100) (by decide)]
      refine hnext (k - 1) _ _ (by omega) ⟨k1 + 1, ev2, hearD n f L y, by omega, ?_, ?_, ?_, ?_, ?_, ?_, ?_, ?_, ?_, ?_, ?_⟩
      · exact q2
      · exact hS.trans q3
      · exact hLn
      · omega
      · (intro hx; rw [hu] at hx; cases hx)
      · simp only [put_ne, not_false_eq_true, reduceCtorEq, ne_eq, e0]
      · simp only [put_ne, Nat.reduceEqDiff, not_false_eq_true, ne_eq, e1]
      · simp only [put_ne, Nat.reduceEqDiff, not_false_eq_true, ne_eq, e2]
      · simp only [put_ne, Nat.reduceEqDiff, not_false_eq_true, ne_eq, e3]
      · simp only [put_ne, Nat.reduceEqDiff, not_false_eq_true, ne_eq, e8]
      · simp only [put_same]
    · have d1 : ¬ (k1 : Int) < (l.length : Int) := by omega
      rw [hu, if_pos rfl] at hR
      have hLs : L = hearDL n f es l := by rw [hLe, List.take_of_length_le (by omega)]
      simp +contextual (maxSteps := 3000000) only [↓code_seq, ↓code_region, ↓code_cond, ↓code_exit, aCond_bool, ↓ops_nil, ↓ops_cons, run_none, run_someT, ↓run0_v, ↓seqK_normal, ↓seqK_exit, put_same, put_ne, ev_tmp, ev_const, oc_int, oc_bool, o_move, o_pick, o_bin, o_len, o_load, o_nilCheck, o_fieldAddr, o_indexAddr, g_none, g_some, pick_bool, bin_sub, bin_lss, nil_ptr, Option.bind_some, decide_eq_true_eq, ↓reduceIte, Nat.reduceEqDiff, not_false_eq_true, Nat.reduceAdd, List.getElem?_cons_zero, List.getElem?_cons_succ, List.getElem?_toArray, ne_eq, fa_ptr T52 p52_0 (by decide), load_p1 T50 a50, loadc_def, fa_ptr T120 p120_2 (by decide), load_p1 T4 a4, e0, e1, e3, e9, gk, c9, w1, w2, w5, d1, hll]
      refine hexit _ _ _ (by simp) ?_
      rw [hR]
      refine ⟨h', _, ?_, ⟨pv, evk, hLs ▸ hL, rfl, fun h => by cases h⟩, hS⟩
      simp +contextual (maxSteps := 3000000) only [↓code_seq, ↓code_region, ↓code_ret, ↓ops_nil, ↓ops_cons, run_none, ↓run0_v, ↓seqK_normal, ↓blkK_exit, ↓retK_ret, put_same, ev_const, oc_int, o_assign, g_none, resultsOf, oneOrAll, Option.map_some, ↓reduceIte]
  · refine ⟨0, ev, es, by omega, ?_, ?_, ?_, ?_, ?_, ?_, ?_, ?_, ?_, ?_, ?_⟩
    · exact hTb
    · exact Stf.refl _ _
    · rfl
    · omega
    · (intro _; rfl)
    · simp only [put_ne, env0_at, Option.getD_some, not_false_eq_true, reduceCtorEq, List.getElem?_cons_zero, ne_eq]
    · simp only [put_ne, env0_at, Option.getD_some, Nat.reduceEqDiff, not_false_eq_true, List.getElem?_cons_zero, List.getElem?_cons_succ, ne_eq]
    · simp only [put_ne, env0_at, Option.getD_some, Nat.reduceEqDiff, not_false_eq_true, List.getElem?_cons_zero, List.getElem?_cons_succ, ne_eq]
    · simp only [put_ne, env0_at, Option.getD_some, Nat.reduceEqDiff, not_false_eq_true, List.getElem?_cons_zero, List.getElem?_cons_succ, ne_eq]
    · simp only [put_same, put_ne, Nat.reduceEqDiff, not_false_eq_true, ne_eq]
    · simp only [put_same]; rfl
end Go.AM.X
