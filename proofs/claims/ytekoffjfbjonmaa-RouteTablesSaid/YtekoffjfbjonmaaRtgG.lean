/- The document's tables: new ports, what becomes older, the way. Own work. -/
import Derived.Test.YtekoffjfbjonmaaRtgF
namespace Go.AM.X
open Go Go.AM Go.Proofs Go.AM.Sx
set_option maxHeartbeats 3200000
set_option maxRecDepth 100000
set_option linter.unusedVariables false
def addPortD (ps : List Pt) (es : List E6) (lo hi : Int) : Int × Int × List Pt × List E6 :=
  if isR lo hi = false ∨ ps.any (fun p => mt p.lo p.hi lo hi) = true then (0, 60, ps, es)
  else if 16 ≤ ps.length then (0, 4, ps, es)
  else (((ps.length + 1 : Nat) : Int), 0, ps ++ [⟨lo, hi, true⟩], raiseE es ps.length ⟨lo, hi, false⟩)
theorem run67 {I : Nat → Option (List AV → AH → Rs)} (h98 : I 98 = none) (h99 : I 99 = none) (h68 : I 68 = none) (h97 : I 97 = none) (h67 : I 67 = none) (m t : Nat) (lo hi : Int) (ps : List Pt) (es : List E6) (off : Nat → Prop) (h : AH) (hT : TbV false h t ps es off) (hn : es.length ≤ m ∧ es.length ≤ 100000000) (hpl : ps.length ≤ 16) :
    ∃ h2 off2, call F I T (m + 80) 67 [.ptr t 0, .int .i64 lo, .int .i64 hi] h = some (.tup [.int .i64 (addPortD ps es lo hi).1, .int .i64 (addPortD ps es lo hi).2.1], h2) ∧ TbV false h2 t (addPortD ps es lo hi).2.2.1 (addPortD ps es lo hi).2.2.2 off2 ∧ Stf h h2 off off2 := by
  have hT0 := hT
  obtain ⟨pv, ev, hTb, rfl, _⟩ := hT
  have gt := hTb.g
  have hlenp : ∀ h, aLen T 50 pv h = some (.int .i64 (ps.length : Nat)) := fun h => hTb.p.len T50 d50
  obtain ⟨R, hR⟩ : ∃ R, R = addPortD ps es lo hi := ⟨_, rfl⟩
  rw [← hR]
  cases hr : isR lo hi
  · have hR2 : R = (0, 60, ps, es) := by rw [hR]; unfold addPortD; rw [if_pos (.inl hr)]
    rw [hR2]
    refine ⟨h, _, ?_, hT0, Stf.refl _ _⟩
    rw [call_F (by decide) h67 F67 rfl R67]; simp only [Try.f67, Option.getD]
    simp +contextual (maxSteps := 3000000) only [↓code_seq, ↓code_region, ↓code_cond, ↓code_ret, aCond_bool, ↓ops_nil, ↓ops_cons, run_none, ↓run0_v, ↓run0_r, ↓seqK_normal, ↓seqK_ret, ↓retK_ret, put_same, put_ne, env0_at, ev_tmp, ev_const, ev_func, oc_int, o_move, o_assign, o_call, o_un, g_none, un_not, resultsOf, oneOrAll, Option.map_some, Option.getD_some, ↓reduceIte, Nat.reduceEqDiff, not_false_eq_true, List.getElem?_cons_zero, List.getElem?_cons_succ, List.map_cons, List.map_nil, List.append_nil, List.nil_append, Bool.not_false, ne_eq, K97 h97, hr, callV_fn (g := 97) (by decide)]
  rw [call_F (by decide) h67 F67 rfl R67]; simp only [Try.f67, Option.getD]
  simp +contextual (maxSteps := 3000000) only [↓code_skip, ↓code_seq, ↓code_region, ↓code_cond, ↓code_block, ↓code_loop, aCond_bool, ↓ops_nil, ↓ops_cons, run_none, ↓run0_v, ↓run0_r, ↓seqK_normal, put_same, put_ne, env0_at, ev_tmp, ev_const, ev_func, oc_int, o_move, o_assign, o_call, o_un, g_none, un_not, Option.getD_some, ↓reduceIte, Nat.reduceEqDiff, not_false_eq_true, List.getElem?_cons_zero, List.getElem?_cons_succ, Bool.false_eq_true, List.map_cons, List.map_nil, List.append_nil, List.nil_append, Bool.not_true, ne_eq, K97 h97, hr, callV_fn (g := 97) (by decide)]
  refine iterL_wp (Q := fun r => ∃ h2 off2, r = some (.tup [.int .i64 R.1, .int .i64 R.2.1], h2) ∧ TbV false h2 t R.2.2.1 R.2.2.2 off2 ∧ Stf h h2 (tOff t pv ev) off2) (N := ps.length) (Inv := fun k e h' => ∃ i, k + i = ps.length ∧ (ps.take i).any (fun p => mt p.lo p.hi lo hi) = false ∧ h' = h ∧ i ≤ ps.length ∧ e 0 = .ptr t 0 ∧ e 1 = .int .i64 lo ∧ e 2 = .int .i64 hi ∧ e 6 = .int .i64 0 ∧ e 7 = .int .i64 0 ∧ e 8 = .int .i64 (i : Nat)) ?_ ?_ (by omega)
  · rintro k e h' K' ⟨i, hk, hix, hh, hil, e0, e1, e2, e6, e7, e8⟩ hnext hexit
    subst hh
    by_cases hi' : i < ps.length
    · have c1 : (i : Int) < (ps.length : Int) := by omega
      obtain ⟨p, hp⟩ : ∃ p, ps[i]? = some p := ⟨ps[i], List.getElem?_eq_getElem hi'⟩
      obtain ⟨b, cs, bk, g1, g2, g3, g4, g5⟩ := loadQ hTb.p hp
      have g3' : cs[i * 3 + 0]? = some (.int .i64 p.lo) := g3
      have c7 : IntKind.i64.wrap ((i : Int) + 1) = ((i + 1 : Nat) : Int) := by rw [wrap_i64 (by omega) (by omega)]; rfl
      cases hm : mt p.lo p.hi lo hi
      · simp +contextual (maxSteps := 3000000) only [↓code_skip, ↓code_seq, ↓code_region, ↓code_cond, ↓code_block, aCond_bool, ↓ops_nil, ↓ops_cons, run_none, ↓run0_v, ↓run0_r, ↓seqK_normal, ↓blkK_normal, put_same, put_ne, ev_tmp, ev_const, ev_func, oc_int, o_move, o_assign, o_bin, o_call, o_len, o_load, o_nilCheck, o_fieldAddr, o_indexAddr, g_none, bin_add, bin_lss, nil_ptr, decide_eq_true_eq, ↓reduceIte, Nat.reduceEqDiff, not_false_eq_true, Nat.reduceAdd, reduceCtorEq, List.getElem?_cons_zero, Bool.false_eq_true, List.map_cons, List.map_nil, List.append_nil, List.nil_append, ne_eq, fa_ptr T52 p52_0 (by decide), load_p1 T50 a50, loadc_def, fa_ptr T120 p120_0 (by decide), load_p1 T3 a3, fa_ptr T120 p120_1 (by decide), K98 h98, e0, e1, e2, e8, c1, gt, hlenp, g1, g2, g3', g4, hm, c7, callV_fn (g := 98) (by decide)]
        refine hnext (k - 1) _ _ (by omega) ⟨i + 1, by omega, ?_, ?_, ?_, ?_, ?_, ?_, ?_, ?_, ?_⟩
        · (rw [List.take_add_one, hp, List.any_append, hix]; simp [hm])
        · rfl
        · omega
        · simp only [put_ne, not_false_eq_true, reduceCtorEq, ne_eq, e0]
        · simp only [put_ne, Nat.reduceEqDiff, not_false_eq_true, ne_eq, e1]
        · simp only [put_ne, Nat.reduceEqDiff, not_false_eq_true, ne_eq, e2]
        · simp only [put_ne, Nat.reduceEqDiff, not_false_eq_true, ne_eq, e6]
        · simp only [put_ne, Nat.reduceEqDiff, not_false_eq_true, ne_eq, e7]
        · simp only [put_same]
      · have hany : ps.any (fun p => mt p.lo p.hi lo hi) = true := List.any_eq_true.2 ⟨p, List.mem_of_getElem? hp, hm⟩
        have hR2 : R = (0, 60, ps, es) := by rw [hR]; unfold addPortD; rw [if_pos (.inr hany)]
        simp +contextual (maxSteps := 3000000) only [↓code_skip, ↓code_seq, ↓code_region, ↓code_cond, ↓code_block, ↓code_ret, aCond_bool, ↓ops_nil, ↓ops_cons, run_none, ↓run0_v, ↓run0_r, ↓seqK_normal, ↓seqK_ret, ↓blkK_ret, put_same, put_ne, ev_tmp, ev_const, ev_func, oc_int, o_move, o_assign, o_bin, o_call, o_len, o_load, o_nilCheck, o_fieldAddr, o_indexAddr, g_none, bin_lss, nil_ptr, decide_eq_true_eq, ↓reduceIte, Nat.reduceEqDiff, not_false_eq_true, Nat.reduceAdd, reduceCtorEq, List.getElem?_cons_zero, List.map_cons, List.map_nil, List.append_nil, List.nil_append, ne_eq, fa_ptr T52 p52_0 (by decide), load_p1 T50 a50, loadc_def, fa_ptr T120 p120_0 (by decide), load_p1 T3 a3, fa_ptr T120 p120_1 (by decide), K98 h98, e0, e1, e2, e8, c1, gt, hlenp, g1, g2, g3', g4, hm, callV_fn (g := 98) (by decide)]
        refine hexit _ _ _ (by simp) ?_
        rw [hR2]
        refine ⟨h', _, ?_, hT0, Stf.refl _ _⟩
        simp +contextual (maxSteps := 3000000) only [↓seqK_ret, ↓blkK_ret, ↓retK_ret, put_same, put_ne, resultsOf, oneOrAll, Option.map_some, Nat.reduceEqDiff, not_false_eq_true, ne_eq]
    · have c1 : ¬ (i : Int) < (ps.length : Int) := by omega
      rw [List.take_of_length_le (by omega)] at hix
      have hneg : ¬ (isR lo hi = false ∨ ps.any (fun p => mt p.lo p.hi lo hi) = true) := by rw [hr, hix]; simp
      simp +contextual (maxSteps := 3000000) only [↓code_seq, ↓code_region, ↓code_cond, ↓code_exit, aCond_bool, ↓ops_nil, ↓ops_cons, run_none, ↓run0_v, ↓seqK_normal, ↓seqK_exit, put_same, put_ne, ev_tmp, o_move, o_bin, o_len, o_load, o_nilCheck, o_fieldAddr, g_none, bin_lss, nil_ptr, decide_eq_true_eq, ↓reduceIte, Nat.reduceEqDiff, not_false_eq_true, Nat.reduceAdd, reduceCtorEq, List.getElem?_cons_zero, ne_eq, fa_ptr T52 p52_0 (by decide), load_p1 T50 a50, loadc_def, e0, e8, c1, gt, hlenp]
      refine hexit _ _ _ (by simp) ?_
      by_cases hl : 16 ≤ ps.length
      · have c2 : (16 : Int) ≤ (ps.length : Int) := by omega
        have hR2 : R = (0, 4, ps, es) := by rw [hR]; unfold addPortD; rw [if_neg hneg, if_pos hl]
        rw [hR2]
        refine ⟨h', _, ?_, hT0, Stf.refl _ _⟩
        simp +contextual (maxSteps := 3000000) only [↓code_seq, ↓code_region, ↓code_cond, ↓code_ret, aCond_bool, ↓ops_nil, ↓ops_cons, run_none, ↓run0_v, ↓seqK_normal, ↓seqK_ret, ↓blkK_exit, ↓retK_ret, put_same, put_ne, ev_tmp, ev_const, oc_int, o_move, o_assign, o_bin, o_len, o_load, o_nilCheck, o_fieldAddr, g_none, bin_geq, nil_ptr, resultsOf, oneOrAll, Option.map_some, decide_eq_true_eq, ↓reduceIte, Nat.reduceEqDiff, not_false_eq_true, Nat.reduceAdd, reduceCtorEq, List.getElem?_cons_zero, ge_iff_le, ne_eq, fa_ptr T52 p52_0 (by decide), load_p1 T50 a50, loadc_def, e0, gt, hlenp, c2]
      have c2 : ¬ (16 : Int) ≤ (ps.length : Int) := by omega
      have hR2 : R = (((ps.length + 1 : Nat) : Int), 0, ps ++ [⟨lo, hi, true⟩], raiseE es ps.length ⟨lo, hi, false⟩) := by rw [hR]; unfold addPortD; rw [if_neg hneg, if_neg hl]
      rw [hR2]
      obtain ⟨pv2, hD, q1, q2, q3, q4, q5⟩ := hTb.p.push (new := [.int .i64 lo, .int .i64 hi, .bool false]) T50 d50 T120 s120 (by decide) (by rw [b120]; decide) rfl rfl (by rw [b120]; simp [maxBytes]; omega)
      have hcs : fl Pt.enc ps ++ [.int .i64 lo, .int .i64 hi, .bool false] = fl Pt.enc (ps ++ [⟨lo, hi, false⟩]) := by rw [fl_app]; rfl
      have hln : ps.length + 1 = (ps ++ [(⟨lo, hi, false⟩ : Pt)]).length := by simp
      rw [hcs, hln] at q2
      obtain ⟨hTE, sE⟩ := hTb.setP q2 (by omega) q4 q5
      obtain ⟨hE, hhE⟩ : ∃ hE, hE = hD.put t (.cells [pv2, ev] .own) := ⟨_, rfl⟩
      rw [← hhE] at hTE sE
      obtain ⟨u1, u2⟩ := q2.cells
      have gD : hD.get t = some (.cells [pv, ev] .own) := by rw [q4 t hTb.lt hTb.tp]; exact gt
      have stE : aStore T 50 (.ptr t 0) pv2 hD = some hE := by rw [store_1 T50 s50 u1 u2 gD (by simp), hhE]; rfl
      have gE := hTE.g
      have hlen2 : ∀ h, aLen T 50 pv2 h = some (.int .i64 ((ps.length + 1 : Nat) : Int)) := fun h => by rw [hln]; exact q2.len T50 d50
      have hpD : portD (ps ++ [(⟨lo, hi, false⟩ : Pt)]) es ((ps.length + 1 : Nat) : Int) true = (0, ps ++ [⟨lo, hi, true⟩], raiseE es ps.length ⟨lo, hi, false⟩) := by
        unfold portD
        rw [if_neg (by rw [← hln]; omega), show (((ps.length + 1 : Nat) : Int) - 1).toNat = ps.length by omega]
        simp
      obtain ⟨hG, off2, k68, hTG, sG⟩ := run68 h98 h99 h68 (m + 39) t ((ps.length + 1 : Nat) : Int) true _ es _ hE ⟨pv2, ev, hTE, rfl, fun h => by cases h⟩ ⟨by omega, hn.2⟩ (by rw [← hln]; omega)
      rw [hpD] at k68 hTG
      obtain ⟨pv3, ev3, hTG', e3, _⟩ := hTG
      have gG := hTG'.g
      have hlen3 : ∀ h, aLen T 50 pv3 h = some (.int .i64 ((ps.length + 1 : Nat) : Int)) := fun h => by
        have := hTG'.p.len (h2 := h) T50 d50
        rw [this]; simp
      refine ⟨hG, off2, ?_, ⟨pv3, ev3, hTG', e3, fun h => by cases h⟩, sE.trans sG⟩
      simp +contextual (maxSteps := 3000000) only [↓code_skip, ↓code_seq, ↓code_region, ↓code_cond, ↓code_ret, aCond_bool, ↓ops_nil, ↓ops_cons, run_none, ↓run0_v, ↓run0_h, ↓run0_r, ↓seqK_normal, ↓blkK_exit, ↓retK_ret, put_same, put_ne, put_none, ev_tmp, ev_const, ev_func, oc_int, oc_bool, o_move, o_assign, o_bin, o_call, o_len, o_build, o_buildSlice, o_load, o_store, o_nilCheck, o_fieldAddr, o_append, g_none, bin_geq, nil_ptr, resultsOf, oneOrAll, Option.bind_some, Option.map_some, decide_eq_true_eq, ↓reduceIte, Nat.reduceEqDiff, not_false_eq_true, Nat.reduceAdd, Nat.reduceMul, reduceCtorEq, List.getElem?_cons_zero, List.map_cons, List.map_nil, List.append_nil, List.nil_append, List.cons_append, and_true, Nat.reduceLeDiff, Nat.le_refl, ge_iff_le, ne_eq, fa_ptr T52 p52_0 (by decide), load_p1 T50 a50, loadc_def, build_struct T120 d120, z120, parts_eq, fillA, AV.cells, AH.splice, List.take_succ_cons, List.take_zero, List.drop_succ_cons, List.drop_zero, List.drop_nil, List.length_cons, List.length_nil, p120_0, p120_1, buildSl T50 d50 T120 (n := 1) (by rw [s120]; decide), s120, repl, run0_h, e0, e1, e2, gt, hlenp, hlen2, hlen3, c2, q1, stE, gE, k68, gG, callV_fn (g := 68) (by decide)]
  · refine ⟨0, by omega, ?_, ?_, ?_, ?_, ?_, ?_, ?_, ?_, ?_⟩
    · rfl
    · rfl
    · omega
    · simp only [put_ne, env0_at, Option.getD_some, not_false_eq_true, reduceCtorEq, List.getElem?_cons_zero, ne_eq]
    · simp only [put_ne, env0_at, Option.getD_some, Nat.reduceEqDiff, not_false_eq_true, List.getElem?_cons_zero, List.getElem?_cons_succ, ne_eq]
    · simp only [put_ne, env0_at, Option.getD_some, Nat.reduceEqDiff, not_false_eq_true, List.getElem?_cons_zero, List.getElem?_cons_succ, ne_eq]
    · simp only [put_same, put_ne, Nat.reduceEqDiff, not_false_eq_true, ne_eq]
    · simp only [put_same, put_ne, Nat.reduceEqDiff, not_false_eq_true, ne_eq]
    · simp only [put_same]; rfl
def olderD (e : E6) : E6 := if 0 < e.nx then { e with st := e.st + 1 } else e
def tickD (es : List E6) : List E6 := (es.map olderD).filter fun e => decide (e.st < 4)
theorem run70 {I : Nat → Option (List AV → AH → Rs)} (h70 : I 70 = none) (m t : Nat) (ps : List Pt) (es : List E6) (off : Nat → Prop) (h : AH) (hT : TbV false h t ps es off) (hn : es.length ≤ m ∧ es.length ≤ 100000000) (hst : ∀ e ∈ es, 0 ≤ e.st ∧ e.st ≤ 100) :
    ∃ h2 off2, call F I T (m + 20) 70 [.ptr t 0] h = some (.tup [], h2) ∧ TbV false h2 t ps (tickD es) off2 ∧ Stf h h2 off off2 := by
  obtain ⟨pv, ev, hTb, rfl, _⟩ := hT
  have hlen : ∀ h, aLen T 36 ev h = some (.int .i64 (es.length : Nat)) := fun h => hTb.e.len T36 d36
  rw [call_F (by decide) h70 F70 rfl R70]; simp only [Try.f70, Option.getD]
  simp +contextual (maxSteps := 3000000) only [↓code_seq, ↓code_region, ↓code_block, ↓code_loop, ↓ops_nil, ↓ops_cons, run_none, ↓run0_v, ↓seqK_normal, ev_const, oc_int, oc_nils, o_assign, g_none]
  refine iterL_wp (Q := fun r => ∃ h2 off2, r = some (.tup [], h2) ∧ TbV false h2 t ps (tickD es) off2 ∧ Stf h h2 (tOff t pv ev) off2) (N := es.length) (Inv := fun k e h' => ∃ i v, k + i = es.length ∧ RowC 6 h' v (tickD (es.take i)).length (fl E6.av (tickD (es.take i))) ∧ Fresh h v ∧ Grow h h' ∧ i ≤ es.length ∧ e 0 = .ptr t 0 ∧ e 2 = v ∧ e 3 = .int .i64 (i : Nat)) ?_ ?_ (by omega)
  · rintro k e h' K' ⟨i, v, hk, hr, hf, hg, hil, e0, e2, e3⟩ hnext hexit
    have hTk := hTb.grow hg
    have gt := hTk.g
    by_cases hi' : i < es.length
    · have c1 : (i : Int) < (es.length : Int) := by omega
      obtain ⟨e, he⟩ : ∃ e, es[i]? = some e := ⟨es[i], List.getElem?_eq_getElem hi'⟩
      have hem := hst e (List.mem_of_getElem? he)
      obtain ⟨b, cs, bk, g1, g2, g3, g4⟩ := loadE hTk.e he
      have c7 : IntKind.i64.wrap ((i : Int) + 1) = ((i + 1 : Nat) : Int) := by rw [wrap_i64 (by omega) (by omega)]; rfl
      have c8 : IntKind.i64.wrap (e.st + 1) = e.st + 1 := wrap_i64 (by omega) (by omega)
      have hll : (tickD (es.take i)).length ≤ es.length := by
        unfold tickD
        have := List.length_filter_le (fun e => decide (e.st < 4)) ((es.take i).map olderD)
        rw [List.length_map, List.length_take] at this; omega
      have htk : tickD (es.take (i + 1)) = tickD (es.take i) ++ (if (olderD e).st < 4 then [olderD e] else []) := by
        unfold tickD; rw [List.take_add_one, he]; simp only [Option.toList, List.map_append, List.filter_append, List.map_cons, List.map_nil]
        congr 1
        by_cases d : (olderD e).st < 4 <;> simp [d]
      obtain ⟨hz, y1, y2, y3, y4⟩ := store_e h' e
      have hgz := hg.trans y4
      have gtz := (hTb.grow hgz).g
      by_cases d1 : 0 < e.nx
      · have ho : olderD e = ⟨e.lo, e.hi, e.di, e.po, e.nx, e.st + 1⟩ := by unfold olderD; rw [if_pos d1]
        rw [ho] at htk
        obtain ⟨hy, hhy⟩ : ∃ hy, hy = hz.put h'.next (.cells [.int .i64 e.lo, .int .i64 e.hi, .int .i64 e.di, .int .i64 e.po, .int .i64 e.nx, .int .i64 (e.st + 1)] .own) := ⟨_, rfl⟩
        have stY : aStore T 3 (.ptr h'.next 5) (.int .i64 (e.st + 1)) hz = some hy := by rw [store_1 T3 s3 rfl rfl y3 (by simp), hhy]; rfl
        have ky : hy.get h'.next = some (.cells [.int .i64 e.lo, .int .i64 e.hi, .int .i64 e.di, .int .i64 e.po, .int .i64 e.nx, .int .i64 (e.st + 1)] .own) := by rw [hhy, AH.get_put, if_pos rfl]
        have gy : Grow h' hy := ⟨by rw [hhy]; simp; omega, fun c hc => by rw [hhy, AH.get_put, if_neg (by omega), y4.2 c hc]⟩
        have hgy := hg.trans gy
        by_cases d2 : e.st + 1 < 4
        · rw [if_pos d2] at htk
          obtain ⟨v', h2, q1, q2, q3, q4⟩ := pushE ⟨e.lo, e.hi, e.di, e.po, e.nx, e.st + 1⟩ (hr.grow gy) hf hgy (by omega)
          rw [← htk] at q2
          simp +contextual (maxSteps := 3000000) only [↓code_skip, ↓code_seq, ↓code_region, ↓code_cond, ↓code_block, aCond_bool, ↓ops_nil, ↓ops_cons, run_none, ↓run0_v, ↓run0_h, ↓run0_r, ↓seqK_normal, ↓blkK_normal, put_same, put_ne, put_none, ev_tmp, ev_const, oc_int, o_move, o_assign, o_bin, o_len, o_alloc, o_buildSlice, o_load, o_store, o_nilCheck, o_fieldAddr, o_indexAddr, o_append, g_none, bin_add, bin_lss, bin_gtr, nil_ptr, Option.bind_some, Option.map_some, decide_eq_true_eq, ↓reduceIte, Nat.reduceEqDiff, not_false_eq_true, Nat.reduceAdd, Nat.reduceMul, reduceCtorEq, Nat.succ_ne_self, List.getElem?_cons_zero, List.getElem?_cons_succ, List.map_cons, List.map_nil, List.append_nil, List.nil_append, and_true, Nat.le_refl, gt_iff_lt, ne_eq, fa_ptr T52 p52_1 (by decide), load_p1 T36 a36, loadc_def, load_pA T60 a60, s60, loadn_def, alloc_t T60, z60, fa_ptr T60 p60_4 (by decide), load_p1 T3 a3, fa_ptr T60 p60_5 (by decide), run0_h, buildSl T36 d36 T60 (n := 1) (by rw [s60]; decide), parts_eq, fillA, AV.cells, AH.splice, List.take_succ_cons, List.take_zero, List.take_nil, List.drop_succ_cons, List.drop_zero, List.drop_nil, List.length_cons, List.length_nil, repl, List.length_cons, List.length_nil, List.drop_zero, List.take_succ_cons, List.take_zero, List.take_nil, Nat.zero_add, e0, e2, e3, c1, gt, hlen, g1, g2, g3, g4, y1, y3, d1, c8, stY, ky, d2, q1, c7]
          refine hnext (k - 1) _ _ (by omega) ⟨i + 1, v', by omega, ?_, ?_, ?_, ?_, ?_, ?_, ?_⟩
          · exact q2
          · exact q3
          · exact q4
          · omega
          · simp only [put_ne, not_false_eq_true, reduceCtorEq, ne_eq, e0]
          · simp only [put_same, put_ne, Nat.reduceEqDiff, not_false_eq_true, ne_eq]
          · simp only [put_same]
        · rw [if_neg d2, List.append_nil] at htk
          simp +contextual (maxSteps := 3000000) only [↓code_skip, ↓code_seq, ↓code_region, ↓code_cond, ↓code_block, aCond_bool, ↓ops_nil, ↓ops_cons, run_none, ↓run0_v, ↓run0_h, ↓run0_r, ↓seqK_normal, ↓blkK_normal, put_same, put_ne, put_none, ev_tmp, ev_const, oc_int, o_move, o_assign, o_bin, o_len, o_alloc, o_load, o_store, o_nilCheck, o_fieldAddr, o_indexAddr, g_none, bin_add, bin_lss, bin_gtr, nil_ptr, Option.map_some, decide_eq_true_eq, ↓reduceIte, Nat.reduceEqDiff, not_false_eq_true, reduceCtorEq, List.getElem?_cons_zero, List.getElem?_cons_succ, gt_iff_lt, ne_eq, fa_ptr T52 p52_1 (by decide), load_p1 T36 a36, loadc_def, load_pA T60 a60, s60, loadn_def, alloc_t T60, z60, fa_ptr T60 p60_4 (by decide), load_p1 T3 a3, fa_ptr T60 p60_5 (by decide), run0_h, Nat.zero_add, e0, e3, c1, gt, hlen, g1, g2, g3, g4, y1, y3, d1, c8, stY, ky, d2, c7]
          refine hnext (k - 1) _ _ (by omega) ⟨i + 1, v, by omega, ?_, ?_, ?_, ?_, ?_, ?_, ?_⟩
          · (rw [htk]; exact hr.grow gy)
          · exact hf
          · exact hgy
          · omega
          · simp only [put_ne, not_false_eq_true, reduceCtorEq, ne_eq, e0]
          · simp only [put_ne, Nat.reduceEqDiff, not_false_eq_true, ne_eq, e2]
          · simp only [put_same]
      · have ho : olderD e = ⟨e.lo, e.hi, e.di, e.po, e.nx, e.st⟩ := by unfold olderD; rw [if_neg d1]
        rw [ho] at htk
        by_cases d2 : e.st < 4
        · rw [if_pos d2] at htk
          obtain ⟨v', h2, q1, q2, q3, q4⟩ := pushE ⟨e.lo, e.hi, e.di, e.po, e.nx, e.st⟩ (hr.grow y4) hf hgz (by omega)
          rw [← htk] at q2
          simp +contextual (maxSteps := 3000000) only [↓code_skip, ↓code_seq, ↓code_region, ↓code_cond, ↓code_block, aCond_bool, ↓ops_nil, ↓ops_cons, run_none, ↓run0_v, ↓run0_h, ↓run0_r, ↓seqK_normal, ↓blkK_normal, put_same, put_ne, put_none, ev_tmp, ev_const, oc_int, o_move, o_assign, o_bin, o_len, o_alloc, o_buildSlice, o_load, o_store, o_nilCheck, o_fieldAddr, o_indexAddr, o_append, g_none, bin_add, bin_lss, bin_gtr, nil_ptr, Option.bind_some, Option.map_some, decide_eq_true_eq, ↓reduceIte, Nat.reduceEqDiff, not_false_eq_true, Nat.reduceAdd, Nat.reduceMul, reduceCtorEq, Nat.succ_ne_self, List.getElem?_cons_zero, List.getElem?_cons_succ, List.map_cons, List.map_nil, List.append_nil, List.nil_append, and_true, Nat.le_refl, gt_iff_lt, ne_eq, fa_ptr T52 p52_1 (by decide), load_p1 T36 a36, loadc_def, load_pA T60 a60, s60, loadn_def, alloc_t T60, z60, fa_ptr T60 p60_4 (by decide), load_p1 T3 a3, fa_ptr T60 p60_5 (by decide), run0_h, buildSl T36 d36 T60 (n := 1) (by rw [s60]; decide), parts_eq, fillA, AV.cells, AH.splice, List.take_succ_cons, List.take_zero, List.take_nil, List.drop_succ_cons, List.drop_zero, List.drop_nil, List.length_cons, List.length_nil, repl, List.length_cons, List.length_nil, List.drop_zero, List.take_succ_cons, List.take_zero, List.take_nil, Nat.zero_add, e0, e2, e3, c1, gt, hlen, g1, g2, g3, g4, y1, y3, d1, d2, q1, c7]
          refine hnext (k - 1) _ _ (by omega) ⟨i + 1, v', by omega, ?_, ?_, ?_, ?_, ?_, ?_, ?_⟩
          · exact q2
          · exact q3
          · exact q4
          · omega
          · simp only [put_ne, not_false_eq_true, reduceCtorEq, ne_eq, e0]
          · simp only [put_same, put_ne, Nat.reduceEqDiff, not_false_eq_true, ne_eq]
          · simp only [put_same]
        · rw [if_neg d2, List.append_nil] at htk
          simp +contextual (maxSteps := 3000000) only [↓code_skip, ↓code_seq, ↓code_region, ↓code_cond, ↓code_block, aCond_bool, ↓ops_nil, ↓ops_cons, run_none, ↓run0_v, ↓run0_h, ↓run0_r, ↓seqK_normal, ↓blkK_normal, put_same, put_ne, put_none, ev_tmp, ev_const, oc_int, o_move, o_assign, o_bin, o_len, o_alloc, o_load, o_store, o_nilCheck, o_fieldAddr, o_indexAddr, g_none, bin_add, bin_lss, bin_gtr, nil_ptr, Option.map_some, decide_eq_true_eq, ↓reduceIte, Nat.reduceEqDiff, not_false_eq_true, reduceCtorEq, List.getElem?_cons_zero, List.getElem?_cons_succ, gt_iff_lt, ne_eq, fa_ptr T52 p52_1 (by decide), load_p1 T36 a36, loadc_def, load_pA T60 a60, s60, loadn_def, alloc_t T60, z60, fa_ptr T60 p60_4 (by decide), load_p1 T3 a3, fa_ptr T60 p60_5 (by decide), run0_h, Nat.zero_add, e0, e3, c1, gt, hlen, g1, g2, g3, g4, y1, y3, d1, d2, c7]
          refine hnext (k - 1) _ _ (by omega) ⟨i + 1, v, by omega, ?_, ?_, ?_, ?_, ?_, ?_, ?_⟩
          · (rw [htk]; exact hr.grow y4)
          · exact hf
          · exact hgz
          · omega
          · simp only [put_ne, not_false_eq_true, reduceCtorEq, ne_eq, e0]
          · simp only [put_ne, Nat.reduceEqDiff, not_false_eq_true, ne_eq, e2]
          · simp only [put_same]
    · have c1 : ¬ (i : Int) < (es.length : Int) := by omega
      rw [List.take_of_length_le (by omega)] at hr
      obtain ⟨h3, s1, s2', s3'⟩ := hTb.newE hr hf hg
      simp +contextual (maxSteps := 3000000) only [↓code_seq, ↓code_region, ↓code_cond, ↓code_exit, aCond_bool, ↓ops_nil, ↓ops_cons, run_none, ↓run0_v, ↓seqK_normal, ↓seqK_exit, put_same, put_ne, ev_tmp, o_move, o_bin, o_len, o_load, o_nilCheck, o_fieldAddr, g_none, bin_lss, nil_ptr, decide_eq_true_eq, ↓reduceIte, Nat.reduceEqDiff, not_false_eq_true, Nat.reduceAdd, reduceCtorEq, List.getElem?_cons_zero, List.getElem?_cons_succ, ne_eq, fa_ptr T52 p52_1 (by decide), load_p1 T36 a36, loadc_def, e0, e3, c1, gt, hlen]
      refine hexit _ _ _ (by simp) ⟨h3, _, ?_, ⟨pv, v, s2', rfl, fun h => by cases h⟩, s3'⟩
      simp +contextual (maxSteps := 3000000) only [↓code_region, ↓ops_nil, ↓ops_cons, run_none, ↓run0_v, ↓run0_h, ↓seqK_normal, ↓blkK_exit, ↓retK_normal, put_same, put_ne, ev_tmp, o_move, o_store, o_nilCheck, o_fieldAddr, g_none, nil_ptr, resultsOf, oneOrAll, Option.map_some, ↓reduceIte, Nat.reduceEqDiff, not_false_eq_true, Nat.reduceAdd, reduceCtorEq, ne_eq, fa_ptr T52 p52_1 (by decide), run0_h, e0, e2, s1]
  · refine ⟨0, .nils, by omega, ?_, ?_, ?_, ?_, ?_, ?_, ?_⟩
    · exact RowC.nil _ _
    · (intro b o l k z x e; cases e)
    · exact Grow.refl _
    · omega
    · simp only [put_ne, env0_at, Option.getD_some, not_false_eq_true, reduceCtorEq, List.getElem?_cons_zero, ne_eq]
    · simp only [put_same, put_ne, Nat.reduceEqDiff, not_false_eq_true, ne_eq]
    · simp only [put_same]; rfl
theorem run35 {I : Nat → Option (List AV → AH → Rs)} (h35 : I 35 = none) (m t : Nat) (n : Int) (ps : List Pt) (es : List E6) (off : Nat → Prop) (h : AH) (hT : TbV false h t ps es off) (hn : es.length ≤ m ∧ es.length ≤ 100000000) :
    ∃ h2, call F I T (m + 20) 35 [.ptr t 0, .int .i64 n] h = some (wayV es n, h2) ∧ Grow h h2 := by
  obtain ⟨pv, ev, hTb, rfl, _⟩ := hT
  obtain ⟨hA, hhA⟩ : ∃ hA, hA = h.alloc (.cells [.int .i64 0, .int .i64 0, .int .i64 0, .int .i64 0, .int .i64 0, .int .i64 0] .own) := ⟨_, rfl⟩
  have gA : Grow h hA := by rw [hhA]; exact Grow.alloc _ _
  have nA : hA.next = h.next + 1 := by rw [hhA]; rfl
  have kA : hA.get h.next = some (.cells [.int .i64 0, .int .i64 0, .int .i64 0, .int .i64 0, .int .i64 0, .int .i64 0] .own) := by rw [hhA, AH.get_alloc, if_pos rfl]
  have hTA := hTb.grow gA
  have gt := hTA.g
  have hlen : ∀ h, aLen T 36 ev h = some (.int .i64 (es.length : Nat)) := fun h => hTb.e.len T36 d36
  rw [call_F (by decide) h35 F35 rfl R35]; simp only [Try.f35, Option.getD]
  simp +contextual (maxSteps := 3000000) only [↓code_seq, ↓code_region, ↓code_block, ↓code_loop, ↓ops_nil, ↓ops_cons, run_none, ↓run0_v, ↓run0_r, ↓seqK_normal, ev_const, oc_int, o_assign, o_alloc, g_none, alloc_t T60, z60, ← hhA]
  refine iterL_wp (Q := fun r => ∃ h2, r = some (wayV es n, h2) ∧ Grow h h2) (N := es.length) (Inv := fun k e h' => ∃ i, k + i = es.length ∧ h' = hA ∧ (es.take i).find? (hasN n) = none ∧ i ≤ es.length ∧ e 0 = .ptr t 0 ∧ e 1 = .int .i64 n ∧ e 4 = .ptr h.next 0 ∧ e 5 = .int .i64 0 ∧ e 6 = .int .i64 (i : Nat)) ?_ ?_ (by omega)
  · rintro k e h' K' ⟨i, hk, hh, hf, hil, e0, e1, e4, e5, e6⟩ hnext hexit
    subst hh
    by_cases hi : i < es.length
    · have c1 : (i : Int) < (es.length : Int) := by omega
      obtain ⟨e, he⟩ : ∃ e, es[i]? = some e := ⟨es[i], List.getElem?_eq_getElem hi⟩
      obtain ⟨b, cs, bk, g1, g2, g3, g4, g5, g5', g6, g7, g8, g9, g10⟩ := load6 hTA.e he
      have c7 : IntKind.i64.wrap ((i : Int) + 1) = ((i + 1 : Nat) : Int) := by rw [wrap_i64 (by omega) (by omega)]; rfl
      have htk : (es.take (i + 1)).find? (hasN n) = if hasN n e = true then some e else none := by
        rw [List.take_add_one, he, List.find?_append, hf]
        cases hh : hasN n e <;> simp [hh]
      have hfin : hasN n e = true → es.find? (hasN n) = some e := fun hh => by
        rw [hh, if_pos rfl] at htk
        rw [← List.take_append_drop (i + 1) es, List.find?_append, htk]; rfl
      have hno : hasN n e = false → (es.take (i + 1)).find? (hasN n) = none := fun hh => by rw [htk, hh]; rfl
      by_cases d1 : e.lo ≤ n
      · by_cases d2 : n ≤ e.hi
        · by_cases d3 : e.st < 2
          · have hh : hasN n e = true := by unfold hasN; simp [d1, d2, d3]
            have hw : wayV es n = .tup [.agg [.int .i64 e.lo, .int .i64 e.hi, .int .i64 e.di, .int .i64 e.po, .int .i64 e.nx, .int .i64 e.st], .int .i64 0] := by unfold wayV; rw [hfin hh]
            have hst := store_n (T := T) (t := 60) (b := h.next) (o := 0) (v := .agg [.int .i64 e.lo, .int .i64 e.hi, .int .i64 e.di, .int .i64 e.po, .int .i64 e.nx, .int .i64 e.st]) (vs := [.int .i64 e.lo, .int .i64 e.hi, .int .i64 e.di, .int .i64 e.po, .int .i64 e.nx, .int .i64 e.st]) T60 rfl (by rw [s60]; rfl) rfl kA (by simp)
            obtain ⟨hY, hhY⟩ : ∃ hY, hY = h'.put h.next (.cells (AH.splice [.int .i64 0, .int .i64 0, .int .i64 0, .int .i64 0, .int .i64 0, .int .i64 0] 0 [.int .i64 e.lo, .int .i64 e.hi, .int .i64 e.di, .int .i64 e.po, .int .i64 e.nx, .int .i64 e.st]) .own) := ⟨_, rfl⟩
            rw [← hhY] at hst
            have kY : hY.get h.next = some (.cells [.int .i64 e.lo, .int .i64 e.hi, .int .i64 e.di, .int .i64 e.po, .int .i64 e.nx, .int .i64 e.st] .own) := by rw [hhY, AH.get_put, if_pos rfl]; rfl
            simp +contextual (maxSteps := 3000000) only [↓code_skip, ↓code_seq, ↓code_region, ↓code_cond, ↓code_block, ↓code_ret, aCond_bool, ↓ops_nil, ↓ops_cons, run_none, run_someT, ↓run0_v, ↓run0_h, ↓seqK_normal, ↓seqK_ret, ↓blkK_ret, put_same, put_ne, put_none, ev_tmp, ev_const, oc_int, oc_bool, o_move, o_assign, o_pick, o_bin, o_len, o_load, o_store, o_nilCheck, o_fieldAddr, o_indexAddr, g_none, g_some, pick_bool, bin_lss, bin_leq, nil_ptr, Option.bind_some, Option.map_some, decide_eq_true_eq, ↓reduceIte, Nat.reduceEqDiff, not_false_eq_true, reduceCtorEq, List.getElem?_cons_zero, List.getElem?_cons_succ, List.getElem?_toArray, ne_eq, fa_ptr T52 p52_1 (by decide), load_p1 T36 a36, loadc_def, fa_ptr T60 p60_0 (by decide), load_p1 T3 a3, fa_ptr T60 p60_1 (by decide), fa_ptr T60 p60_5 (by decide), load_pA T60 a60, s60, loadn_def, Nat.zero_add, Nat.add_zero, e0, e1, e4, e6, c1, gt, hlen, g1, g2, g3, g4, g5, g6, g10, d1, d2, d3, hst]
            refine hexit _ _ _ (by simp) ⟨hY, ?_, (by rw [hhY]; exact gA.1), fun c hc => ?_⟩
            · simp +contextual (maxSteps := 3000000) only [↓seqK_ret, ↓blkK_ret, ↓retK_ret, put_same, put_ne, resultsOf, oneOrAll, Option.bind_some, Option.map_some, ↓reduceIte, Nat.reduceEqDiff, not_false_eq_true, Nat.reduceAdd, Nat.le_refl, ne_eq, load_pA T60 a60, s60, loadn_def, List.take_succ_cons, List.take_nil, List.drop_zero, List.length_cons, List.length_nil, List.length_cons, List.length_nil, List.drop_zero, List.take_succ_cons, List.take_nil, Nat.zero_add, e4, kY, hw]
            · rw [hhY, AH.get_put, if_neg (by omega), gA.2 c hc]
          · have hh : hasN n e = false := by unfold hasN; simp [d3]
            simp +contextual (maxSteps := 3000000) only [↓code_skip, ↓code_seq, ↓code_region, ↓code_cond, ↓code_block, aCond_bool, ↓ops_nil, ↓ops_cons, run_none, run_someT, ↓run0_v, ↓seqK_normal, ↓blkK_normal, put_same, put_ne, ev_tmp, ev_const, oc_int, oc_bool, o_move, o_assign, o_pick, o_bin, o_len, o_load, o_nilCheck, o_fieldAddr, o_indexAddr, g_none, g_some, pick_bool, bin_add, bin_lss, bin_leq, nil_ptr, Option.bind_some, decide_eq_true_eq, ↓reduceIte, Nat.reduceEqDiff, not_false_eq_true, reduceCtorEq, List.getElem?_cons_zero, List.getElem?_cons_succ, List.getElem?_toArray, ne_eq, fa_ptr T52 p52_1 (by decide), load_p1 T36 a36, loadc_def, fa_ptr T60 p60_0 (by decide), load_p1 T3 a3, fa_ptr T60 p60_1 (by decide), fa_ptr T60 p60_5 (by decide), Nat.zero_add, Nat.add_zero, e0, e1, e6, c1, gt, hlen, g1, g2, g5, g6, g10, d1, d2, d3, c7]
            refine hnext (k - 1) _ _ (by omega) ⟨i + 1, by omega, ?_, ?_, ?_, ?_, ?_, ?_, ?_, ?_⟩
            · rfl
            · exact hno hh
            · omega
            · simp only [put_ne, not_false_eq_true, reduceCtorEq, ne_eq, e0]
            · simp only [put_ne, Nat.reduceEqDiff, not_false_eq_true, ne_eq, e1]
            · simp only [put_ne, Nat.reduceEqDiff, not_false_eq_true, ne_eq, e4]
            · simp only [put_ne, Nat.reduceEqDiff, not_false_eq_true, ne_eq, e5]
            · simp only [put_same]
        · have hh : hasN n e = false := by unfold hasN; simp [d2]
          simp +contextual (maxSteps := 3000000) only [↓code_skip, ↓code_seq, ↓code_region, ↓code_cond, ↓code_block, aCond_bool, ↓ops_nil, ↓ops_cons, run_none, run_someT, ↓run0_v, ↓seqK_normal, ↓blkK_normal, put_same, put_ne, ev_tmp, ev_const, oc_int, oc_bool, o_move, o_assign, o_pick, o_bin, o_len, o_load, o_nilCheck, o_fieldAddr, o_indexAddr, g_none, g_some, pick_bool, bin_add, bin_lss, bin_leq, nil_ptr, Option.bind_some, decide_eq_true_eq, ↓reduceIte, Nat.reduceEqDiff, not_false_eq_true, reduceCtorEq, List.getElem?_cons_zero, List.getElem?_cons_succ, List.getElem?_toArray, Bool.false_eq_true, ne_eq, fa_ptr T52 p52_1 (by decide), load_p1 T36 a36, loadc_def, fa_ptr T60 p60_0 (by decide), load_p1 T3 a3, fa_ptr T60 p60_1 (by decide), Nat.zero_add, Nat.add_zero, e0, e1, e6, c1, gt, hlen, g1, g2, g5, g6, d1, d2, c7]
          refine hnext (k - 1) _ _ (by omega) ⟨i + 1, by omega, ?_, ?_, ?_, ?_, ?_, ?_, ?_, ?_⟩
          · rfl
          · exact hno hh
          · omega
          · simp only [put_ne, not_false_eq_true, reduceCtorEq, ne_eq, e0]
          · simp only [put_ne, Nat.reduceEqDiff, not_false_eq_true, ne_eq, e1]
          · simp only [put_ne, Nat.reduceEqDiff, not_false_eq_true, ne_eq, e4]
          · simp only [put_ne, Nat.reduceEqDiff, not_false_eq_true, ne_eq, e5]
          · simp only [put_same]
      · have hh : hasN n e = false := by unfold hasN; simp [d1]
        simp +contextual (maxSteps := 3000000) only [↓code_skip, ↓code_seq, ↓code_region, ↓code_cond, ↓code_block, aCond_bool, ↓ops_nil, ↓ops_cons, run_none, run_someT, ↓run0_v, ↓seqK_normal, ↓blkK_normal, put_same, put_ne, ev_tmp, ev_const, oc_int, oc_bool, o_move, o_assign, o_pick, o_bin, o_len, o_load, o_nilCheck, o_fieldAddr, o_indexAddr, g_none, g_some, pick_bool, bin_add, bin_lss, bin_leq, nil_ptr, Option.bind_some, decide_eq_true_eq, ↓reduceIte, Nat.reduceEqDiff, not_false_eq_true, reduceCtorEq, List.getElem?_cons_zero, List.getElem?_cons_succ, List.getElem?_toArray, Bool.false_eq_true, ne_eq, fa_ptr T52 p52_1 (by decide), load_p1 T36 a36, loadc_def, fa_ptr T60 p60_0 (by decide), load_p1 T3 a3, Nat.zero_add, Nat.add_zero, e0, e1, e6, c1, gt, hlen, g1, g2, g5, d1, c7]
        refine hnext (k - 1) _ _ (by omega) ⟨i + 1, by omega, ?_, ?_, ?_, ?_, ?_, ?_, ?_, ?_⟩
        · rfl
        · exact hno hh
        · omega
        · simp only [put_ne, not_false_eq_true, reduceCtorEq, ne_eq, e0]
        · simp only [put_ne, Nat.reduceEqDiff, not_false_eq_true, ne_eq, e1]
        · simp only [put_ne, Nat.reduceEqDiff, not_false_eq_true, ne_eq, e4]
        · simp only [put_ne, Nat.reduceEqDiff, not_false_eq_true, ne_eq, e5]
        · simp only [put_same]
    · have c1 : ¬ (i : Int) < (es.length : Int) := by omega
      rw [List.take_of_length_le (by omega)] at hf
      have hw : wayV es n = .tup [.agg [.int .i64 0, .int .i64 0, .int .i64 0, .int .i64 0, .int .i64 0, .int .i64 0], .int .i64 2] := by unfold wayV; rw [hf]
      have hst := store_n (T := T) (t := 60) (b := h.next) (o := 0) (v := .agg [.int .i64 0, .int .i64 0, .int .i64 0, .int .i64 0, .int .i64 0, .int .i64 0]) (vs := [.int .i64 0, .int .i64 0, .int .i64 0, .int .i64 0, .int .i64 0, .int .i64 0]) T60 rfl (by rw [s60]; rfl) rfl kA (by simp)
      obtain ⟨hY, hhY⟩ : ∃ hY, hY = h'.put h.next (.cells (AH.splice [.int .i64 0, .int .i64 0, .int .i64 0, .int .i64 0, .int .i64 0, .int .i64 0] 0 [.int .i64 0, .int .i64 0, .int .i64 0, .int .i64 0, .int .i64 0, .int .i64 0]) .own) := ⟨_, rfl⟩
      rw [← hhY] at hst
      have kY : hY.get h.next = some (.cells [.int .i64 0, .int .i64 0, .int .i64 0, .int .i64 0, .int .i64 0, .int .i64 0] .own) := by rw [hhY, AH.get_put, if_pos rfl]; rfl
      simp +contextual (maxSteps := 3000000) only [↓code_seq, ↓code_region, ↓code_cond, ↓code_exit, aCond_bool, ↓ops_nil, ↓ops_cons, run_none, ↓run0_v, ↓seqK_normal, ↓seqK_exit, put_same, put_ne, ev_tmp, o_move, o_bin, o_len, o_load, o_nilCheck, o_fieldAddr, g_none, bin_lss, nil_ptr, decide_eq_true_eq, ↓reduceIte, Nat.reduceEqDiff, not_false_eq_true, Nat.reduceAdd, reduceCtorEq, List.getElem?_cons_zero, List.getElem?_cons_succ, ne_eq, fa_ptr T52 p52_1 (by decide), load_p1 T36 a36, loadc_def, e0, e6, c1, gt, hlen]
      refine hexit _ _ _ (by simp) ⟨hY, ?_, (by rw [hhY]; exact gA.1), fun c hc => ?_⟩
      · simp +contextual (maxSteps := 3000000) only [↓code_seq, ↓code_region, ↓code_ret, ↓ops_nil, ↓ops_cons, run_none, ↓run0_v, ↓run0_h, ↓seqK_normal, ↓blkK_exit, ↓retK_ret, put_same, put_ne, put_none, ev_tmp, ev_const, oc_int, o_assign, o_build, o_store, g_none, resultsOf, oneOrAll, Option.bind_some, Option.map_some, ↓reduceIte, Nat.reduceEqDiff, not_false_eq_true, Nat.reduceAdd, List.map_nil, Nat.le_refl, ne_eq, z60, load_pA T60 a60, s60, loadn_def, build_struct T60 d60, parts_eq, fillA, List.take_succ_cons, List.take_nil, List.drop_zero, List.length_cons, List.length_nil, List.length_cons, List.length_nil, List.drop_zero, List.take_succ_cons, List.take_nil, Nat.zero_add, e4, hst, kY, hw]
      · rw [hhY, AH.get_put, if_neg (by omega), gA.2 c hc]
  · refine ⟨0, by omega, ?_, ?_, ?_, ?_, ?_, ?_, ?_, ?_⟩
    · rfl
    · rfl
    · omega
    · simp only [put_ne, env0_at, Option.getD_some, not_false_eq_true, reduceCtorEq, List.getElem?_cons_zero, ne_eq]
    · simp only [put_ne, env0_at, Option.getD_some, Nat.reduceEqDiff, not_false_eq_true, List.getElem?_cons_zero, List.getElem?_cons_succ, ne_eq]
    · simp only [put_same, put_ne, Nat.reduceEqDiff, not_false_eq_true, ne_eq]
    · simp only [put_same, put_ne, Nat.reduceEqDiff, not_false_eq_true, ne_eq]
    · simp only [put_same]; rfl
end Go.AM.X
