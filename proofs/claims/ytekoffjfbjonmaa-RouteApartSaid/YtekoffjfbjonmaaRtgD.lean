/- Tables of routes: the way to a network, what is told at a port. Own work. -/
import Derived.Test.YtekoffjfbjonmaaRtgC
namespace Go.AM.X
open Go Go.AM Go.Proofs Go.AM.Sx
set_option maxHeartbeats 3200000
set_option maxRecDepth 100000
set_option linter.unusedVariables false
theorem run34 {I : Nat → Option (List AV → AH → Rs)} (h71 : I 71 = none) (h34 : I 34 = none) (m t : Nat) (n : Int) (ps : List Pt) (es : List E6) (off : Nat → Prop) (h : AH) (hT : TbV true h t ps es off) (hn : es.length ≤ m ∧ es.length ≤ 100000000) :
    ∃ h2, call F I T (m + 20) 34 [.ptr t 0, .int .i64 n] h = some (wayV es n, h2) ∧ Grow h h2 := by
  obtain ⟨pv, ev, hTb, rfl, hs⟩ := hT
  obtain ⟨hA, hhA⟩ : ∃ hA, hA = h.alloc (.cells [.int .i64 0, .int .i64 0, .int .i64 0, .int .i64 0, .int .i64 0, .int .i64 0] .own) := ⟨_, rfl⟩
  have gA : Grow h hA := by rw [hhA]; exact Grow.alloc _ _
  have nA : hA.next = h.next + 1 := by rw [hhA]; rfl
  have kA : hA.get h.next = some (.cells [.int .i64 0, .int .i64 0, .int .i64 0, .int .i64 0, .int .i64 0, .int .i64 0] .own) := by rw [hhA, AH.get_alloc, if_pos rfl]
  have hTA := hTb.grow gA
  have c71 := fun m => run71 h71 m t pv ev ps es hA hTA (hs rfl)
  have gt := hTA.g
  have hlen : ∀ h, aLen T 36 ev h = some (.int .i64 (es.length : Nat)) := fun h => hTb.e.len T36 d36
  rw [call_F (by decide) h34 F34 rfl R34]; simp only [Try.f34, Option.getD]
  simp +contextual (maxSteps := 3000000) only [↓code_skip, ↓code_seq, ↓code_region, ↓code_cond, ↓code_block, ↓code_loop, aCond_bool, ↓ops_nil, ↓ops_cons, run_none, ↓run0_v, ↓run0_r, ↓seqK_normal, put_same, put_ne, env0_at, ev_tmp, ev_const, ev_func, oc_int, o_move, o_assign, o_call, o_len, o_alloc, o_load, o_nilCheck, o_fieldAddr, g_none, nil_ptr, Option.getD_some, ↓reduceIte, not_false_eq_true, Nat.reduceAdd, reduceCtorEq, List.getElem?_cons_zero, List.getElem?_cons_succ, Bool.false_eq_true, List.map_cons, List.map_nil, List.append_nil, List.nil_append, ne_eq, alloc_t T60, z60, fa_ptr T83 p83_1 (by decide), load_p1 T36 a36, loadc_def, ← hhA, c71, gt, hlen, callV_fn (g := 71) (by decide)]
  refine iterL_wp (Q := fun r => ∃ h2, r = some (wayV es n, h2) ∧ Grow h h2) (N := es.length) (Inv := fun k e h' => ∃ i, k + i = es.length ∧ Grow hA h' ∧ (es.take i).find? (hasN n) = none ∧ i ≤ es.length ∧ e 1 = .int .i64 n ∧ e 4 = .ptr h.next 0 ∧ e 5 = .int .i64 0 ∧ e 14 = ev ∧ e 15 = .int .i64 (es.length : Nat) ∧ e 16 = .int .i64 (i : Nat)) ?_ ?_ (by omega)
  · rintro k e h' K' ⟨i, hk, hg, hf, hil, e1, e4, e5, e14, e15, e16⟩ hnext hexit
    have kA' : h'.get h.next = some (.cells [.int .i64 0, .int .i64 0, .int .i64 0, .int .i64 0, .int .i64 0, .int .i64 0] .own) := by rw [hg.2 _ (by omega)]; exact kA
    by_cases hi : i < es.length
    · have c1 : (i : Int) < (es.length : Int) := by omega
      obtain ⟨e, he⟩ : ∃ e, es[i]? = some e := ⟨es[i], List.getElem?_eq_getElem hi⟩
      obtain ⟨b, cs, bk, g1, g2, g3, g4⟩ := loadE (hTA.grow hg).e he
      obtain ⟨hz, y1, y2, y3, y4⟩ := store_e h' e
      have hgz := hg.trans y4
      have kz : hz.get h.next = some (.cells [.int .i64 0, .int .i64 0, .int .i64 0, .int .i64 0, .int .i64 0, .int .i64 0] .own) := by rw [hgz.2 _ (by omega)]; exact kA
      have c7 : IntKind.i64.wrap ((i : Int) + 1) = ((i + 1 : Nat) : Int) := by rw [wrap_i64 (by omega) (by omega)]; rfl
      have htk : (es.take (i + 1)).find? (hasN n) = if hasN n e = true then some e else none := by
        rw [List.take_add_one, he, List.find?_append, hf]
        cases hh : hasN n e <;> simp [hh]
      have hfin : hasN n e = true → es.find? (hasN n) = some e := fun hh => by
        rw [hh, if_pos rfl] at htk
        rw [← List.take_append_drop (i + 1) es, List.find?_append, htk]; rfl
      have hno : hasN n e = false → (es.take (i + 1)).find? (hasN n) = none := fun hh => by rw [htk, hh]; rfl
      by_cases d1 : e.lo ≤ n
      · by_cases d2 : n ≤ e.hi
        · by_cases d3 : e.st < 2
          · have hh : hasN n e = true := by unfold hasN; simp [d1, d2, d3]
            have hw : wayV es n = .tup [.agg [.int .i64 e.lo, .int .i64 e.hi, .int .i64 e.di, .int .i64 e.po, .int .i64 e.nx, .int .i64 e.st], .int .i64 0] := by unfold wayV; rw [hfin hh]
            have hst := store_n (T := T) (t := 60) (b := h.next) (o := 0) (v := .agg [.int .i64 e.lo, .int .i64 e.hi, .int .i64 e.di, .int .i64 e.po, .int .i64 e.nx, .int .i64 e.st]) (vs := [.int .i64 e.lo, .int .i64 e.hi, .int .i64 e.di, .int .i64 e.po, .int .i64 e.nx, .int .i64 e.st]) T60 rfl (by rw [s60]; rfl) rfl kz (by simp)
            obtain ⟨hY, hhY⟩ : ∃ hY, hY = hz.put h.next (.cells (AH.splice [.int .i64 0, .int .i64 0, .int .i64 0, .int .i64 0, .int .i64 0, .int .i64 0] 0 [.int .i64 e.lo, .int .i64 e.hi, .int .i64 e.di, .int .i64 e.po, .int .i64 e.nx, .int .i64 e.st]) .own) := ⟨_, rfl⟩
            rw [← hhY] at hst
            have kY : hY.get h.next = some (.cells [.int .i64 e.lo, .int .i64 e.hi, .int .i64 e.di, .int .i64 e.po, .int .i64 e.nx, .int .i64 e.st] .own) := by rw [hhY, AH.get_put, if_pos rfl]; rfl
            simp +contextual (maxSteps := 3000000) only [↓code_skip, ↓code_seq, ↓code_region, ↓code_cond, ↓code_block, ↓code_ret, aCond_bool, ↓ops_nil, ↓ops_cons, run_none, run_someT, ↓run0_v, ↓run0_h, ↓run0_r, ↓seqK_normal, ↓seqK_ret, ↓blkK_ret, put_same, put_ne, put_none, ev_tmp, ev_const, oc_int, oc_bool, o_move, o_assign, o_pick, o_bin, o_alloc, o_load, o_store, o_fieldAddr, o_indexAddr, g_none, g_some, pick_bool, bin_lss, bin_leq, bin_geq, Option.bind_some, Option.map_some, decide_eq_true_eq, ↓reduceIte, Nat.reduceEqDiff, not_false_eq_true, Nat.reduceAdd, List.getElem?_cons_zero, List.getElem?_cons_succ, List.getElem?_toArray, Nat.le_refl, ge_iff_le, ne_eq, alloc_t T60, z60, List.take_succ_cons, List.take_nil, List.drop_zero, List.length_cons, List.length_nil, loadc_def, load_pA T60 a60, s60, loadn_def, fa_ptr T60 p60_0 (by decide), load_p1 T3 a3, fa_ptr T60 p60_1 (by decide), fa_ptr T60 p60_5 (by decide), List.length_cons, List.length_nil, List.drop_zero, List.take_succ_cons, List.take_nil, Nat.zero_add, Nat.add_zero, e1, e4, e14, e15, e16, c1, g1, g2, g3, g4, y1, y3, d1, d2, d3, hst]
            refine hexit _ _ _ (by simp) ⟨hY, ?_, (by rw [hhY]; exact (gA.trans hgz).1), fun c hc => ?_⟩
            · simp +contextual (maxSteps := 3000000) only [↓seqK_ret, ↓blkK_ret, ↓retK_ret, put_same, put_ne, resultsOf, oneOrAll, Option.bind_some, Option.map_some, ↓reduceIte, Nat.reduceEqDiff, not_false_eq_true, Nat.reduceAdd, Nat.le_refl, ne_eq, List.take_succ_cons, List.take_nil, List.drop_zero, List.length_cons, List.length_nil, load_pA T60 a60, s60, loadn_def, List.length_cons, List.length_nil, List.drop_zero, List.take_succ_cons, List.take_nil, Nat.zero_add, e4, kY, hw]
            · rw [hhY, AH.get_put, if_neg (by omega), hgz.2 c (by omega), gA.2 c hc]
          · have hh : hasN n e = false := by unfold hasN; simp [d3]
            simp +contextual (maxSteps := 3000000) only [↓code_skip, ↓code_seq, ↓code_region, ↓code_cond, ↓code_block, aCond_bool, ↓ops_nil, ↓ops_cons, run_none, run_someT, ↓run0_v, ↓run0_h, ↓run0_r, ↓seqK_normal, ↓blkK_normal, put_same, put_ne, put_none, ev_tmp, ev_const, oc_int, oc_bool, o_move, o_pick, o_bin, o_alloc, o_load, o_store, o_fieldAddr, o_indexAddr, g_none, g_some, pick_bool, bin_add, bin_lss, bin_leq, bin_geq, Option.bind_some, Option.map_some, decide_eq_true_eq, ↓reduceIte, Nat.reduceEqDiff, not_false_eq_true, List.getElem?_cons_zero, List.getElem?_cons_succ, List.getElem?_toArray, ge_iff_le, ne_eq, alloc_t T60, z60, loadc_def, load_pA T60 a60, s60, loadn_def, fa_ptr T60 p60_0 (by decide), load_p1 T3 a3, fa_ptr T60 p60_1 (by decide), fa_ptr T60 p60_5 (by decide), Nat.zero_add, Nat.add_zero, e1, e14, e15, e16, c1, g1, g2, g3, g4, y1, y3, d1, d2, d3, c7]
            refine hnext (k - 1) _ _ (by omega) ⟨i + 1, by omega, ?_, ?_, ?_, ?_, ?_, ?_, ?_, ?_, ?_⟩
            · exact hgz
            · exact hno hh
            · omega
            · simp only [put_ne, Nat.reduceEqDiff, not_false_eq_true, ne_eq, e1]
            · simp only [put_ne, Nat.reduceEqDiff, not_false_eq_true, ne_eq, e4]
            · simp only [put_ne, Nat.reduceEqDiff, not_false_eq_true, ne_eq, e5]
            · simp only [put_ne, Nat.reduceEqDiff, not_false_eq_true, ne_eq, e14]
            · simp only [put_ne, Nat.reduceEqDiff, not_false_eq_true, ne_eq, e15]
            · simp only [put_same]
        · have hh : hasN n e = false := by unfold hasN; simp [d2]
          simp +contextual (maxSteps := 3000000) only [↓code_skip, ↓code_seq, ↓code_region, ↓code_cond, ↓code_block, aCond_bool, ↓ops_nil, ↓ops_cons, run_none, run_someT, ↓run0_v, ↓run0_h, ↓run0_r, ↓seqK_normal, ↓blkK_normal, put_same, put_ne, put_none, ev_tmp, ev_const, oc_int, oc_bool, o_move, o_pick, o_bin, o_alloc, o_load, o_store, o_fieldAddr, o_indexAddr, g_none, g_some, pick_bool, bin_add, bin_lss, bin_leq, bin_geq, Option.bind_some, Option.map_some, decide_eq_true_eq, ↓reduceIte, Nat.reduceEqDiff, not_false_eq_true, List.getElem?_cons_zero, List.getElem?_cons_succ, List.getElem?_toArray, Bool.false_eq_true, ge_iff_le, ne_eq, alloc_t T60, z60, loadc_def, load_pA T60 a60, s60, loadn_def, fa_ptr T60 p60_0 (by decide), load_p1 T3 a3, fa_ptr T60 p60_1 (by decide), fa_ptr T60 p60_5 (by decide), Nat.zero_add, Nat.add_zero, e1, e14, e15, e16, c1, g1, g2, g3, g4, y1, y3, d1, d2, c7]
          refine hnext (k - 1) _ _ (by omega) ⟨i + 1, by omega, ?_, ?_, ?_, ?_, ?_, ?_, ?_, ?_, ?_⟩
          · exact hgz
          · exact hno hh
          · omega
          · simp only [put_ne, Nat.reduceEqDiff, not_false_eq_true, ne_eq, e1]
          · simp only [put_ne, Nat.reduceEqDiff, not_false_eq_true, ne_eq, e4]
          · simp only [put_ne, Nat.reduceEqDiff, not_false_eq_true, ne_eq, e5]
          · simp only [put_ne, Nat.reduceEqDiff, not_false_eq_true, ne_eq, e14]
          · simp only [put_ne, Nat.reduceEqDiff, not_false_eq_true, ne_eq, e15]
          · simp only [put_same]
      · have hh : hasN n e = false := by unfold hasN; simp [d1]
        simp +contextual (maxSteps := 3000000) only [↓code_skip, ↓code_seq, ↓code_region, ↓code_cond, ↓code_block, aCond_bool, ↓ops_nil, ↓ops_cons, run_none, run_someT, ↓run0_v, ↓run0_h, ↓run0_r, ↓seqK_normal, ↓blkK_normal, put_same, put_ne, put_none, ev_tmp, ev_const, oc_int, oc_bool, o_move, o_pick, o_bin, o_alloc, o_load, o_store, o_fieldAddr, o_indexAddr, g_none, g_some, pick_bool, bin_add, bin_lss, bin_geq, Option.bind_some, Option.map_some, decide_eq_true_eq, ↓reduceIte, Nat.reduceEqDiff, not_false_eq_true, List.getElem?_cons_zero, List.getElem?_cons_succ, List.getElem?_toArray, Bool.false_eq_true, ge_iff_le, ne_eq, alloc_t T60, z60, loadc_def, load_pA T60 a60, s60, loadn_def, fa_ptr T60 p60_0 (by decide), load_p1 T3 a3, fa_ptr T60 p60_1 (by decide), fa_ptr T60 p60_5 (by decide), Nat.zero_add, Nat.add_zero, e1, e14, e15, e16, c1, g1, g2, g3, g4, y1, y3, d1, c7]
        refine hnext (k - 1) _ _ (by omega) ⟨i + 1, by omega, ?_, ?_, ?_, ?_, ?_, ?_, ?_, ?_, ?_⟩
        · exact hgz
        · exact hno hh
        · omega
        · simp only [put_ne, Nat.reduceEqDiff, not_false_eq_true, ne_eq, e1]
        · simp only [put_ne, Nat.reduceEqDiff, not_false_eq_true, ne_eq, e4]
        · simp only [put_ne, Nat.reduceEqDiff, not_false_eq_true, ne_eq, e5]
        · simp only [put_ne, Nat.reduceEqDiff, not_false_eq_true, ne_eq, e14]
        · simp only [put_ne, Nat.reduceEqDiff, not_false_eq_true, ne_eq, e15]
        · simp only [put_same]
    · have c1 : ¬ (i : Int) < (es.length : Int) := by omega
      rw [List.take_of_length_le (by omega)] at hf
      have hw : wayV es n = .tup [.agg [.int .i64 0, .int .i64 0, .int .i64 0, .int .i64 0, .int .i64 0, .int .i64 0], .int .i64 2] := by unfold wayV; rw [hf]
      have hst := store_n (T := T) (t := 60) (b := h.next) (o := 0) (v := .agg [.int .i64 0, .int .i64 0, .int .i64 0, .int .i64 0, .int .i64 0, .int .i64 0]) (vs := [.int .i64 0, .int .i64 0, .int .i64 0, .int .i64 0, .int .i64 0, .int .i64 0]) T60 rfl (by rw [s60]; rfl) rfl kA' (by simp)
      obtain ⟨hY, hhY⟩ : ∃ hY, hY = h'.put h.next (.cells (AH.splice [.int .i64 0, .int .i64 0, .int .i64 0, .int .i64 0, .int .i64 0, .int .i64 0] 0 [.int .i64 0, .int .i64 0, .int .i64 0, .int .i64 0, .int .i64 0, .int .i64 0]) .own) := ⟨_, rfl⟩
      rw [← hhY] at hst
      have kY : hY.get h.next = some (.cells [.int .i64 0, .int .i64 0, .int .i64 0, .int .i64 0, .int .i64 0, .int .i64 0] .own) := by rw [hhY, AH.get_put, if_pos rfl]; rfl
      simp +contextual (maxSteps := 3000000) only [↓code_seq, ↓code_region, ↓code_cond, ↓code_exit, aCond_bool, ↓ops_nil, ↓ops_cons, run_none, ↓run0_v, ↓seqK_normal, ↓seqK_exit, put_same, ev_tmp, o_bin, g_none, bin_lss, decide_eq_true_eq, ↓reduceIte, e15, e16, c1]
      refine hexit _ _ _ (by simp) ⟨hY, ?_, (by rw [hhY]; exact (gA.trans hg).1), fun c hc => ?_⟩
      · simp +contextual (maxSteps := 3000000) only [↓code_seq, ↓code_region, ↓code_ret, ↓ops_nil, ↓ops_cons, run_none, ↓run0_v, ↓run0_h, ↓seqK_normal, ↓blkK_exit, ↓retK_ret, put_same, put_ne, put_none, ev_tmp, ev_const, oc_int, o_assign, o_build, o_store, g_none, resultsOf, oneOrAll, Option.bind_some, Option.map_some, ↓reduceIte, Nat.reduceEqDiff, not_false_eq_true, Nat.reduceAdd, List.map_nil, Nat.le_refl, ne_eq, z60, build_struct T60 d60, parts_eq, fillA, List.take_succ_cons, List.take_nil, List.drop_zero, List.length_cons, List.length_nil, load_pA T60 a60, s60, loadn_def, List.length_cons, List.length_nil, List.drop_zero, List.take_succ_cons, List.take_nil, Nat.zero_add, e4, hst, kY, hw]
      · rw [hhY, AH.get_put, if_neg (by omega), hg.2 c (by omega), gA.2 c hc]
  · refine ⟨0, by omega, ?_, ?_, ?_, ?_, ?_, ?_, ?_, ?_, ?_⟩
    · exact Grow.refl _
    · rfl
    · omega
    · simp only [put_ne, env0_at, Option.getD_some, Nat.reduceEqDiff, not_false_eq_true, List.getElem?_cons_zero, List.getElem?_cons_succ, ne_eq]
    · simp only [put_same, put_ne, Nat.reduceEqDiff, not_false_eq_true, ne_eq]
    · simp only [put_same, put_ne, Nat.reduceEqDiff, not_false_eq_true, ne_eq]
    · simp only [put_same, put_ne, Nat.reduceEqDiff, not_false_eq_true, ne_eq]
    · simp only [put_same, put_ne, Nat.reduceEqDiff, not_false_eq_true, ne_eq]
    · simp only [put_same]; rfl
/-- A tuple. -/
structure Tp where
  lo : Int
  hi : Int
  di : Int
  deriving DecidableEq
def Tp.av (x : Tp) : List AV := [.int .i64 x.lo, .int .i64 x.hi, .int .i64 x.di]
theorem Tp.len (x : Tp) : x.av.length = 3 := rfl
theorem Tp.one (x : Tp) : x.av.all AV.one = true := rfl
theorem store_t (h : AH) (x : Tp) : ∃ h2, aStore T 62 (.ptr h.next 0) (.agg [.int .i64 x.lo, .int .i64 x.hi, .int .i64 x.di]) (h.alloc (.cells [.int .i64 0, .int .i64 0, .int .i64 0] .own)) = some h2 ∧ h2.next = h.next + 1 ∧ h2.get h.next = some (.cells [.int .i64 x.lo, .int .i64 x.hi, .int .i64 x.di] .own) ∧ Grow h h2 := by
  have h1 := store_n (T := T) (t := 62) (b := h.next) (o := 0) (v := .agg x.av) (vs := x.av) (h := h.alloc (.cells [.int .i64 0, .int .i64 0, .int .i64 0] .own)) (cs := [.int .i64 0, .int .i64 0, .int .i64 0]) T62 rfl (by rw [s62]; rfl) rfl (by rw [AH.get_alloc, if_pos rfl]) (by simp [Tp.len])
  refine ⟨_, h1, by simp, by rw [AH.get_put, if_pos rfl]; rfl, by simp, fun c hc => ?_⟩
  rw [AH.get_put, if_neg (by omega), AH.get_alloc, if_neg (by omega)]
def tellT (e : E6) : Tp := ⟨e.lo, e.hi, if 2 ≤ e.st then 31 else e.di⟩
def tellL (es : List E6) (n : Int) : List Tp := (es.filter fun e => !decide (e.po = n)).map tellT
def tellR (ps : List Pt) (es : List E6) (n : Int) : List Tp × Int :=
  if n < 1 ∨ (ps.length : Int) < n then ([], 2)
  else match ps[(n - 1).toNat]? with
    | none => ([], 2)
    | some p => if p.up = true then (tellL es n, 0) else ([], 0)
theorem run32 {I : Nat → Option (List AV → AH → Rs)} (h71 : I 71 = none) (h32 : I 32 = none) (m t : Nat) (n : Int) (ps : List Pt) (es : List E6) (off : Nat → Prop) (h : AH) (hT : TbV true h t ps es off) (hn : es.length ≤ m ∧ es.length ≤ 100000000) (hpl : ps.length ≤ 20) :
    ∃ v h2, call F I T (m + 20) 32 [.ptr t 0, .int .i64 n] h = some (.tup [v, .int .i64 (tellR ps es n).2], h2) ∧ RowC 3 h2 v (tellR ps es n).1.length (fl Tp.av (tellR ps es n).1) ∧ Fresh h v ∧ Grow h h2 := by
  obtain ⟨pv, ev, hTb, rfl, hs⟩ := hT
  have c71 := fun m => run71 h71 m t pv ev ps es h hTb (hs rfl)
  have gt := hTb.g
  have hlenp : ∀ h, aLen T 81 pv h = some (.int .i64 (ps.length : Nat)) := fun h => hTb.p.len T81 d81
  have hlen : ∀ h, aLen T 36 ev h = some (.int .i64 (es.length : Nat)) := fun h => hTb.e.len T36 d36
  have hnil : ∀ l : List Tp, l = [] → RowC 3 h .nils l.length (fl Tp.av l) ∧ Fresh h .nils ∧ Grow h h := fun l hl => by
    subst hl; exact ⟨RowC.nil _ _, (fun _ _ _ _ _ _ e => by cases e), Grow.refl h⟩
  by_cases c1 : n < 1
  · have hR : tellR ps es n = ([], 2) := by unfold tellR; rw [if_pos (.inl c1)]
    rw [hR]
    refine ⟨.nils, h, ?_, hnil _ rfl⟩
    rw [call_F (by decide) h32 F32 rfl R32]; simp only [Try.f32, Option.getD]
    simp +contextual (maxSteps := 3000000) only [↓code_seq, ↓code_region, ↓code_cond, ↓code_block, ↓code_ret, aCond_bool, ↓ops_nil, ↓ops_cons, run_none, run_someF, ↓run0_v, ↓run0_r, ↓seqK_normal, ↓seqK_ret, ↓blkK_ret, ↓retK_ret, put_same, put_ne, env0_at, ev_tmp, ev_const, ev_func, oc_int, oc_bool, oc_nils, o_move, o_assign, o_pick, o_bin, o_call, o_len, o_load, o_nilCheck, o_fieldAddr, g_none, g_some, pick_bool, bin_lss, resultsOf, oneOrAll, Option.bind_some, Option.map_some, Option.getD_some, decide_eq_true_eq, ↓reduceIte, Nat.reduceEqDiff, not_false_eq_true, reduceCtorEq, List.getElem?_cons_zero, List.getElem?_cons_succ, List.getElem?_toArray, Bool.false_eq_true, List.map_cons, List.map_nil, List.append_nil, List.nil_append, ne_eq, c71, c1, callV_fn (g := 71) (by decide)]
  by_cases c2 : (ps.length : Int) < n
  · have hR : tellR ps es n = ([], 2) := by unfold tellR; rw [if_pos (.inr c2)]
    rw [hR]
    refine ⟨.nils, h, ?_, hnil _ rfl⟩
    rw [call_F (by decide) h32 F32 rfl R32]; simp only [Try.f32, Option.getD]
    simp +contextual (maxSteps := 3000000) only [↓code_seq, ↓code_region, ↓code_cond, ↓code_block, ↓code_ret, aCond_bool, ↓ops_nil, ↓ops_cons, run_none, run_someF, ↓run0_v, ↓run0_r, ↓seqK_normal, ↓seqK_ret, ↓blkK_ret, ↓retK_ret, put_same, put_ne, env0_at, ev_tmp, ev_const, ev_func, oc_int, oc_bool, oc_nils, o_move, o_assign, o_pick, o_bin, o_call, o_len, o_load, o_nilCheck, o_fieldAddr, g_none, g_some, pick_bool, bin_lss, bin_gtr, nil_ptr, resultsOf, oneOrAll, Option.bind_some, Option.map_some, Option.getD_some, decide_eq_true_eq, ↓reduceIte, Nat.reduceEqDiff, not_false_eq_true, Nat.reduceAdd, reduceCtorEq, List.getElem?_cons_zero, List.getElem?_cons_succ, List.getElem?_toArray, Bool.false_eq_true, List.map_cons, List.map_nil, List.append_nil, List.nil_append, gt_iff_lt, ne_eq, fa_ptr T83 p83_0 (by decide), load_p1 T81 a81, loadc_def, c71, c1, gt, hlenp, c2, callV_fn (g := 71) (by decide)]
  obtain ⟨i, hi⟩ : ∃ i : Nat, n = ((i + 1 : Nat) : Int) := ⟨(n - 1).toNat, by omega⟩
  have hil : i < ps.length := by omega
  obtain ⟨p, hp⟩ : ∃ p, ps[i]? = some p := ⟨ps[i], List.getElem?_eq_getElem hil⟩
  have hnt : (n - 1).toNat = i := by omega
  have hR : tellR ps es n = if p.up = true then (tellL es n, 0) else ([], 0) := by
    unfold tellR; rw [if_neg (by rintro (h | h) <;> contradiction), hnt, hp]
  have c9 : IntKind.i64.wrap (n - 1) = (i : Int) := by rw [wrap_i64 (by omega) (by omega)]; omega
  obtain ⟨b, cs, bk, w1, w2, w3, w4⟩ := loadP hTb.p hp
  have w5 := congrArg (fun l => l[2]?) w4
  simp [List.getElem?_drop] at w5
  cases hu : p.up
  · rw [hu] at w5
    rw [hR, hu, if_neg (by simp)]
    refine ⟨.nils, h, ?_, hnil _ rfl⟩
    rw [call_F (by decide) h32 F32 rfl R32]; simp only [Try.f32, Option.getD]
    simp +contextual (maxSteps := 3000000) only [↓code_seq, ↓code_region, ↓code_cond, ↓code_block, ↓code_ret, aCond_bool, ↓ops_nil, ↓ops_cons, run_none, run_someF, ↓run0_v, ↓run0_r, ↓seqK_normal, ↓seqK_ret, ↓blkK_ret, ↓retK_ret, put_same, put_ne, env0_at, ev_tmp, ev_const, ev_func, oc_int, oc_bool, oc_nils, o_move, o_assign, o_pick, o_bin, o_call, o_len, o_load, o_nilCheck, o_un, o_fieldAddr, o_indexAddr, g_none, g_some, pick_bool, bin_sub, bin_lss, bin_gtr, un_not, nil_ptr, resultsOf, oneOrAll, Option.bind_some, Option.map_some, Option.getD_some, decide_eq_true_eq, ↓reduceIte, Nat.reduceEqDiff, not_false_eq_true, Nat.reduceAdd, reduceCtorEq, List.getElem?_cons_zero, List.getElem?_cons_succ, List.getElem?_toArray, Bool.false_eq_true, List.map_cons, List.map_nil, List.append_nil, List.nil_append, gt_iff_lt, Bool.not_false, ne_eq, fa_ptr T83 p83_0 (by decide), load_p1 T81 a81, loadc_def, fa_ptr T105 p105_2 (by decide), load_p1 T4 a4, c71, c1, gt, hlenp, c2, c9, w1, w2, w5, callV_fn (g := 71) (by decide)]
  rw [hu] at w5
  rw [hR, hu, if_pos rfl]
  simp only
  rw [call_F (by decide) h32 F32 rfl R32]; simp only [Try.f32, Option.getD]
  simp +contextual (maxSteps := 3000000) only [↓code_skip, ↓code_seq, ↓code_region, ↓code_cond, ↓code_block, ↓code_loop, aCond_bool, ↓ops_nil, ↓ops_cons, run_none, run_someF, ↓run0_v, ↓run0_r, ↓seqK_normal, ↓blkK_normal, put_same, put_ne, env0_at, ev_tmp, ev_const, ev_func, oc_int, oc_bool, oc_nils, o_move, o_assign, o_pick, o_bin, o_call, o_len, o_load, o_nilCheck, o_un, o_fieldAddr, o_indexAddr, g_none, g_some, pick_bool, bin_sub, bin_lss, bin_gtr, un_not, nil_ptr, Option.bind_some, Option.getD_some, decide_eq_true_eq, ↓reduceIte, Nat.reduceEqDiff, not_false_eq_true, Nat.reduceAdd, reduceCtorEq, List.getElem?_cons_zero, List.getElem?_cons_succ, List.getElem?_toArray, Bool.false_eq_true, List.map_cons, List.map_nil, List.append_nil, List.nil_append, gt_iff_lt, Bool.not_true, ne_eq, fa_ptr T83 p83_0 (by decide), load_p1 T81 a81, loadc_def, fa_ptr T105 p105_2 (by decide), load_p1 T4 a4, fa_ptr T83 p83_1 (by decide), load_p1 T36 a36, c71, c1, gt, hlenp, hlen, c2, c9, w1, w2, w5, callV_fn (g := 71) (by decide)]
  refine iterL_wp (Q := fun r => ∃ v h2, r = some (.tup [v, .int .i64 0], h2) ∧ RowC 3 h2 v (tellL es n).length (fl Tp.av (tellL es n)) ∧ Fresh h v ∧ Grow h h2) (N := es.length) (Inv := fun k e h' => ∃ k1 v, k + k1 = es.length ∧ RowC 3 h' v (tellL (es.take k1) n).length (fl Tp.av (tellL (es.take k1) n)) ∧ Fresh h v ∧ Grow h h' ∧ k1 ≤ es.length ∧ e 1 = .int .i64 n ∧ e 5 = .int .i64 0 ∧ e 6 = v ∧ e 39 = ev ∧ e 40 = .int .i64 (es.length : Nat) ∧ e 41 = .int .i64 (k1 : Nat)) ?_ ?_ (by omega)
  · rintro k e h' K' ⟨k1, v, hk, hr, hf, hg, hkl, e1, e5, e6, e39, e40, e41⟩ hnext hexit
    by_cases hk1 : k1 < es.length
    · have d1 : (k1 : Int) < (es.length : Int) := by omega
      obtain ⟨e, he⟩ : ∃ e, es[k1]? = some e := ⟨es[k1], List.getElem?_eq_getElem hk1⟩
      obtain ⟨be, ce, ke, g1, g2, g3, g4⟩ := loadE (hTb.grow hg).e he
      obtain ⟨hz, y1, y2, y3, y4⟩ := store_e h' e
      have hgz := hg.trans y4
      have c7 : IntKind.i64.wrap ((k1 : Int) + 1) = ((k1 + 1 : Nat) : Int) := by rw [wrap_i64 (by omega) (by omega)]; rfl
      by_cases d2 : e.po = n
      · have htk : tellL (es.take (k1 + 1)) n = tellL (es.take k1) n := by unfold tellL; rw [List.take_add_one, he]; simp [d2]
        simp +contextual (maxSteps := 3000000) only [↓code_skip, ↓code_seq, ↓code_region, ↓code_cond, ↓code_block, ↓code_exit, aCond_bool, ↓ops_nil, ↓ops_cons, run_none, ↓run0_v, ↓run0_h, ↓run0_r, ↓seqK_normal, ↓seqK_exit, ↓blkK_exit, put_same, put_ne, put_none, ev_tmp, ev_const, oc_int, o_move, o_bin, o_alloc, o_load, o_store, o_fieldAddr, o_indexAddr, g_none, bin_add, bin_eql, bin_lss, Option.map_some, decide_eq_true_eq, ↓reduceIte, Nat.reduceEqDiff, not_false_eq_true, List.getElem?_cons_zero, List.getElem?_cons_succ, ne_eq, loadc_def, load_pA T60 a60, s60, loadn_def, alloc_t T60, z60, fa_ptr T60 p60_3 (by decide), load_p1 T3 a3, run0_h, Nat.zero_add, e1, e39, e40, e41, d1, g1, g2, g3, g4, y1, y3, eq_true d2, c7]
        refine hnext (k - 1) _ _ (by omega) ⟨k1 + 1, v, by omega, ?_, ?_, ?_, ?_, ?_, ?_, ?_, ?_, ?_, ?_⟩
        · (rw [htk]; exact hr.grow y4)
        · exact hf
        · exact hgz
        · omega
        · simp only [put_ne, Nat.reduceEqDiff, not_false_eq_true, ne_eq, e1]
        · simp only [put_ne, Nat.reduceEqDiff, not_false_eq_true, ne_eq, e5]
        · simp only [put_ne, Nat.reduceEqDiff, not_false_eq_true, ne_eq, e6]
        · simp only [put_ne, Nat.reduceEqDiff, not_false_eq_true, ne_eq, e39]
        · simp only [put_ne, Nat.reduceEqDiff, not_false_eq_true, ne_eq, e40]
        · simp only [put_same]
      · have htk : tellL (es.take (k1 + 1)) n = tellL (es.take k1) n ++ [tellT e] := by unfold tellL; rw [List.take_add_one, he]; simp [d2]
        have hll : (tellL (es.take k1) n).length ≤ es.length := by
          unfold tellL; rw [List.length_map]
          have := List.length_filter_le (fun e => !decide (e.po = n)) (es.take k1)
          rw [List.length_take] at this; omega
        obtain ⟨hx, x1, x2, x3, x4⟩ := store_t hz ⟨e.lo, e.hi, e.di⟩
        have y3x : hx.get h'.next = some (.cells [.int .i64 e.lo, .int .i64 e.hi, .int .i64 e.di, .int .i64 e.po, .int .i64 e.nx, .int .i64 e.st] .own) := by rw [x4.2 _ (by omega)]; exact y3
        simp only at x1 x3
        by_cases d3 : 2 ≤ e.st
        · have ht : tellT e = ⟨e.lo, e.hi, 31⟩ := by unfold tellT; rw [if_pos d3]
          obtain ⟨hy, hhy⟩ : ∃ hy, hy = hx.put hz.next (.cells [.int .i64 e.lo, .int .i64 e.hi, .int .i64 31] .own) := ⟨_, rfl⟩
          have st31 : aStore T 3 (.ptr hz.next 2) (.int .i64 31) hx = some hy := by rw [store_1 T3 s3 rfl rfl x3 (by simp), hhy]; rfl
          have ky : hy.get hz.next = some (.cells [.int .i64 e.lo, .int .i64 e.hi, .int .i64 31] .own) := by rw [hhy, AH.get_put, if_pos rfl]
          have gy : Grow hz hy := ⟨by rw [hhy]; simp; omega, fun c hc => by rw [hhy, AH.get_put, if_neg (by omega), x4.2 c hc]⟩
          have hgy := hgz.trans gy
          obtain ⟨v', h2, q1, q2, q3, q4⟩ := push_new (new := [.int .i64 e.lo, .int .i64 e.hi, .int .i64 31]) T22 d22 T62 s62 (by decide) (by rw [b62]; decide) ((hr.grow y4).grow gy) hf hgy rfl rfl (by rw [b62]; simp [maxBytes]; omega)
          have hcs : fl Tp.av (tellL (es.take k1) n) ++ [.int .i64 e.lo, .int .i64 e.hi, .int .i64 31] = fl Tp.av (tellL (es.take (k1 + 1)) n) := by rw [htk, fl_app, ht]; rfl
          have hln : (tellL (es.take k1) n).length + 1 = (tellL (es.take (k1 + 1)) n).length := by rw [htk]; simp
          rw [hcs, hln] at q2
          simp +contextual (maxSteps := 3000000) only [↓code_skip, ↓code_seq, ↓code_region, ↓code_cond, ↓code_block, aCond_bool, ↓ops_nil, ↓ops_cons, run_none, ↓run0_v, ↓run0_h, ↓run0_r, ↓seqK_normal, ↓blkK_normal, put_same, put_ne, put_none, ev_tmp, ev_const, oc_int, o_move, o_assign, o_bin, o_alloc, o_build, o_buildSlice, o_load, o_store, o_fieldAddr, o_indexAddr, o_append, g_none, bin_add, bin_eql, bin_lss, bin_geq, Option.bind_some, Option.map_some, decide_eq_true_eq, ↓reduceIte, Nat.reduceEqDiff, not_false_eq_true, Nat.reduceAdd, Nat.reduceMul, List.getElem?_cons_zero, List.getElem?_cons_succ, List.map_cons, List.map_nil, List.append_nil, List.nil_append, List.cons_append, and_true, Nat.reduceLeDiff, Nat.le_refl, ge_iff_le, ne_eq, loadc_def, load_pA T60 a60, s60, loadn_def, alloc_t T60, z60, fa_ptr T60 p60_3 (by decide), load_p1 T3 a3, fa_ptr T60 p60_0 (by decide), fa_ptr T60 p60_1 (by decide), fa_ptr T60 p60_2 (by decide), build_struct T62 d62, z62, parts_eq, fillA, AV.cells, AH.splice, List.take_succ_cons, List.take_zero, List.take_nil, List.drop_succ_cons, List.drop_zero, List.drop_nil, List.length_cons, List.length_nil, p62_0, p62_1, p62_2, alloc_t T62, fa_ptr T60 p60_5 (by decide), fa_ptr T62 p62_2 (by decide), run0_h, load_pA T62 a62, s62, buildSl T22 d22 T62 (n := 1) (by rw [s62]; decide), repl, List.length_cons, List.length_nil, List.drop_zero, List.take_succ_cons, List.take_zero, List.take_nil, Nat.zero_add, Nat.add_zero, e1, e6, e39, e40, e41, d1, g1, g2, g3, g4, y1, y3, y3x, x1, d2, d3, st31, ky, q1, c7]
          refine hnext (k - 1) _ _ (by omega) ⟨k1 + 1, v', by omega, ?_, ?_, ?_, ?_, ?_, ?_, ?_, ?_, ?_, ?_⟩
          · exact q2
          · exact q3
          · exact q4
          · omega
          · simp only [put_ne, Nat.reduceEqDiff, not_false_eq_true, ne_eq, e1]
          · simp only [put_ne, Nat.reduceEqDiff, not_false_eq_true, ne_eq, e5]
          · simp only [put_same, put_ne, Nat.reduceEqDiff, not_false_eq_true, ne_eq]
          · simp only [put_ne, Nat.reduceEqDiff, not_false_eq_true, ne_eq, e39]
          · simp only [put_ne, Nat.reduceEqDiff, not_false_eq_true, ne_eq, e40]
          · simp only [put_same]
        · have ht : tellT e = ⟨e.lo, e.hi, e.di⟩ := by unfold tellT; rw [if_neg d3]
          have hgx := hgz.trans x4
          obtain ⟨v', h2, q1, q2, q3, q4⟩ := push_new (new := [.int .i64 e.lo, .int .i64 e.hi, .int .i64 e.di]) T22 d22 T62 s62 (by decide) (by rw [b62]; decide) ((hr.grow y4).grow x4) hf hgx rfl rfl (by rw [b62]; simp [maxBytes]; omega)
          have hcs : fl Tp.av (tellL (es.take k1) n) ++ [.int .i64 e.lo, .int .i64 e.hi, .int .i64 e.di] = fl Tp.av (tellL (es.take (k1 + 1)) n) := by rw [htk, fl_app, ht]; rfl
          have hln : (tellL (es.take k1) n).length + 1 = (tellL (es.take (k1 + 1)) n).length := by rw [htk]; simp
          rw [hcs, hln] at q2
          simp +contextual (maxSteps := 3000000) only [↓code_skip, ↓code_seq, ↓code_region, ↓code_cond, ↓code_block, aCond_bool, ↓ops_nil, ↓ops_cons, run_none, ↓run0_v, ↓run0_h, ↓run0_r, ↓seqK_normal, ↓blkK_normal, put_same, put_ne, put_none, ev_tmp, ev_const, oc_int, o_move, o_assign, o_bin, o_alloc, o_build, o_buildSlice, o_load, o_store, o_fieldAddr, o_indexAddr, o_append, g_none, bin_add, bin_eql, bin_lss, bin_geq, Option.bind_some, Option.map_some, decide_eq_true_eq, ↓reduceIte, Nat.reduceEqDiff, not_false_eq_true, Nat.reduceAdd, Nat.reduceMul, List.getElem?_cons_zero, List.getElem?_cons_succ, List.map_cons, List.map_nil, List.append_nil, List.nil_append, List.cons_append, and_true, Nat.reduceLeDiff, Nat.le_refl, ge_iff_le, ne_eq, loadc_def, load_pA T60 a60, s60, loadn_def, alloc_t T60, z60, fa_ptr T60 p60_3 (by decide), load_p1 T3 a3, fa_ptr T60 p60_0 (by decide), fa_ptr T60 p60_1 (by decide), fa_ptr T60 p60_2 (by decide), build_struct T62 d62, z62, parts_eq, fillA, AV.cells, AH.splice, List.take_succ_cons, List.take_zero, List.take_nil, List.drop_succ_cons, List.drop_zero, List.drop_nil, List.length_cons, List.length_nil, p62_0, p62_1, p62_2, alloc_t T62, fa_ptr T60 p60_5 (by decide), run0_h, load_pA T62 a62, s62, buildSl T22 d22 T62 (n := 1) (by rw [s62]; decide), repl, List.length_cons, List.length_nil, List.drop_zero, List.take_succ_cons, List.take_zero, List.take_nil, Nat.zero_add, Nat.add_zero, e1, e6, e39, e40, e41, d1, g1, g2, g3, g4, y1, y3, y3x, x1, x3, d2, d3, q1, c7]
          refine hnext (k - 1) _ _ (by omega) ⟨k1 + 1, v', by omega, ?_, ?_, ?_, ?_, ?_, ?_, ?_, ?_, ?_, ?_⟩
          · exact q2
          · exact q3
          · exact q4
          · omega
          · simp only [put_ne, Nat.reduceEqDiff, not_false_eq_true, ne_eq, e1]
          · simp only [put_ne, Nat.reduceEqDiff, not_false_eq_true, ne_eq, e5]
          · simp only [put_same, put_ne, Nat.reduceEqDiff, not_false_eq_true, ne_eq]
          · simp only [put_ne, Nat.reduceEqDiff, not_false_eq_true, ne_eq, e39]
          · simp only [put_ne, Nat.reduceEqDiff, not_false_eq_true, ne_eq, e40]
          · simp only [put_same]
    · have d1 : ¬ (k1 : Int) < (es.length : Int) := by omega
      rw [List.take_of_length_le (by omega)] at hr
      simp +contextual (maxSteps := 3000000) only [↓code_seq, ↓code_region, ↓code_cond, ↓code_exit, aCond_bool, ↓ops_nil, ↓ops_cons, run_none, ↓run0_v, ↓seqK_normal, ↓seqK_exit, put_same, ev_tmp, o_bin, g_none, bin_lss, decide_eq_true_eq, ↓reduceIte, e40, e41, d1]
      refine hexit _ _ _ (by simp) ⟨v, h', ?_, hr, hf, hg⟩
      simp +contextual (maxSteps := 3000000) only [↓code_seq, ↓code_region, ↓code_ret, ↓ops_nil, ↓ops_cons, run_none, ↓run0_v, ↓seqK_normal, ↓blkK_exit, ↓retK_ret, put_same, put_ne, ev_tmp, ev_const, oc_int, o_move, o_assign, g_none, resultsOf, oneOrAll, Option.map_some, ↓reduceIte, Nat.reduceEqDiff, not_false_eq_true, ne_eq, e6]
  · refine ⟨0, .nils, by omega, ?_, ?_, ?_, ?_, ?_, ?_, ?_, ?_, ?_, ?_⟩
    · exact RowC.nil _ _
    · (intro b o l k z x e; cases e)
    · exact Grow.refl _
    · omega
    · simp only [put_ne, env0_at, Option.getD_some, Nat.reduceEqDiff, not_false_eq_true, List.getElem?_cons_zero, List.getElem?_cons_succ, ne_eq]
    · simp only [put_same, put_ne, Nat.reduceEqDiff, not_false_eq_true, ne_eq]
    · simp only [put_same, put_ne, Nat.reduceEqDiff, not_false_eq_true, ne_eq]
    · simp only [put_same, put_ne, Nat.reduceEqDiff, not_false_eq_true, ne_eq]
    · simp only [put_same, put_ne, Nat.reduceEqDiff, not_false_eq_true, ne_eq]
    · simp only [put_same]; rfl
end Go.AM.X
