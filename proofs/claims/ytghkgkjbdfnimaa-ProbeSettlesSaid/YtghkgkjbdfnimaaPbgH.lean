/- A link: requests are told; what was asked for and is known is asked for no more. Own work. -/
import Derived.Test.YtghkgkjbdfnimaaPbgG
namespace Go.AM.X
open Go Go.AM Go.Proofs Go.AM.Sx
set_option maxHeartbeats 12800000
set_option maxRecDepth 100000
set_option linter.unusedVariables false
theorem run47x {I : Nat → Option (List AV → AH → Rs)} (h47 : I 47 = none) (m g : Nat) (hg : Nat.beq g YLD = false) (cx : List AV) (pr : As → Bool) (v : AV) (es : List As) (h : AH) (hr : RowC 3 h v es.length (fl As.av es)) (hn : es.length ≤ m ∧ es.length ≤ 1000000000)
    (kc : ∀ n h2, m ≤ n → Grow h h2 → ∀ x ∈ es, ∃ h3, call F I T (n + 2) g (.agg [.int .i64 x.n, .int .i64 x.d, .int .i64 x.s] :: cx) h2 = some (.bool (pr x), h3) ∧ Grow h2 h3) :
    ∃ h2, call F I T (m + 50) 47 [v, .fn g [] cx] h = some (.int .i64 (idxAt pr 0 es), h2) ∧ Grow h h2 := by
  have hlen : ∀ h, aLen T 61 v h = some (.int .i64 (es.length : Nat)) := fun h => hr.len T61 d61
  rw [call_F (by decide) h47 F47 rfl R47]; simp only [Try.f47, Option.getD]
  simp +contextual (maxSteps := 3000000) only [↓code_seq, ↓code_region, ↓code_block, ↓code_loop, ↓ops_nil, ↓ops_cons, run_none, ↓run0_v, ↓seqK_normal, put_same, put_ne, env0_at, ev_tmp, ev_const, oc_int, o_move, o_assign, o_len, g_none, Option.getD_some, not_false_eq_true, reduceCtorEq, List.getElem?_cons_zero, ne_eq, hlen]
  refine iterL_wp (Q := fun r => ∃ h2, r = some (.int .i64 (idxAt pr 0 es), h2) ∧ Grow h h2) (N := es.length) (Inv := fun k e h' => ∃ i, k + i = es.length ∧ idxAt pr 0 es = idxAt pr i (es.drop i) ∧ Grow h h' ∧ i ≤ es.length ∧ e 0 = v ∧ e 1 = .fn g [] cx ∧ e 7 = .int .i64 (es.length : Nat) ∧ e 8 = .int .i64 (i : Nat)) ?_ ?_ (by omega)
  · rintro k e h' K' ⟨i, hk, hix, hgr, hil, e0, e1, e7, e8⟩ hnext hexit
    by_cases hi : i < es.length
    · have c1 : (i : Int) < (es.length : Int) := by omega
      obtain ⟨x, hx⟩ : ∃ x, es[i]? = some x := ⟨es[i], List.getElem?_eq_getElem hi⟩
      obtain ⟨b, cs, bk, g1, g2, g3, g4⟩ := loadAs (hr.grow hgr) hx
      obtain ⟨h3, kc1, kc2⟩ := kc (m + 47) h' (by omega) hgr x (List.mem_of_getElem? hx)
      have c7 : IntKind.i64.wrap ((i : Int) + 1) = ((i + 1 : Nat) : Int) := by rw [wrap_i64 (by omega) (by omega)]; rfl
      rw [List.drop_eq_getElem_cons hi, (List.getElem?_eq_some_iff.1 hx).2] at hix
      simp only [idxAt] at hix
      cases hz : pr x
      · rw [hz, if_neg (by simp)] at hix
        rw [hz] at kc1
        simp +contextual (maxSteps := 3000000) only [↓code_skip, ↓code_seq, ↓code_region, ↓code_cond, ↓code_block, aCond_bool, ↓ops_nil, ↓ops_cons, run_none, ↓run0_v, ↓run0_r, ↓seqK_normal, ↓blkK_normal, put_same, put_ne, ev_tmp, ev_const, oc_int, o_move, o_assign, o_bin, o_call, o_load, o_indexAddr, g_none, bin_add, bin_lss, Option.map_some, decide_eq_true_eq, ↓reduceIte, Nat.reduceEqDiff, not_false_eq_true, reduceCtorEq, Bool.false_eq_true, List.map_cons, List.map_nil, List.nil_append, List.cons_append, ne_eq, load_pA T74 a74, s74, loadn_def, e0, e1, e7, e8, c1, g1, g2, g3, g4, callV_fn hg, kc1, c7]
        refine hnext (k - 1) _ _ (by omega) ⟨i + 1, by omega, ?_, ?_, ?_, ?_, ?_, ?_, ?_⟩
        · exact hix
        · exact hgr.trans kc2
        · omega
        · simp only [put_ne, not_false_eq_true, reduceCtorEq, ne_eq, e0]
        · simp only [put_ne, Nat.reduceEqDiff, not_false_eq_true, ne_eq, e1]
        · simp only [put_ne, Nat.reduceEqDiff, not_false_eq_true, ne_eq, e7]
        · simp only [put_same]
      · rw [hz, if_pos rfl] at hix
        rw [hz] at kc1
        simp +contextual (maxSteps := 3000000) only [↓code_skip, ↓code_seq, ↓code_region, ↓code_cond, ↓code_block, ↓code_ret, aCond_bool, ↓ops_nil, ↓ops_cons, run_none, ↓run0_v, ↓run0_r, ↓seqK_normal, ↓seqK_ret, ↓blkK_ret, put_same, put_ne, ev_tmp, o_move, o_assign, o_bin, o_call, o_load, o_indexAddr, g_none, bin_lss, Option.map_some, decide_eq_true_eq, ↓reduceIte, Nat.reduceEqDiff, not_false_eq_true, reduceCtorEq, List.map_cons, List.map_nil, List.nil_append, List.cons_append, ne_eq, load_pA T74 a74, s74, loadn_def, e0, e1, e7, e8, c1, g1, g2, g3, g4, callV_fn hg, kc1]
        refine hexit _ _ _ (by simp) ⟨h3, ?_, hgr.trans kc2⟩
        simp +contextual (maxSteps := 3000000) only [↓seqK_ret, ↓blkK_ret, ↓retK_ret, put_same, resultsOf, oneOrAll, Option.map_some, hix]
    · have c1 : ¬ (i : Int) < (es.length : Int) := by omega
      rw [List.drop_eq_nil_of_le (by omega)] at hix
      simp +contextual (maxSteps := 3000000) only [↓code_seq, ↓code_region, ↓code_cond, ↓code_exit, aCond_bool, ↓ops_nil, ↓ops_cons, run_none, ↓run0_v, ↓seqK_normal, ↓seqK_exit, put_same, ev_tmp, o_bin, g_none, bin_lss, decide_eq_true_eq, ↓reduceIte, e7, e8, c1]
      refine hexit _ _ _ (by simp) ⟨h', ?_, hgr⟩
      simp +contextual (maxSteps := 3000000) only [↓code_seq, ↓code_region, ↓code_ret, ↓ops_nil, ↓ops_cons, run_none, ↓run0_v, ↓seqK_normal, ↓blkK_exit, ↓retK_ret, put_same, ev_const, oc_int, o_assign, g_none, resultsOf, oneOrAll, Option.map_some, ↓reduceIte, hix, idxAt]
  · refine ⟨0, by omega, ?_, ?_, ?_, ?_, ?_, ?_, ?_⟩
    · rfl
    · exact Grow.refl _
    · omega
    · simp only [put_ne, env0_at, Option.getD_some, not_false_eq_true, reduceCtorEq, List.getElem?_cons_zero, ne_eq]
    · simp only [put_ne, env0_at, Option.getD_some, Nat.reduceEqDiff, not_false_eq_true, List.getElem?_cons_zero, List.getElem?_cons_succ, ne_eq]
    · simp only [put_same, put_ne, Nat.reduceEqDiff, not_false_eq_true, ne_eq]
    · simp only [put_same]; rfl
theorem run44x {I : Nat → Option (List AV → AH → Rs)} (h47 : I 47 = none) (h44 : I 44 = none) (m g : Nat) (hg : Nat.beq g YLD = false) (cx : List AV) (pr : As → Bool) (v : AV) (es : List As) (h : AH) (hr : RowC 3 h v es.length (fl As.av es)) (hn : es.length ≤ m ∧ es.length ≤ 1000000000)
    (kc : ∀ n h2, m ≤ n → KeepR h h2 v → ∀ x ∈ es, ∃ h3, call F I T (n + 2) g (.agg [.int .i64 x.n, .int .i64 x.d, .int .i64 x.s] :: cx) h2 = some (.bool (pr x), h3) ∧ Grow h2 h3) :
    ∃ v2 h2, call F I T (m + 51) 44 [v, .fn g [] cx] h = some (v2, h2) ∧ RowC 3 h2 v2 (es.filter fun x => !pr x).length (fl As.av (es.filter fun x => !pr x)) ∧ KeepR h h2 v ∧ (∀ b o l k z x, v2 = .sl b o l k z x → ∃ o l k z x, v = .sl b o l k z x) := by
  obtain ⟨hA, k1, gA⟩ := run47x h47 m g hg cx pr v es h hr hn (fun n h2 hmn hgr => kc n h2 hmn (KeepR.grow v hgr))
  have hlen : ∀ h, aLen T 61 v h = some (.int .i64 (es.length : Nat)) := fun h => hr.len T61 d61
  rcases idx_find pr es 0 with ⟨i, i1, i2, i3⟩ | ⟨i1, i2⟩
  rotate_left
  · refine ⟨v, hA, ?_, by rw [filter_allAs es 0 i1]; exact hr.grow gA, KeepR.grow v gA, fun b o l k z x e => ⟨_, _, _, _, _, e⟩⟩
    rw [i1] at k1
    rw [call_F (by decide) h44 F44 rfl R44]; simp only [Try.f44, Option.getD]
    simp +contextual (maxSteps := 3000000) only [↓code_seq, ↓code_region, ↓code_cond, ↓code_ret, aCond_bool, ↓ops_nil, ↓ops_cons, run_none, ↓run0_v, ↓run0_r, ↓seqK_normal, ↓seqK_ret, ↓retK_ret, put_same, put_ne, env0_at, ev_tmp, ev_const, ev_func, oc_int, oc_nils, o_move, o_assign, o_bin, o_call, g_none, bin_eql, resultsOf, oneOrAll, Option.map_some, Option.getD_some, decide_eq_true_eq, ↓reduceIte, Nat.reduceEqDiff, not_false_eq_true, reduceCtorEq, List.getElem?_cons_zero, List.getElem?_cons_succ, List.map_cons, List.map_nil, List.append_nil, List.nil_append, ne_eq, k1, callV_fn (g := 47) (by decide)]
  rw [i1, Nat.zero_add] at k1
  have c1 : ¬ ((i : Nat) : Int) = -1 := by omega
  have c7 : IntKind.i64.wrap ((i : Int) + 1) = ((i + 1 : Nat) : Int) := by rw [wrap_i64 (by omega) (by omega)]; rfl
  rw [call_F (by decide) h44 F44 rfl R44]; simp only [Try.f44, Option.getD]
  simp +contextual (maxSteps := 3000000) only [↓code_skip, ↓code_seq, ↓code_region, ↓code_cond, ↓code_block, ↓code_loop, aCond_bool, ↓ops_nil, ↓ops_cons, run_none, ↓run0_v, ↓run0_r, ↓seqK_normal, put_same, put_ne, env0_at, ev_tmp, ev_const, ev_func, oc_int, oc_nils, o_move, o_assign, o_bin, o_call, g_none, bin_add, bin_eql, Option.getD_some, ↓reduceIte, Nat.reduceEqDiff, not_false_eq_true, reduceCtorEq, List.getElem?_cons_zero, List.getElem?_cons_succ, Bool.false_eq_true, List.map_cons, List.map_nil, List.append_nil, List.nil_append, ne_eq, k1, c1, decide_false, callV_fn (g := 47) (by decide)]
  refine iterL_wp (Q := fun r => ∃ v2 h2, r = some (v2, h2) ∧ RowC 3 h2 v2 (es.filter fun x => !pr x).length (fl As.av (es.filter fun x => !pr x)) ∧ KeepR h h2 v ∧ (∀ b o l k z x, v2 = .sl b o l k z x → ∃ o l k z x, v = .sl b o l k z x)) (N := es.length - (i + 1)) (Inv := fun k e h' => ∃ y x j L, k + y = es.length - (i + 1) ∧ x = i + 1 + y ∧ RowC 3 h' v L.length (fl As.av L) ∧ L.length = es.length ∧ L.take j = (es.take x).filter (fun x => !pr x) ∧ L.drop x = es.drop x ∧ j < x ∧ x ≤ es.length ∧ KeepR h h' v ∧ e 0 = v ∧ e 1 = .fn g [] cx ∧ e 5 = .int .i64 (j : Nat) ∧ e 6 = .int .i64 (x : Nat)) ?_ ?_ (by omega)
  · rintro k e h' K' ⟨y, x, j, L, hk, hy, hL, hLl, ht, hd, hjx, hx, hkr, e0, e1, e5, e6⟩ hnext hexit
    by_cases hi : x < es.length
    · have d1 : (x : Int) < (es.length : Int) := by omega
      have hLx : L[x]? = some es[x] := by
        have := congrArg (fun l => l[0]?) hd
        simpa [List.getElem?_drop, List.getElem?_eq_getElem hi] using this
      obtain ⟨q, hq⟩ : ∃ q, q = es[x] := ⟨_, rfl⟩
      rw [← hq] at hLx
      obtain ⟨b, cs, bk, g1, g2, g3, g4⟩ := loadAs hL hLx
      have hm : q ∈ es := by rw [hq]; exact List.getElem_mem hi
      obtain ⟨hz, y1, y2, y3, y4⟩ := store_As h' q
      obtain ⟨h3, kc1, kc2⟩ := kc (m + 48) hz (by omega) (hkr.trans (KeepR.grow v y4)) q hm
      have y3' : h3.get h'.next = some (.cells [.int .i64 q.n, .int .i64 q.d, .int .i64 q.s] .own) := by rw [kc2.2 _ (by omega)]; exact y3
      have hgr := y4.trans kc2
      have hL3 := hL.grow hgr
      have hkr3 := hkr.trans (KeepR.grow v hgr)
      have d7 : IntKind.i64.wrap ((x : Int) + 1) = ((x + 1 : Nat) : Int) := by rw [wrap_i64 (by omega) (by omega)]; rfl
      have d8 : IntKind.i64.wrap ((j : Int) + 1) = ((j + 1 : Nat) : Int) := by rw [wrap_i64 (by omega) (by omega)]; rfl
      have htk : es.take (x + 1) = es.take x ++ [q] := by rw [List.take_add_one, List.getElem?_eq_getElem hi, hq]; rfl
      have hdd : L.drop (x + 1) = es.drop (x + 1) := by
        have := congrArg (List.drop 1) hd
        rwa [List.drop_drop, List.drop_drop] at this
      cases hzz : pr q
      · rw [hzz] at kc1
        obtain ⟨q0, hq0⟩ : ∃ q0, L[j]? = some q0 := ⟨L[j]'(by omega), List.getElem?_eq_getElem (by omega)⟩
        obtain ⟨b', h4, q1, q2, q3, q4, q5, _, _⟩ := storeR As.av 3 As.len T61 d61 T74 s74 q hL3 hq0 (As.one q)
        replace q2 : aStore T 74 (.ptr b' (j * 3)) (.agg [.int .i64 q.n, .int .i64 q.d, .int .i64 q.s]) h3 = some h4 := q2
        simp +contextual (maxSteps := 3000000) only [↓code_skip, ↓code_seq, ↓code_region, ↓code_cond, ↓code_block, aCond_bool, ↓ops_nil, ↓ops_cons, run_none, ↓run0_v, ↓run0_h, ↓run0_r, ↓seqK_normal, ↓blkK_normal, put_same, put_ne, put_none, ev_tmp, ev_const, oc_int, o_move, o_assign, o_bin, o_call, o_len, o_alloc, o_load, o_store, o_un, o_indexAddr, g_none, bin_add, bin_lss, un_not, Option.map_some, decide_eq_true_eq, ↓reduceIte, Nat.reduceEqDiff, not_false_eq_true, Nat.reduceAdd, reduceCtorEq, Nat.succ_ne_self, List.map_cons, List.map_nil, List.nil_append, List.cons_append, Nat.le_refl, Bool.not_false, ne_eq, load_pA T74 a74, s74, loadn_def, alloc_t T74, z74, e0, e1, e5, e6, d1, hlen, g1, g2, g3, g4, List.length_cons, List.length_nil, List.drop_zero, List.take_succ_cons, List.take_nil, Nat.zero_add, y1, y3, y3', callV_fn hg, kc1, d7, d8, q1, q2]
        refine hnext (k - 1) _ _ (by omega) ⟨y + 1, x + 1, j + 1, L.set j q, by omega, ?_, ?_, ?_, ?_, ?_, ?_, ?_, ?_, ?_, ?_, ?_, ?_⟩
        · omega
        · (rw [List.length_set]; exact q3)
        · (rw [List.length_set]; exact hLl)
        · (rw [htk, List.filter_append, ← ht, List.filter_cons_of_pos (by simp [hzz]), List.filter_nil, List.take_add_one, List.getElem?_set_self (by omega), List.take_set_of_le (Nat.le_refl _)]; rfl)
        · (rw [List.drop_set_of_lt (by omega)]; exact hdd)
        · omega
        · omega
        · exact ⟨by rw [q4]; exact hkr3.1, fun c hc ho => by rw [q5 c ho]; exact hkr3.2 c hc ho⟩
        · simp only [put_ne, not_false_eq_true, reduceCtorEq, ne_eq, e0]
        · simp only [put_ne, Nat.reduceEqDiff, not_false_eq_true, ne_eq, e1]
        · simp only [put_same, put_ne, Nat.reduceEqDiff, not_false_eq_true, ne_eq]
        · simp only [put_same]
      · rw [hzz] at kc1
        simp +contextual (maxSteps := 3000000) only [↓code_skip, ↓code_seq, ↓code_region, ↓code_cond, ↓code_block, aCond_bool, ↓ops_nil, ↓ops_cons, run_none, ↓run0_v, ↓run0_h, ↓run0_r, ↓seqK_normal, ↓blkK_normal, put_same, put_ne, put_none, ev_tmp, ev_const, oc_int, o_move, o_assign, o_bin, o_call, o_len, o_alloc, o_load, o_store, o_un, o_indexAddr, g_none, bin_add, bin_lss, un_not, Option.map_some, decide_eq_true_eq, ↓reduceIte, Nat.reduceEqDiff, not_false_eq_true, Nat.reduceAdd, reduceCtorEq, Bool.false_eq_true, List.map_cons, List.map_nil, List.nil_append, List.cons_append, Nat.le_refl, Bool.not_true, ne_eq, load_pA T74 a74, s74, loadn_def, alloc_t T74, z74, e0, e1, e6, d1, hlen, g1, g2, g3, g4, List.length_cons, List.length_nil, List.drop_zero, List.take_succ_cons, List.take_nil, Nat.zero_add, y1, y3, callV_fn hg, kc1, d7]
        refine hnext (k - 1) _ _ (by omega) ⟨y + 1, x + 1, j, L, by omega, ?_, ?_, ?_, ?_, ?_, ?_, ?_, ?_, ?_, ?_, ?_, ?_⟩
        · omega
        · exact hL3
        · exact hLl
        · (rw [htk, List.filter_append, ht, List.filter_cons_of_neg (by simp [hzz])]; simp)
        · exact hdd
        · omega
        · omega
        · exact hkr3
        · simp only [put_ne, not_false_eq_true, reduceCtorEq, ne_eq, e0]
        · simp only [put_ne, Nat.reduceEqDiff, not_false_eq_true, ne_eq, e1]
        · simp only [put_ne, Nat.reduceEqDiff, not_false_eq_true, ne_eq, e5]
        · simp only [put_same]
    · have d1 : ¬ (x : Int) < (es.length : Int) := by omega
      have hin : x = es.length := by omega
      rw [hin, List.take_length] at ht
      obtain ⟨x38, h2, v2, q1, q2, q3, q4, q5, q6, q7⟩ := hL.trunc (j := j) T61 d61 T74 s74 (by decide) (by rw [z74]; rfl) (by rw [z74]; rfl) (by omega) (by omega)
      have hjl : (es.filter fun x => !pr x).length = j := by rw [← ht, List.length_take]; omega
      have htk : (fl As.av L).take (j * 3) = fl As.av (es.filter fun x => !pr x) := by rw [← ht, fl_take As.av 3 As.len]
      rw [htk, ← hjl] at q4
      simp +contextual (maxSteps := 3000000) only [↓code_seq, ↓code_region, ↓code_cond, ↓code_exit, aCond_bool, ↓ops_nil, ↓ops_cons, run_none, ↓run0_v, ↓seqK_normal, ↓seqK_exit, put_same, put_ne, ev_tmp, o_move, o_bin, o_len, g_none, bin_lss, decide_eq_true_eq, ↓reduceIte, Nat.reduceEqDiff, not_false_eq_true, reduceCtorEq, ne_eq, e0, e6, d1, hlen]
      refine hexit _ _ _ (by simp) ⟨v2, h2, ?_, q4, ⟨by rw [q5]; exact hkr.1, fun c hc ho => (q6 c ho).trans (hkr.2 c hc ho)⟩, q7⟩
      simp +contextual (maxSteps := 3000000) only [↓code_seq, ↓code_region, ↓code_ret, ↓ops_nil, ↓ops_cons, run_none, ↓run0_v, ↓run0_h, ↓seqK_normal, ↓blkK_exit, ↓retK_ret, put_same, put_ne, put_none, ev_tmp, o_move, o_assign, o_slice, g_none, resultsOf, oneOrAll, Option.map_some, Option.map_none, ↓reduceIte, Nat.reduceEqDiff, not_false_eq_true, reduceCtorEq, ne_eq, e0, e5, o_clear, q1, q2, q3]
  · refine ⟨0, i + 1, i, es, by omega, ?_, ?_, ?_, ?_, ?_, ?_, ?_, ?_, ?_, ?_, ?_, ?_⟩
    · omega
    · exact hr.grow gA
    · rfl
    · exact (filter_takeAs i2).symm
    · rfl
    · omega
    · omega
    · exact KeepR.grow v gA
    · simp only [put_ne, env0_at, Option.getD_some, not_false_eq_true, reduceCtorEq, List.getElem?_cons_zero, ne_eq, c7]
    · simp only [put_ne, env0_at, Option.getD_some, Nat.reduceEqDiff, not_false_eq_true, List.getElem?_cons_zero, List.getElem?_cons_succ, ne_eq, c7]
    · simp only [put_same, put_ne, Nat.reduceEqDiff, not_false_eq_true, ne_eq, c7]
    · simp only [put_same, c7]
/-- A list of which the first ones are changed. -/
def uptoG {α : Type} (f : α → α) (l : List α) (k : Nat) : List α := (l.take k).map f ++ l.drop k
section
variable {α : Type} (f : α → α) (l : List α)
theorem uptoG_len (k : Nat) : (uptoG f l k).length = l.length := by unfold uptoG; simp; omega
theorem uptoG_zero : uptoG f l 0 = l := by unfold uptoG; simp
theorem uptoG_all : uptoG f l l.length = l.map f := by unfold uptoG; simp
theorem uptoG_get {k : Nat} {x : α} (h : l[k]? = some x) : (uptoG f l k)[k]? = some x := by
  have hk := (List.getElem?_eq_some_iff.1 h).1
  unfold uptoG
  rw [List.getElem?_append_right (by simp; omega), List.length_map, List.length_take, List.getElem?_drop, show k + (k - min k l.length) = k by omega]
  exact h
theorem uptoG_step {k : Nat} {x : α} (h : l[k]? = some x) : uptoG f l (k + 1) = (uptoG f l k).set k (f x) := by
  have hk := (List.getElem?_eq_some_iff.1 h).1
  unfold uptoG
  rw [List.set_append_right _ _ (by simp; omega), List.length_map, List.length_take, show k - min k l.length = 0 by omega, List.drop_eq_getElem_cons hk, List.set_cons_zero, List.take_add_one, h, List.map_append, List.append_assoc]
  rfl
end
theorem run45 {I : Nat → Option (List AV → AH → Rs)} (h46 : I 46 = none) (h34 : I 34 = none) (h45 : I 45 = none) (h48 : I 48 = none) (m k a : Nat) (e : As) (rv av hv : AV) (s : Sn) (h : AH) (hk : h.get k = some (.cells [.ptr a 0] .own)) (kl : k < h.next) (hg : h.get a = some (.cells (s.enc av hv) .own)) (hlt : a < h.next) (hr : RowC 4 h hv s.hs.length (fl Hi.av s.hs)) (hn : s.hs.length ≤ m ∧ s.hs.length ≤ 1000000000) :
    ∃ h3, call F I T (m + 62) 45 [.agg [.int .i64 e.n, .int .i64 e.d, .int .i64 e.s], .ptr k 0] h = some (.bool (decide (5 ≤ e.s) || decide (0 ≤ hintI s e.n e.d)), h3) ∧ Grow h h3 := by
  obtain ⟨h1, e1⟩ : ∃ h1, h1 = h.alloc (.cells [.int .i64 e.n, .int .i64 e.d, .int .i64 e.s] .own) := ⟨_, rfl⟩
  have gA : Grow h h1 := by rw [e1]; exact Grow.alloc _ _
  have g0 : h1.get h.next = some (.cells [.int .i64 e.n, .int .i64 e.d, .int .i64 e.s] .own) := by rw [e1, AH.get_alloc, if_pos rfl]
  have hk1 := (gA.2 _ kl).trans hk
  obtain ⟨h2, k1, k2⟩ := run34 h46 h34 h48 (m + 1) a e.n e.d rv av hv s h1 ((gA.2 _ hlt).trans hg) (Nat.lt_of_lt_of_le hlt gA.1) (hr.grow gA) ⟨by omega, hn.2⟩
  by_cases c1 : 5 ≤ e.s
  · refine ⟨h1, ?_, gA⟩
    rw [call_F (by decide) h45 F45 rfl R45]; simp only [Try.f45, Option.getD]
    simp +contextual (maxSteps := 3000000) only [↓code_seq, ↓code_region, ↓code_ret, ↓ops_nil, ↓ops_cons, run_none, run_someF, ↓run0_v, ↓run0_r, ↓seqK_normal, ↓retK_ret, put_same, put_ne, env0_at, ev_tmp, ev_const, ev_func, oc_int, oc_bool, o_move, o_assign, o_pick, o_bin, o_call, o_box, o_load, o_fieldAddr, g_none, g_some, pick_bool, bin_geq, resultsOf, oneOrAll, Option.bind_some, Option.map_some, Option.getD_some, ↓reduceIte, Nat.reduceEqDiff, not_false_eq_true, List.getElem?_cons_zero, List.getElem?_cons_succ, List.getElem?_toArray, List.map_cons, List.map_nil, List.append_nil, List.nil_append, ge_iff_le, ne_eq, box_agg, fa_ptr T74 p74_1 (by decide), load_p1 T3 a3, loadc_def, load_p1 T59 a59, fa_ptr T74 p74_0 (by decide), callV_fn (g := 34) (by decide), Nat.zero_add, Nat.add_zero, ← e1, g0, eq_true c1, decide_true, Bool.true_or]
  · refine ⟨h2, ?_, gA.trans k2⟩
    by_cases c2 : 0 ≤ hintI s e.n e.d
    · rw [call_F (by decide) h45 F45 rfl R45]; simp only [Try.f45, Option.getD]
      simp +contextual (maxSteps := 3000000) only [↓code_seq, ↓code_region, ↓code_ret, ↓ops_nil, ↓ops_cons, run_none, run_someF, ↓run0_v, ↓run0_r, ↓seqK_normal, ↓retK_ret, put_same, put_ne, env0_at, ev_tmp, ev_const, ev_func, oc_int, oc_bool, o_move, o_assign, o_pick, o_bin, o_call, o_box, o_load, o_fieldAddr, g_none, g_some, pick_bool, bin_geq, resultsOf, oneOrAll, Option.bind_some, Option.map_some, Option.getD_some, ↓reduceIte, Nat.reduceEqDiff, not_false_eq_true, Nat.reduceAdd, List.getElem?_cons_zero, List.getElem?_cons_succ, List.getElem?_toArray, Bool.false_eq_true, List.map_cons, List.map_nil, List.append_nil, List.nil_append, Nat.reduceLeDiff, ge_iff_le, ne_eq, box_agg, fa_ptr T74 p74_1 (by decide), load_p1 T3 a3, loadc_def, load_p1 T59 a59, fa_ptr T74 p74_0 (by decide), load_pA T35 a35, s35, loadn_def, List.length_cons, List.length_nil, List.drop_zero, List.take_succ_cons, List.take_zero, Nat.zero_add, Nat.add_zero, ← e1, g0, c1, hk1, k1, eq_true c2, decide_true, decide_false, Bool.false_or, callV_fn (g := 34) (by decide)]
    · rw [call_F (by decide) h45 F45 rfl R45]; simp only [Try.f45, Option.getD]
      simp +contextual (maxSteps := 3000000) only [↓code_seq, ↓code_region, ↓code_ret, ↓ops_nil, ↓ops_cons, run_none, run_someF, ↓run0_v, ↓run0_r, ↓seqK_normal, ↓retK_ret, put_same, put_ne, env0_at, ev_tmp, ev_const, ev_func, oc_int, oc_bool, o_move, o_assign, o_pick, o_bin, o_call, o_box, o_load, o_fieldAddr, g_none, g_some, pick_bool, bin_geq, resultsOf, oneOrAll, Option.bind_some, Option.map_some, Option.getD_some, ↓reduceIte, Nat.reduceEqDiff, not_false_eq_true, Nat.reduceAdd, List.getElem?_cons_zero, List.getElem?_cons_succ, List.getElem?_toArray, Bool.false_eq_true, List.map_cons, List.map_nil, List.append_nil, List.nil_append, Nat.reduceLeDiff, ge_iff_le, ne_eq, box_agg, fa_ptr T74 p74_1 (by decide), load_p1 T3 a3, loadc_def, load_p1 T59 a59, fa_ptr T74 p74_0 (by decide), load_pA T35 a35, s35, loadn_def, List.length_cons, List.length_nil, List.drop_zero, List.take_succ_cons, List.take_zero, Nat.zero_add, Nat.add_zero, ← e1, g0, c1, hk1, k1, c2, decide_false, Bool.false_or, callV_fn (g := 34) (by decide)]
/-- A request. -/
structure Rq where
  i : Nat
  n : Int
  d : Int
def Rq.av (x : Rq) : List AV := [.int .i64 (x.i : Nat), .int .i64 x.n, .int .i64 x.d]
theorem Rq.len (x : Rq) : x.av.length = 3 := rfl
theorem Rq.one (x : Rq) : x.av.all AV.one = true := rfl
/-- A link, and beside it a row of requests that is new. -/
structure PQ (h0 h : AH) (own : Nat → Nat) (p : Nat) (lo hi : Int) (sv : AV) (M : List Sm) (rq : AV) (R : List Rq) : Prop where
  L : LkOk h own p lo hi sv M
  xr : RowC 3 h rq R.length (fl Rq.av R)
  ro : Out own rq
  rf : Fresh h0 rq
  st : Stf h0 h (fun c => own c = 0) (fun c => own c = 0)
section
variable {h0 h h2 : AH} {own : Nat → Nat} {p : Nat} {lo hi : Int} {sv : AV} {M M2 : List Sm} {rq : AV} {R : List Rq}
theorem PQ.move (hP : PQ h0 h own p lo hi sv M rq R) (hn : h.next ≤ h2.next) (hk : ∀ c, c < h.next → own c = 0 → h2.get c = h.get c) (hL : LkOk h2 own p lo hi sv M2) : PQ h0 h2 own p lo hi sv M2 rq R :=
  { L := hL, xr := hP.xr.keep hn fun b o l k z x e => hk b (hP.xr.lt e) (hP.ro _ _ _ _ _ _ e), ro := hP.ro, rf := hP.rf
    st := ⟨Nat.le_trans hP.st.1 hn, fun c hc ho => ⟨(hk c (Nat.lt_of_lt_of_le hc hP.st.1) ho).trans (hP.st.2 c hc ho).1, ho⟩⟩ }
theorem PQ.push (hP : PQ h0 h own p lo hi sv M rq R) (x : Rq) (hA : R.length ≤ 2000000000) :
    ∃ v' h2, aAppend T 84 84 rq (.sl h.next 0 1 1 3 true) (h.alloc (.cells [.int .i64 (x.i : Nat), .int .i64 x.n, .int .i64 x.d] .own)) = some (v', h2) ∧ PQ h0 h2 own p lo hi sv M v' (R ++ [x]) := by
  obtain ⟨v', h2, q1, q2, q3, q4, q5⟩ := hP.xr.push (new := [.int .i64 (x.i : Nat), .int .i64 x.n, .int .i64 x.d]) T84 d84 T86 s86 (by decide) (by rw [b86]; decide) rfl rfl (by rw [b86]; simp [maxBytes]; omega)
  have hcs : fl Rq.av R ++ [.int .i64 (x.i : Nat), .int .i64 x.n, .int .i64 x.d] = fl Rq.av (R ++ [x]) := by rw [fl_app]; simp [fl, Rq.av]
  rw [hcs, show R.length + 1 = (R ++ [x]).length by simp] at q2
  have hn := hP.st.1
  refine ⟨v', h2, q1, { L := hP.L.keep (by omega) fun c hc hoc => q4 c hc fun b o l k z x e g => hoc (by rw [g]; exact hP.ro _ _ _ _ _ _ e), xr := q2, ro := fun b o l k z x e => ?_, rf := fun b o l k z x e => ?_, st := ⟨by omega, fun c hc ho => ⟨?_, ho⟩⟩ }⟩
  · rcases q5 _ _ _ _ _ _ e with g | ⟨_, _, _, _, _, g⟩
    · exact hP.L.nw b g
    · exact hP.ro _ _ _ _ _ _ g
  · rcases q5 _ _ _ _ _ _ e with g | ⟨_, _, _, _, _, g⟩
    · omega
    · exact hP.rf _ _ _ _ _ _ g
  · rw [q4 c (by omega) (hP.rf.off hc)]; exact (hP.st.2 c hc ho).1
end
theorem loadRq {h : AH} {v : AV} {l : List Rq} {i : Nat} {x : Rq} (hr : RowC 3 h v l.length (fl Rq.av l)) (hx : l[i]? = some x) :
    ∃ b cs kk, aIndexAddr T 84 v (.int .i64 (i : Nat)) = some (.ptr b (i * 3)) ∧ h.get b = some (.cells cs kk) ∧ i * 3 + 3 ≤ cs.length ∧ (cs.drop (i * 3)).take 3 = [.int .i64 (x.i : Nat), .int .i64 x.n, .int .i64 x.d] :=
  loadR Rq.av 3 Rq.len T84 d84 T86 s86 hr hx
end Go.AM.X
namespace Go.AM.X
open Go Go.AM Go.Proofs Go.AM.Sx
set_option maxHeartbeats 12800000
set_option maxRecDepth 100000
set_option linter.unusedVariables false
theorem F28 : F 28 = some { body := (Try.f28.body.getD .skip), results := Try.f28.results.toList, rf := false } := by kernel_rfl
theorem set_same {α : Type} {l : List α} {i : Nat} {s : α} (h : l[i]? = some s) : l.set i s = l := by
  rw [← (List.getElem?_eq_some_iff.1 h).2]; exact List.set_getElem_self _
def inc (e : As) : As := { e with s := IntKind.i64.wrap (e.s + 1) }
def incF (s : Sn) : Sn := { s with qs := s.qs.map inc }
def reqsU (S : List Sn) (z : Nat) : List Rq := (List.range z).flatMap fun i => match S[i]? with
  | some s => s.qs.map fun e => ⟨i, e.n, e.d⟩
  | none => []
def reqs (S : List Sn) : List Rq := reqsU S S.length
theorem reqsU_step {S : List Sn} {z : Nat} {s : Sn} (hs : S[z]? = some s) : reqsU S (z + 1) = reqsU S z ++ s.qs.map fun e => ⟨z, e.n, e.d⟩ := by
  unfold reqsU
  rw [List.range_succ, List.flatMap_append]
  simp [hs]
theorem reqsU_len {S : List Sn} {C : Nat} (hC : ∀ s ∈ S, s.qs.length ≤ C) : ∀ z, (reqsU S z).length ≤ z * C
  | 0 => by simp [reqsU]
  | z + 1 => by
    have ih := reqsU_len hC z
    cases hs : S[z]? with
    | none =>
      have : reqsU S (z + 1) = reqsU S z := by unfold reqsU; rw [List.range_succ, List.flatMap_append]; simp [hs]
      rw [this, Nat.add_mul]; omega
    | some s =>
      have := hC s (List.mem_of_getElem? hs)
      rw [reqsU_step hs, List.length_append, List.length_map, Nat.add_mul]; omega
theorem reqsU_lt {S : List Sn} {r : Rq} : ∀ z, z ≤ S.length → r ∈ reqsU S z → r.i < S.length := fun z hz hr => by
  obtain ⟨i, hi, hr⟩ := List.mem_flatMap.1 hr
  rw [List.mem_range] at hi
  cases hs : S[i]? with
  | none => rw [hs] at hr; cases hr
  | some s =>
    rw [hs] at hr
    obtain ⟨e, _, rfl⟩ := List.mem_map.1 hr
    show i < S.length
    omega
/-- A request is told, and answered. -/
def reqF (S : List Sn) (r : Rq) : List Sn := match S[r.i]? with
  | some s0 => updI (S.mapIdx (gleanF r.i s0.n s0.d)) r.i (ansF (S.mapIdx (gleanF r.i s0.n s0.d)) r.i r.n r.d (S.mapIdx (gleanF r.i s0.n s0.d)).length)
  | none => S
theorem reqF_len (S : List Sn) (r : Rq) : (reqF S r).length = S.length := by
  unfold reqF
  split
  · rw [updI_len, List.length_mapIdx]
  · rfl
theorem reqFs_len (R : List Rq) : ∀ S : List Sn, (R.foldl reqF S).length = S.length := by
  induction R with
  | nil => exact fun S => rfl
  | cons r R ih => exact fun S => by rw [List.foldl_cons, ih, reqF_len]
theorem glean_len (i : Nat) (n d : Int) (k : Nat) (o : Sn) : (gleanF i n d k o).hs.length ≤ o.hs.length + 1 := by
  unfold gleanF
  split
  · exact learn_len _ _ _ _
  · omega
theorem reqF_hs {S : List Sn} {r : Rq} {B : Nat} (hB : ∀ s ∈ S, s.hs.length ≤ B) (hS : S.length ≤ 100) : ∀ s ∈ reqF S r, s.hs.length ≤ B + 101 := fun s hs => by
  unfold reqF at hs
  split at hs
  · rename_i s0 h0
    have h1 : ∀ s ∈ S.mapIdx (gleanF r.i s0.n s0.d), s.hs.length ≤ B + 1 := fun s hs => by
      obtain ⟨i, hi, rfl⟩ := List.getElem_of_mem hs
      rw [List.getElem_mapIdx]
      rw [List.length_mapIdx] at hi
      have := glean_len r.i s0.n s0.d i S[i]
      have := hB S[i] (List.getElem_mem hi)
      omega
    unfold updI at hs
    split at hs
    · rename_i s1 h2
      rcases List.mem_or_eq_of_mem_set hs with g | g
      · have := h1 s g; omega
      · rw [g]
        have := ans_len (S.mapIdx (gleanF r.i s0.n s0.d)) r.i r.n r.d (S.mapIdx (gleanF r.i s0.n s0.d)).length s1
        have := h1 s1 (List.mem_of_getElem? h2)
        rw [List.length_mapIdx] at *
        omega
    · have := h1 s hs; omega
  · have := hB s hs; omega
theorem reqFs_hs {B : Nat} : ∀ (R : List Rq) {S : List Sn}, (∀ s ∈ S, s.hs.length ≤ B) → S.length ≤ 100 → ∀ s ∈ R.foldl reqF S, s.hs.length ≤ B + 101 * R.length := by
  intro R
  induction R generalizing B with
  | nil => exact fun h _ s hs => by have := h s hs; simp; omega
  | cons r R ih =>
    intro S h hl s hs
    have := ih (B := B + 101) (reqF_hs h hl) (by rw [reqF_len]; exact hl) s hs
    simp only [List.length_cons]; omega
theorem reqF_qs {S : List Sn} {r : Rq} {C : Nat} (hC : ∀ s ∈ S, s.qs.length ≤ C) : ∀ s ∈ reqF S r, s.qs.length ≤ C := fun s hs => by
  unfold reqF at hs
  split at hs
  · rename_i s0 h0
    have h1 : ∀ s ∈ S.mapIdx (gleanF r.i s0.n s0.d), s.qs.length ≤ C := fun s hs => by
      obtain ⟨i, hi, rfl⟩ := List.getElem_of_mem hs
      rw [List.getElem_mapIdx]
      rw [List.length_mapIdx] at hi
      have := hC S[i] (List.getElem_mem hi)
      unfold gleanF
      split
      · rw [(learn_core _ _ _ _).2.2.2.2.2.2.2]; exact this
      · exact this
    unfold updI at hs
    split at hs
    · rename_i s1 h2
      rcases List.mem_or_eq_of_mem_set hs with g | g
      · exact h1 s g
      · rw [g, (ans_core _ _ _ _ _ _).2.2.2.2.2.2.2]; exact h1 s1 (List.mem_of_getElem? h2)
    · exact h1 s hs
  · exact hC s hs
theorem reqFs_qs {C : Nat} : ∀ (R : List Rq) {S : List Sn}, (∀ s ∈ S, s.qs.length ≤ C) → ∀ s ∈ R.foldl reqF S, s.qs.length ≤ C := by
  intro R
  induction R with
  | nil => exact fun h => h
  | cons r R ih => exact fun h => ih (reqF_qs h)
/-- What a station asks for still. -/
def keepF (s : Sn) : Sn := { s with qs := s.qs.filter fun e => !(decide (5 ≤ e.s) || decide (0 ≤ hintI s e.n e.d)) }
def askS (S : List Sn) : List Sn := ((reqs S).foldl reqF (S.map incF)).map keepF
theorem store_rq (h : AH) (x : Rq) : ∃ h2, aStore T 86 (.ptr h.next 0) (.agg [.int .i64 (x.i : Nat), .int .i64 x.n, .int .i64 x.d]) (h.alloc (.cells [.int .i64 0, .int .i64 0, .int .i64 0] .own)) = some h2 ∧ h2.next = h.next + 1 ∧ h2.get h.next = some (.cells [.int .i64 (x.i : Nat), .int .i64 x.n, .int .i64 x.d] .own) ∧ Grow h h2 := by
  have h1 := store_n (T := T) (t := 86) (b := h.next) (o := 0) (v := .agg x.av) (vs := x.av) (h := h.alloc (.cells [.int .i64 0, .int .i64 0, .int .i64 0] .own)) (cs := [.int .i64 0, .int .i64 0, .int .i64 0]) T86 rfl (by rw [s86]; rfl) rfl (by rw [AH.get_alloc, if_pos rfl]) (by simp [Rq.len])
  refine ⟨_, h1, by simp, by rw [AH.get_put, if_pos rfl]; rfl, by simp, fun c hc => ?_⟩
  rw [AH.get_put, if_neg (by omega), AH.get_alloc, if_neg (by omega)]
def AskE (p : Nat) (lo hi : Int) (S2 : List Sn) (h : AH) (off : Nat → Prop) (r : Rs) : Prop := ∃ h2 off2, r = some (.tup [], h2) ∧ Lk h2 p lo hi S2 off2 ∧ Stf h h2 off off2
theorem V28 {I : Nat → Option (List AV → AH → Rs)} (h71 : I 71 = none) (h60 : I 60 = none) (h65 : I 65 = none) (h52 : I 52 = none) (h39 : I 39 = none) (h46 : I 46 = none) (h34 : I 34 = none) (h53 : I 53 = none) (h42 : I 42 = none) (h43 : I 43 = none) (h47 : I 47 = none) (h44 : I 44 = none) (h28 : I 28 = none) (h48 : I 48 = none) (h45 : I 45 = none) (m p : Nat) (lo hi : Int) (S : List Sn) (off : Nat → Prop) (h : AH) (B C : Nat) (hL : Lk h p lo hi S off) (hSl : S.length ≤ 100) (hB : ∀ s ∈ S, s.hs.length ≤ B) (hC : ∀ s ∈ S, s.qs.length ≤ C) (hm : B + 10100 * C + 300 ≤ m ∧ m ≤ 900000000) :
    AskE p lo hi (askS S) h off (call F I T (m + 300) 28 [.ptr p 0] h) := by
  obtain ⟨own, sv, M, hM, rfl, rfl⟩ := hL
  obtain ⟨fr, g⟩ := hM.g
  have hlen : ∀ h, aLen T 56 sv h = some (.int .i64 (M.length : Nat)) := fun h => hM.r.len T56 d56
  rw [List.length_map] at hSl
  obtain ⟨S, hS⟩ : ∃ S, S = M.map Sm.s := ⟨_, rfl⟩
  rw [← hS] at hB hC ⊢
  have hSM : S.length = M.length := by rw [hS, List.length_map]
  obtain ⟨Qf, hQf⟩ : ∃ Qf, Qf = AskE p lo hi (askS S) h fun c => own c = 0 := ⟨_, rfl⟩
  rw [← hQf]
  have hP0 : PQ h h own p lo hi sv M .nils [] := { L := hM, xr := RowC.nil _ _, ro := fun _ _ _ _ _ _ e => (by cases e), rf := fun _ _ _ _ _ _ e => (by cases e), st := Stf.refl _ _ }
  have hRl := reqsU_len hC
  have hRb : ∀ z, z ≤ M.length → (reqsU S z).length ≤ 100 * C := fun z hz => Nat.le_trans (hRl z) (Nat.mul_le_mul_right _ (by omega))
  rw [call_code (by decide) h28 F28 rfl]; simp only [Try.f28, Option.getD]
  simp +contextual (maxSteps := 3000000) only [↓ops_nil, ↓ops_cons, run_none, ↓run0_v, ↓seqK_normal, put_same, put_ne, env0_at, ev_tmp, ev_const, oc_int, oc_nils, o_move, o_assign, o_len, o_load, o_nilCheck, o_fieldAddr, g_none, nil_ptr, Option.getD_some, not_false_eq_true, Nat.reduceAdd, reduceCtorEq, List.getElem?_cons_zero, List.getElem?_cons_succ, ne_eq, ↓cd_seq, ↓cd_region, ↓cd_block, fa_ptr T58 p58_3 (by decide), load_p1 T56 a56, loadc_def, g, hlen]
  refine iterL_wp (Q := fun r => Qf r) (N := M.length) (Inv := fun k e h' => ∃ z M2 rq, k + z = M.length ∧ PQ h h' own p lo hi sv M2 rq (reqsU S z) ∧ M2.map Sm.s = uptoG incF S z ∧ z ≤ M.length ∧ e 0 = .ptr p 0 ∧ e 2 = rq ∧ e 13 = sv ∧ e 14 = .int .i64 (M.length : Nat) ∧ e 15 = .int .i64 (z : Nat)) ?_ ?_ (show M.length < m + 299 by omega)
  · rintro k e h' K' ⟨z, M2, rq, hk, hP, hMs, hzl, e0, e2, e13, e14, e15⟩ hnext hexit
    have hl2 : M2.length = M.length := by have := congrArg List.length hMs; rw [List.length_map, uptoG_len] at this; omega
    by_cases hz : z < M.length
    · have c1 : (z : Int) < (M.length : Int) := by omega
      have c7 : IntKind.i64.wrap ((z : Int) + 1) = ((z + 1 : Nat) : Int) := by rw [wrap_i64 (by omega) (by omega)]; rfl
      obtain ⟨s, hs⟩ : ∃ s, S[z]? = some s := ⟨S[z]'(by omega), List.getElem?_eq_getElem (by omega)⟩
      obtain ⟨q, hq, hqs⟩ := map_at hMs (uptoG_get incF S hs)
      obtain ⟨b, cs, bk, w1, w2, w3⟩ := loadM hP.L.r hq
      have gq := StOk.ptr hP.L hq
      have hla : ∀ h, aLen T 61 q.av h = some (.int .i64 (s.qs.length : Nat)) := fun h => by rw [← hqs]; exact (hP.L.s z q hq).ra.len T61 d61
      have hsC := hC s (List.mem_of_getElem? hs)
      have hzR := hRb z hzl
      have hnext0 := hnext
      obtain ⟨k0, hk0⟩ : ∃ k0, k0 = k := ⟨k, rfl⟩
      simp +contextual (maxSteps := 3000000) only [aCond_bool, ↓ops_nil, ↓ops_cons, run_none, ↓run0_v, ↓seqK_normal, put_same, put_ne, ev_tmp, ev_const, oc_int, o_move, o_assign, o_bin, o_len, o_load, o_nilCheck, o_fieldAddr, o_indexAddr, g_none, bin_lss, nil_ptr, decide_eq_true_eq, ↓reduceIte, Nat.reduceEqDiff, not_false_eq_true, Nat.reduceAdd, List.getElem?_cons_zero, List.getElem?_cons_succ, ne_eq, ↓cd_skip, ↓cd_seq, ↓cd_region, ↓cd_cond, ↓cd_block, loadc_def, load_p1 T59 a59, fa_ptr T64 p64_5 (by decide), load_p1 T61 a61, e13, e14, e15, c1, w1, w2, w3, gq, hla]
      refine iterL_wp (Q := fun r => Qf r) (N := s.qs.length) (Inv := fun k e h' => ∃ y M3 q3 rq3, k + y = s.qs.length ∧ PQ h h' own p lo hi sv M3 rq3 (reqsU S z ++ (s.qs.take y).map fun e => ⟨z, e.n, e.d⟩) ∧ M3.map Sm.s = (uptoG incF S z).set z { s with qs := uptoG inc s.qs y } ∧ (M3[z]? = some q3 ∧ q3.a = q.a) ∧ y ≤ s.qs.length ∧ e 0 = .ptr p 0 ∧ e 2 = rq3 ∧ e 3 = .int .i64 (z : Nat) ∧ e 4 = .ptr q.a 0 ∧ e 13 = sv ∧ e 14 = .int .i64 (M.length : Nat) ∧ e 15 = .int .i64 (z : Nat) ∧ e 24 = .int .i64 (s.qs.length : Nat) ∧ e 25 = .int .i64 (y : Nat)) ?_ ?_ (show s.qs.length < m + 299 by omega)
      · rintro k e h' K' ⟨y, M3, q3, rq3, hk, hP3, hMs3, hq3, hyl, e0, e2, e3, e4, e13, e14, e15, e24, e25⟩ hnext hexit
        by_cases hy : y < s.qs.length
        · have r1 : (y : Int) < (s.qs.length : Int) := by omega
          have r7 : IntKind.i64.wrap ((y : Int) + 1) = ((y + 1 : Nat) : Int) := by rw [wrap_i64 (by omega) (by omega)]; rfl
          obtain ⟨hq3a, hq3b⟩ := hq3
          have hzu : z < (uptoG incF S z).length := by rw [uptoG_len]; omega
          have hq3s : q3.s = { s with qs := uptoG inc s.qs y } := by
            have h1 := congrArg (fun l => l[z]?) hMs3
            simp only [List.getElem?_map, hq3a, Option.map_some, List.getElem?_set_self hzu] at h1
            exact Option.some.inj h1
          obtain ⟨ak, he⟩ : ∃ ak, s.qs[y]? = some ak := ⟨s.qs[y], List.getElem?_eq_getElem hy⟩
          have heq : q3.s.qs[y]? = some ak := by rw [hq3s]; exact uptoG_get inc s.qs he
          have hS3 := hP3.L.s z q3 hq3a
          have gq3 := StOk.ptr hP3.L hq3a
          rw [hq3b] at gq3
          obtain ⟨b1, cs1, bk1, x1, x2, x3, x4⟩ := loadAs hS3.ra heq
          have x5 : cs1[y * 3 + 2]? = some (.int .i64 ak.s) := by
            have := congrArg (fun l => l[2]?) x4
            simpa [List.getElem?_take, List.getElem?_drop] using this
          obtain ⟨b2, h2, y1, y2, y3, y4, y5, _⟩ := storeC As.av 3 As.len T61 d61 T74 s74 T3 s3 (y := inc ak) (w := .int .i64 (IntKind.i64.wrap (ak.s + 1))) (j := 2) hS3.ra heq (by decide) rfl rfl rfl
          have hbb : b2 = b1 := by rw [x1] at y1; cases y1; rfl
          subst hbb
          obtain ⟨tL, tS⟩ := hP3.L.rowA hq3a (as2 := q3.s.qs.set y (inc ak)) (by rw [List.length_set]; exact y3) y4 y5
          have avo : ∀ c, own c = 0 → offRow q3.av c := fun c hc b o l k z x e' g' => by
            have := (hS3.ax _ _ _ _ _ _ e').1
            rw [← g', hc] at this; omega
          have hP4 := hP3.move (by omega) (fun c hc ho => y5 c (avo c ho)) tL
          obtain ⟨h3, f1, f2, f3, f4, f5⟩ := run39 h71 h60 h65 h52 h39 (m + 296) p lo hi own sv _ h2 hP4.L
          have hP5 := hP4.move (by omega) (fun c hc ho => f5 c (fun e => by rw [e, hP4.L.op] at ho; cases ho)) f2
          have hzm : z < M3.length := (List.getElem?_eq_some_iff.1 hq3a).1
          have hq5 : (M3.set z { q3 with s := { q3.s with qs := q3.s.qs.set y (inc ak) } })[z]? = some { q3 with s := { q3.s with qs := q3.s.qs.set y (inc ak) } } := List.getElem?_set_self hzm
          have gq5 := StOk.ptr hP5.L hq5
          simp only at gq5
          rw [hq3b] at gq5
          have gq4 := StOk.ptr hP4.L hq5
          simp only at gq4
          rw [hq3b] at gq4
          have hS5 := hP5.L.s z _ hq5
          obtain ⟨b3, cs3, bk3, u1, u2, u3, u4⟩ := loadAs hS5.ra (show (q3.s.qs.set y (inc ak))[y]? = some (inc ak) from List.getElem?_set_self (List.getElem?_eq_some_iff.1 heq).1)
          have hb3 : b3 = b2 := by
            have u1' := u1
            simp only at u1'
            rw [x1] at u1'; cases u1'; rfl
          subst hb3
          have u5 : List.take 2 (List.drop (y * 3) cs3) = [.int .i64 ak.n, .int .i64 ak.d] := by
            have := congrArg (fun l => l.take 2) u4
            rw [List.take_take] at this
            exact this
          have u5' : List.take 2 (List.drop (y * 3 + 0) cs3) = [.int .i64 ak.n, .int .i64 ak.d] := u5
          have u6 : y * 3 + 2 ≤ cs3.length := by omega
          have u6' : y * 3 + 0 + 2 ≤ cs3.length := by omega
          obtain ⟨rq5, h4, v1, hP6⟩ := hP5.push ⟨z, ak.n, ak.d⟩ (by rw [List.length_append, List.length_map, List.length_take]; omega)
          simp +contextual (maxSteps := 3000000) only [aCond_bool, ↓ops_nil, ↓ops_cons, run_none, ↓run0_v, ↓run0_h, ↓run0_r, ↓seqK_normal, ↓blkK_normal, put_same, put_ne, put_none, ev_tmp, ev_const, ev_func, oc_int, o_move, o_assign, o_bin, o_call, o_build, o_buildSlice, o_load, o_store, o_nilCheck, o_fieldAddr, o_indexAddr, o_append, g_none, bin_add, bin_lss, nil_ptr, Option.bind_some, Option.map_some, decide_eq_true_eq, ↓reduceIte, Nat.reduceEqDiff, not_false_eq_true, Nat.reduceAdd, Nat.reduceMul, reduceCtorEq, List.getElem?_cons_zero, List.getElem?_cons_succ, List.map_cons, List.map_nil, List.append_nil, List.nil_append, List.cons_append, and_true, Nat.reduceLeDiff, Nat.le_refl, ne_eq, ↓cd_skip, ↓cd_seq, ↓cd_region, ↓cd_cond, ↓cd_block, loadc_def, fa_ptr T64 p64_5 (by decide), load_p1 T61 a61, fa_ptr T74 p74_1 (by decide), load_p1 T3 a3, run0_h, fa_ptr T74 p74_0 (by decide), load_pA T35 a35, s35, loadn_def, build_struct T86 d86, z86, parts_eq, fillA, AV.cells, AH.splice, List.take_succ_cons, List.take_zero, List.drop_succ_cons, List.drop_zero, List.drop_nil, List.length_cons, List.length_nil, p86_0, p86_1, buildSl T84 d84 T86 (n := 1) (by rw [s86]; decide), s86, repl, List.drop_succ_cons, List.length_cons, List.length_nil, List.drop_zero, List.take_succ_cons, List.take_zero, Nat.zero_add, Nat.add_zero, e0, e2, e3, e4, e24, e25, r1, gq3, x1, x2, x5, y2, f1, gq5, u2, u5, u6, v1, r7, callV_fn (g := 39) (by decide)]
          refine hnext (k - 1) _ _ (by omega) ⟨y + 1, M3.set z { q3 with s := { q3.s with qs := q3.s.qs.set y (inc ak) } }, { q3 with s := { q3.s with qs := q3.s.qs.set y (inc ak) } }, rq5, by omega, ?_, ?_, ?_, ?_, ?_, ?_, ?_, ?_, ?_, ?_, ?_, ?_, ?_⟩
          · exact (by rw [List.take_add_one, he, List.map_append, ← List.append_assoc]; exact hP6)
          · exact (by rw [map_set_s, hMs3, List.set_set, hq3s, uptoG_step inc s.qs he])
          · exact ⟨hq5, hq3b⟩
          · omega
          · simp only [put_ne, not_false_eq_true, reduceCtorEq, ne_eq, e0]
          · simp only [put_same, put_ne, Nat.reduceEqDiff, not_false_eq_true, ne_eq]
          · simp only [put_ne, Nat.reduceEqDiff, not_false_eq_true, Nat.succ_ne_self, ne_eq, e3]
          · simp only [put_ne, Nat.reduceEqDiff, not_false_eq_true, ne_eq, e4]
          · simp only [put_ne, Nat.reduceEqDiff, not_false_eq_true, ne_eq, e13]
          · simp only [put_ne, Nat.reduceEqDiff, not_false_eq_true, ne_eq, e14]
          · simp only [put_ne, Nat.reduceEqDiff, not_false_eq_true, ne_eq, e15]
          · simp only [put_ne, Nat.reduceEqDiff, not_false_eq_true, ne_eq, e24]
          · simp only [put_same]
        · have r1 : ¬ (y : Int) < (s.qs.length : Int) := by omega
          rw [List.take_of_length_le (by omega), ← reqsU_step hs] at hP3
          have hyn : y = s.qs.length := by omega
          rw [hyn, uptoG_all] at hMs3
          simp +contextual (maxSteps := 3000000) only [aCond_bool, ↓ops_nil, ↓ops_cons, run_none, ↓run0_v, ↓seqK_normal, ↓seqK_exit, put_same, ev_tmp, o_bin, g_none, bin_lss, decide_eq_true_eq, ↓reduceIte, ↓cd_seq, ↓cd_region, ↓cd_cond, ↓cd_exit, e24, e25, r1]
          refine hexit _ _ _ (by simp) ?_
          simp +contextual (maxSteps := 3000000) only [↓ops_nil, ↓ops_cons, run_none, ↓run0_v, ↓seqK_normal, ↓blkK_normal, ↓blkK_exit, put_same, put_ne, ev_tmp, ev_const, oc_int, o_move, o_bin, g_none, bin_add, ↓reduceIte, Nat.reduceEqDiff, not_false_eq_true, ne_eq, ↓cd_region, e15, c7]
          refine hnext0 (k0 - 1) _ _ (by omega) ⟨z + 1, M3, rq3, by omega, hP3, by rw [hMs3, uptoG_step incF S hs]; rfl, by omega, ?_, ?_, ?_, ?_, ?_⟩
          all_goals simp +contextual (maxSteps := 3000000) only [put_same, put_ne, Nat.reduceEqDiff, not_false_eq_true, reduceCtorEq, ne_eq, e0, e2, e13, e14]
      · refine ⟨0, M2, q, rq, by omega, ?_, ?_, ?_, ?_, ?_, ?_, ?_, ?_, ?_, ?_, ?_, ?_, ?_⟩
        · exact (by rw [List.take_zero, List.map_nil, List.append_nil]; exact hP)
        · exact (by rw [uptoG_zero, hMs]; exact (set_same (uptoG_get incF S hs)).symm)
        · exact ⟨hq, rfl⟩
        · omega
        · simp only [put_ne, not_false_eq_true, reduceCtorEq, ne_eq, e0]
        · simp only [put_ne, Nat.reduceEqDiff, not_false_eq_true, ne_eq, e2]
        · simp only [put_same, put_ne, Nat.reduceEqDiff, not_false_eq_true, ne_eq]
        · simp only [put_same, put_ne, Nat.reduceEqDiff, not_false_eq_true, ne_eq]
        · simp only [put_ne, Nat.reduceEqDiff, not_false_eq_true, ne_eq, e13]
        · simp only [put_ne, Nat.reduceEqDiff, not_false_eq_true, ne_eq, e14]
        · simp only [put_ne, Nat.reduceEqDiff, not_false_eq_true, ne_eq, e15]
        · simp only [put_same, put_ne, Nat.reduceEqDiff, not_false_eq_true, ne_eq]
        · simp only [put_same]; rfl
    · have c1 : ¬ (z : Int) < (M.length : Int) := by omega
      have hin : z = M.length := by omega
      obtain ⟨R, hR⟩ : ∃ R, R = reqs S := ⟨_, rfl⟩
      have hRe : reqsU S z = R := by rw [hR, hin, ← hSM]; rfl
      have hRn : R.length ≤ 100 * C := by rw [← hRe]; exact hRb z hzl
      have hRi : ∀ r ∈ R, r.i < S.length := fun r hr => reqsU_lt S.length (Nat.le_refl _) (by rw [hR] at hr; exact hr)
      rw [hRe] at hP
      rw [hin, ← hSM, uptoG_all] at hMs
      obtain ⟨S1, hS1⟩ : ∃ S1, S1 = S.map incF := ⟨_, rfl⟩
      rw [← hS1] at hMs
      have hS1l : S1.length = S.length := by rw [hS1, List.length_map]
      have hB1 : ∀ s ∈ S1, s.hs.length ≤ B := fun s hs => by
        rw [hS1] at hs
        obtain ⟨s', hs', rfl⟩ := List.mem_map.1 hs
        exact hB s' hs'
      have hlr : ∀ h, aLen T 84 rq h = some (.int .i64 (R.length : Nat)) := fun h => hP.xr.len T84 d84
      have hApt : Apt (fun c => own c = 0) (offRow rq) := fun c => by
        by_cases o0 : own c = 0
        · exact .inl o0
        · exact .inr fun b o l k z x e g => o0 (by rw [g]; exact hP.ro _ _ _ _ _ _ e)
      have hLk : Lk h' p lo hi S1 (fun c => own c = 0) := ⟨own, sv, M2, hP.L, hMs.symm, rfl⟩
      simp +contextual (maxSteps := 3000000) only [aCond_bool, ↓ops_nil, ↓ops_cons, run_none, ↓run0_v, ↓seqK_normal, ↓seqK_exit, put_same, ev_tmp, o_bin, g_none, bin_lss, decide_eq_true_eq, ↓reduceIte, ↓cd_seq, ↓cd_region, ↓cd_cond, ↓cd_exit, e14, e15, c1]
      refine hexit _ _ _ (by simp) ?_
      simp +contextual (maxSteps := 3000000) only [↓ops_nil, ↓ops_cons, run_none, ↓run0_v, ↓seqK_normal, ↓blkK_exit, put_same, put_ne, ev_tmp, ev_const, oc_int, o_move, o_len, g_none, ↓reduceIte, Nat.reduceEqDiff, not_false_eq_true, ne_eq, ↓cd_seq, ↓cd_region, ↓cd_block, e2, hlr]
      refine iterL_wp (Q := fun r => Qf r) (N := R.length) (Inv := fun k e h' => ∃ x off2, k + x = R.length ∧ Lk h' p lo hi ((R.take x).foldl reqF S1) off2 ∧ RowC 3 h' rq R.length (fl Rq.av R) ∧ Apt off2 (offRow rq) ∧ Stf h h' (fun c => own c = 0) off2 ∧ x ≤ R.length ∧ e 0 = .ptr p 0 ∧ e 56 = rq ∧ e 57 = .int .i64 (R.length : Nat) ∧ e 58 = .int .i64 (x : Nat)) ?_ ?_ (show R.length < m + 299 by omega)
      · rintro k e h' K' ⟨x, off2, hk, hL2, hrq, hA2, hst, hxl, e0, e56, e57, e58⟩ hnext hexit
        by_cases hx : x < R.length
        · have d1 : (x : Int) < (R.length : Int) := by omega
          have d7 : IntKind.i64.wrap ((x : Int) + 1) = ((x + 1 : Nat) : Int) := by rw [wrap_i64 (by omega) (by omega)]; rfl
          obtain ⟨rr, hrr⟩ : ∃ rr, R[x]? = some rr := ⟨R[x], List.getElem?_eq_getElem hx⟩
          obtain ⟨b, cs, bk, w1, w2, w3, w4⟩ := loadRq hrq hrr
          obtain ⟨h2, y1, y2, y3, y4⟩ := store_rq h' rr
          obtain ⟨S', hS'⟩ : ∃ S', S' = (R.take x).foldl reqF S1 := ⟨_, rfl⟩
          rw [← hS'] at hL2
          have hS'l : S'.length = S.length := by rw [hS', reqFs_len, hS1l]
          have hB' : ∀ s ∈ S', s.hs.length ≤ B + 10100 * C := fun s hs => by
            rw [hS'] at hs
            have := reqFs_hs (R.take x) hB1 (by omega) s hs
            rw [List.length_take] at this
            omega
          obtain ⟨s0, hs0⟩ : ∃ s0, S'[rr.i]? = some s0 := by
            have hri := hRi rr (List.mem_of_getElem? hrr)
            rw [← hS'l] at hri
            exact ⟨_, List.getElem?_eq_getElem hri⟩
          have hb0 := hB' s0 (List.mem_of_getElem? hs0)
          obtain ⟨h3, off3, k1, k2, k3⟩ := V42 h46 h34 h53 h42 h48 (m + 119) p rr.i lo hi S' s0 off2 h2 (hL2.grow y4) hs0 (by omega) (fun s hs => by have := hB' s hs; omega)
          have bo := k3.2 h'.next (by omega) (hL2.off_ge (Nat.le_refl _))
          have y5 := bo.1.trans y3
          have hs1 : (S'.mapIdx (gleanF rr.i s0.n s0.d))[rr.i]? = some s0 := by
            rw [List.getElem?_mapIdx, hs0, Option.map_some]
            unfold gleanF
            rw [if_neg (fun g => g.1 rfl)]
          obtain ⟨h4, off4, l1, l2, l3⟩ := V43 h71 h60 h65 h52 h39 h46 h34 h53 h43 h48 (m + 119) p rr.i lo hi rr.n rr.d (S'.mapIdx (gleanF rr.i s0.n s0.d)) s0 off3 h3 k2 hs1 (by rw [List.length_mapIdx]; omega) (by omega)
          have g4 := y4
          obtain ⟨ra1, rb1⟩ := (hrq.grow y4).other hA2 k3
          obtain ⟨ra2, rb2⟩ := ra1.other rb1 l3
          have f2 : List.take 2 (List.drop 1 [AV.int .i64 (rr.i : Nat), .int .i64 rr.n, .int .i64 rr.d]) = [.int .i64 rr.n, .int .i64 rr.d] := rfl
          have htk : (R.take (x + 1)).foldl reqF S1 = updI (S'.mapIdx (gleanF rr.i s0.n s0.d)) rr.i (ansF (S'.mapIdx (gleanF rr.i s0.n s0.d)) rr.i rr.n rr.d (S'.mapIdx (gleanF rr.i s0.n s0.d)).length) := by
            rw [List.take_add_one, hrr, List.foldl_append, ← hS']
            show reqF S' rr = _
            unfold reqF
            rw [hs0]
          simp +contextual (maxSteps := 3000000) only [aCond_bool, ↓ops_nil, ↓ops_cons, run_none, ↓run0_v, ↓run0_h, ↓run0_r, ↓seqK_normal, ↓blkK_normal, put_same, put_ne, put_none, ev_tmp, ev_const, ev_func, oc_int, o_move, o_bin, o_call, o_alloc, o_load, o_store, o_fieldAddr, o_indexAddr, g_none, bin_add, bin_lss, Option.map_some, decide_eq_true_eq, ↓reduceIte, Nat.reduceEqDiff, not_false_eq_true, Nat.reduceAdd, reduceCtorEq, List.getElem?_cons_zero, List.map_cons, List.map_nil, List.append_nil, List.nil_append, Nat.le_refl, ne_eq, ↓cd_skip, ↓cd_seq, ↓cd_region, ↓cd_cond, ↓cd_block, loadc_def, load_p1 T3 a3, run0_h, load_pA T35 a35, s35, loadn_def, z86, List.take_succ_cons, List.take_nil, List.drop_succ_cons, List.drop_zero, List.length_cons, List.length_nil, s86, load_pA T86 a86, alloc_t T86, fa_ptr T86 p86_0 (by decide), fa_ptr T86 p86_1 (by decide), List.drop_succ_cons, List.length_cons, List.length_nil, List.drop_zero, List.take_succ_cons, List.take_nil, Nat.zero_add, Nat.add_zero, e0, e56, e57, e58, d1, w1, w2, w3, w4, y1, y3, k1, y5, l1, d7, callV_fn (g := 42) (by decide), callV_fn (g := 43) (by decide)]
          refine hnext (k - 1) _ _ (by omega) ⟨x + 1, off4, by omega, ?_, ?_, ?_, ?_, ?_, ?_, ?_, ?_, ?_⟩
          · exact (by rw [htk]; exact l2)
          · exact ra2
          · exact rb2
          · exact ((hst.trans (Stf.grow _ y4)).trans k3).trans l3
          · omega
          · simp only [put_ne, not_false_eq_true, reduceCtorEq, ne_eq, e0]
          · simp only [put_ne, Nat.reduceEqDiff, not_false_eq_true, ne_eq, e56]
          · simp only [put_ne, Nat.reduceEqDiff, not_false_eq_true, ne_eq, e57]
          · simp only [put_same]
        · have d1 : ¬ (x : Int) < (R.length : Int) := by omega
          rw [List.take_of_length_le (by omega)] at hL2
          obtain ⟨S2, hS2⟩ : ∃ S2, S2 = R.foldl reqF S1 := ⟨_, rfl⟩
          rw [← hS2] at hL2
          have hS2l : S2.length = S.length := by rw [hS2, reqFs_len, hS1l]
          have hB2 : ∀ s ∈ S2, s.hs.length ≤ B + 10100 * C := fun s hs => by
            rw [hS2] at hs
            have := reqFs_hs R hB1 (by omega) s hs
            omega
          have hC2 : ∀ s ∈ S2, s.qs.length ≤ C := fun s hs => by
            rw [hS2] at hs
            exact reqFs_qs R (fun s hs => by
              rw [hS1] at hs
              obtain ⟨s', hs', rfl⟩ := List.mem_map.1 hs
              show (s'.qs.map inc).length ≤ C
              rw [List.length_map]; exact hC s' hs') s hs
          obtain ⟨own', sv', M', hM', hSM', rfl⟩ := hL2
          obtain ⟨fr', g'⟩ := hM'.g
          have hlen' : ∀ h, aLen T 56 sv' h = some (.int .i64 (M'.length : Nat)) := fun h => hM'.r.len T56 d56
          have hM'l : M'.length = S.length := by rw [← hS2l, hSM', List.length_map]
          simp +contextual (maxSteps := 3000000) only [aCond_bool, ↓ops_nil, ↓ops_cons, run_none, ↓run0_v, ↓seqK_normal, ↓seqK_exit, put_same, ev_tmp, o_bin, g_none, bin_lss, decide_eq_true_eq, ↓reduceIte, ↓cd_seq, ↓cd_region, ↓cd_cond, ↓cd_exit, e57, e58, d1]
          refine hexit _ _ _ (by simp) ?_
          simp +contextual (maxSteps := 3000000) only [↓ops_nil, ↓ops_cons, run_none, ↓run0_v, ↓seqK_normal, ↓blkK_exit, put_same, put_ne, ev_tmp, ev_const, oc_int, o_move, o_len, o_load, o_nilCheck, o_fieldAddr, g_none, nil_ptr, ↓reduceIte, not_false_eq_true, Nat.reduceAdd, reduceCtorEq, List.getElem?_cons_zero, List.getElem?_cons_succ, ne_eq, ↓cd_seq, ↓cd_region, ↓cd_block, fa_ptr T58 p58_3 (by decide), load_p1 T56 a56, loadc_def, e0, g', hlen']
          refine iterL_wp (Q := fun r => Qf r) (N := M'.length) (Inv := fun k e h' => ∃ u own3 M3, k + u = M'.length ∧ LkOk h' own3 p lo hi sv' M3 ∧ M3.map Sm.s = uptoG keepF S2 u ∧ Stf h h' (fun c => own c = 0) (fun c => own3 c = 0) ∧ u ≤ M'.length ∧ e 0 = .ptr p 0 ∧ e 76 = sv' ∧ e 77 = .int .i64 (M'.length : Nat) ∧ e 78 = .int .i64 (u : Nat)) ?_ ?_ (show M'.length < m + 299 by omega)
          · rintro k e h' K' ⟨u, own3, M3, hk, hL3, hMs3, hst3, hul, e0, e76, e77, e78⟩ hnext hexit
            by_cases hu : u < M'.length
            · have r1 : (u : Int) < (M'.length : Int) := by omega
              have r7 : IntKind.i64.wrap ((u : Int) + 1) = ((u + 1 : Nat) : Int) := by rw [wrap_i64 (by omega) (by omega)]; rfl
              obtain ⟨s, hs⟩ : ∃ s, S2[u]? = some s := ⟨S2[u]'(by omega), List.getElem?_eq_getElem (by omega)⟩
              obtain ⟨q, hq, hqs⟩ := map_at hMs3 (uptoG_get keepF S2 hs)
              obtain ⟨b, cs, bk, w1, w2, w3⟩ := loadM hL3.r hq
              have gq := StOk.ptr hL3 hq
              obtain ⟨h1, e1'⟩ : ∃ h1, h1 = (h'.alloc (.cells [.nilp] .own)).put h'.next (.cells [.ptr q.a 0] .own) := ⟨_, rfl⟩
              have y1 : aStore T 59 (.ptr h'.next 0) (.ptr q.a 0) (h'.alloc (.cells [.nilp] .own)) = some h1 := by
                have gz : (h'.alloc (.cells [.nilp] .own)).get h'.next = some (.cells [.nilp] .own) := by rw [AH.get_alloc, if_pos rfl]
                rw [e1']; exact store_1 T59 s59 rfl rfl gz (by simp)
              have y3 : h1.get h'.next = some (.cells [.ptr q.a 0] .own) := by rw [e1', AH.get_put, if_pos rfl]
              have y2 : h1.next = h'.next + 1 := by rw [e1']; simp
              have gA : Grow h' h1 := ⟨by omega, fun c hc => by rw [e1', AH.get_put, if_neg (by omega), AH.get_alloc, if_neg (by omega)]⟩
              have hL4 := hL3.grow gA
              have hS4 := hL4.s u q hq
              have gq4 := StOk.ptr hL4 hq
              have hB4 := hB2 s (List.mem_of_getElem? hs)
              have hC4 := hC2 s (List.mem_of_getElem? hs)
              have avlt : ∀ b o l k z x, q.av = .sl b o l k z x → b < h'.next := fun b o l k z x e => (hL3.s u q hq).ra.lt e
              obtain ⟨v2, h2, k1, k2, k3, k4⟩ := run44x h47 h44 (m + 248) 45 (by decide) [.ptr h'.next 0] (fun e => decide (5 ≤ e.s) || decide (0 ≤ hintI q.s e.n e.d)) q.av q.s.qs h1 hS4.ra (by rw [hqs]; omega) (fun n H hmn hK x hx => by
                obtain ⟨n', rfl⟩ : ∃ n', n = n' + 60 := ⟨n - 60, by omega⟩
                have ob : offRow q.av h'.next := fun b o l k z x e g => by have := avlt _ _ _ _ _ _ e; omega
                have oq : offRow q.av q.a := fun b o l k z x e g => (hS4.ax _ _ _ _ _ _ e).2 g.symm
                exact run45 h46 h34 h45 h48 n' h'.next q.a x q.s.rv q.av q.hv q.s H ((hK.2 _ (by omega) ob).trans y3) (by have := hK.1; omega) ((hK.2 _ hS4.lt oq).trans hS4.g) (Nat.lt_of_lt_of_le hS4.lt hK.1)
                  (hS4.rh.keep hK.1 fun b o l k z x e => hK.2 b (hS4.rh.lt e) fun b' o' l' k' z' x' e' g => hS4.ah _ _ _ _ _ _ e' _ _ _ _ _ _ e g.symm) (by rw [hqs]; omega))
              obtain ⟨u1, u2⟩ := k2.cells
              obtain ⟨t0, t1, t2⟩ := hL4.setA hq k2 k3.1 (fun c hc ho => k3.2 c hc ho) (fun b o l k z x e => .inr (k4 _ _ _ _ _ _ e))
              have w6 := store_1 (T := T) T61 s61 u1 u2 t0 (show 6 < 8 by decide)
              obtain ⟨h5, e5⟩ : ∃ h5, h5 = h2.put q.a (.cells [q.s.rv, .int .i64 q.s.st, .int .i64 q.s.k, .int .i64 q.s.se, .int .i64 q.s.n, .int .i64 q.s.d, v2, q.hv] .own) := ⟨_, rfl⟩
              replace w6 : aStore T 61 (.ptr q.a 6) v2 h2 = some h5 := by rw [e5]; exact w6
              rw [← e5] at t1 t2
              have y4 : h2.get h'.next = some (.cells [.ptr q.a 0] .own) := (k3.2 _ (by omega) fun b o l k z x e g => by have := avlt _ _ _ _ _ _ e; omega).trans y3
              have hne : ¬ h'.next = q.a := by have := (hL3.s u q hq).lt; omega
              have y5 : h5.get h'.next = some (.cells [.ptr q.a 0] .own) := by rw [e5, AH.get_put, if_neg hne]; exact y4
              have hQn : ∀ rr, Qf rr → Qf rr := fun _ h => h
              simp +contextual (maxSteps := 3000000) only [aCond_bool, ↓ops_nil, ↓ops_cons, run_none, ↓run0_v, ↓run0_h, ↓run0_r, ↓seqK_normal, put_same, put_ne, put_none, ev_tmp, o_bin, o_alloc, o_load, o_store, o_indexAddr, g_none, bin_lss, decide_eq_true_eq, ↓reduceIte, Nat.reduceEqDiff, not_false_eq_true, ne_eq, ↓cd_skip, ↓cd_seq, ↓cd_region, ↓cd_cond, ↓cd_block, loadc_def, load_p1 T59 a59, run0_h, alloc_t T59, z59, e76, e77, e78, r1, w1, w2, w3, y1]
              rw [code_soft (ss := [(0, 0, 9)]) (by kernel_rfl) (by kernel_rfl) (by simp)]
              simp +contextual (maxSteps := 3000000) only [↓ops_nil, ↓ops_cons, run_none, ↓run0_v, ↓run0_h, ↓run0_r, ↓seqK_normal, ↓blkK_normal, put_same, put_ne, put_none, ev_tmp, ev_const, ev_func, oc_int, o_move, o_bin, o_call, o_load, o_store, o_nilCheck, o_makeFunc, o_fieldAddr, g_none, nil_ptr, Nat.reduceEqDiff, not_false_eq_true, Nat.reduceAdd, List.getElem?_cons_zero, List.getElem?_cons_succ, List.map_cons, List.map_nil, List.append_nil, List.nil_append, List.cons_append, ne_eq, ↓cd_region, loadc_def, load_p1 T59 a59, fa_ptr T64 p64_5 (by decide), load_p1 T61 a61, run0_h, opsTr_nil, opsTr_cons, y3, gq4, k1, w6, run0_h, callV_fn (g := 44) (by decide)]
              refine soft_Q (Qf) ?_ ?_
              rotate_left
              · simp +contextual (maxSteps := 3000000) only [run_none, ↓run0_v, put_same, ev_tmp, o_load, g_none, Nat.reduceAdd, List.getElem?_cons_zero, List.getElem?_cons_succ, List.getElem?_toArray, loadc_def, load_p1 T59 a59, softOk, sameAt, stepV, same_ptr, Bool.and_true, y3, y4]
              simp +contextual (maxSteps := 3000000) only [↓run0_v, bin_add, e78, r7]
              refine hnext (k - 1) _ _ (by omega) ⟨u + 1, newOwn own3 h1.next (u + 2) v2, M3.set u { q with av := v2, s := { q.s with qs := q.s.qs.filter fun x => !(decide (5 ≤ x.s) || decide (0 ≤ hintI q.s x.n x.d)) } }, by omega, ?_, ?_, ?_, ?_, ?_, ?_, ?_, ?_⟩
              · exact t1
              · exact (by rw [map_set_s, hMs3, uptoG_step keepF S2 hs, hqs]; rfl)
              · exact (hst3.trans (Stf.grow _ gA)).trans t2
              · omega
              · simp only [put_ne, not_false_eq_true, reduceCtorEq, ne_eq, e0]
              · simp only [put_ne, Nat.reduceEqDiff, not_false_eq_true, ne_eq, e76]
              · simp only [put_ne, Nat.reduceEqDiff, not_false_eq_true, ne_eq, e77]
              · simp only [put_same]
            · have r1 : ¬ (u : Int) < (M'.length : Int) := by omega
              have hun : u = S2.length := by omega
              rw [hun, uptoG_all] at hMs3
              simp +contextual (maxSteps := 3000000) only [aCond_bool, ↓ops_nil, ↓ops_cons, run_none, ↓run0_v, ↓seqK_normal, ↓seqK_exit, put_same, ev_tmp, o_bin, g_none, bin_lss, decide_eq_true_eq, ↓reduceIte, ↓cd_seq, ↓cd_region, ↓cd_cond, ↓cd_exit, e77, e78, r1]
              refine hexit _ _ _ (by simp) ?_
              simp +contextual (maxSteps := 3000000) only [↓blkK_exit, ↓retK_normal, resultsOf, oneOrAll, Option.map_some, ↓reduceIte]
              rw [hQf]
              refine ⟨h', _, rfl, ⟨own3, sv', M3, hL3, ?_, rfl⟩, hst3⟩
              rw [hMs3]
              unfold askS
              rw [← hR, ← hS1, hS2]
          · refine ⟨0, own', M', by omega, ?_, ?_, ?_, ?_, ?_, ?_, ?_, ?_⟩
            · exact hM'
            · exact (by rw [uptoG_zero, hSM'])
            · exact hst
            · omega
            · simp only [put_ne, not_false_eq_true, reduceCtorEq, ne_eq, e0]
            · simp only [put_same, put_ne, Nat.reduceEqDiff, not_false_eq_true, ne_eq]
            · simp only [put_same, put_ne, Nat.reduceEqDiff, not_false_eq_true, ne_eq]
            · simp only [put_same]; rfl
      · refine ⟨0, fun c => own c = 0, by omega, ?_, ?_, ?_, ?_, ?_, ?_, ?_, ?_, ?_⟩
        · exact hLk
        · exact hP.xr
        · exact hApt
        · exact hP.st
        · omega
        · simp only [put_ne, not_false_eq_true, reduceCtorEq, ne_eq, e0]
        · simp only [put_same, put_ne, Nat.reduceEqDiff, not_false_eq_true, ne_eq]
        · simp only [put_same, put_ne, Nat.reduceEqDiff, not_false_eq_true, ne_eq]
        · simp only [put_same]; rfl
  · refine ⟨0, M, .nils, by omega, ?_, ?_, ?_, ?_, ?_, ?_, ?_, ?_⟩
    · exact hP0
    · exact (by rw [uptoG_zero, hS])
    · omega
    · simp only [put_ne, env0_at, Option.getD_some, not_false_eq_true, reduceCtorEq, List.getElem?_cons_zero, ne_eq]
    · simp only [put_same, put_ne, Nat.reduceEqDiff, not_false_eq_true, ne_eq]
    · simp only [put_same, put_ne, Nat.reduceEqDiff, not_false_eq_true, ne_eq]
    · simp only [put_same, put_ne, Nat.reduceEqDiff, not_false_eq_true, ne_eq]
    · simp only [put_same]; rfl
end Go.AM.X
