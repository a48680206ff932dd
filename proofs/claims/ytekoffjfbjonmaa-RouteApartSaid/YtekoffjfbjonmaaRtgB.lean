/- Tables of routes: ranges, what finds an entry, what lets some go. Own work. -/
import Derived.Test.YtekoffjfbjonmaaRtgA
namespace Go.AM.X
open Go Go.AM Go.Proofs Go.AM.Sx
set_option maxHeartbeats 3200000
set_option maxRecDepth 100000
set_option linter.unusedVariables false
theorem F53 : F 53 = some { body := (Try.f53.body.getD .skip), results := Try.f53.results.toList, rf := false } := by kernel_rfl
theorem R53 : regsOk T (Try.f53.body.getD .skip) = true := by kernel_rfl
theorem F56 : F 56 = some { body := (Try.f56.body.getD .skip), results := Try.f56.results.toList, rf := false } := by kernel_rfl
theorem R56 : regsOk T (Try.f56.body.getD .skip) = true := by kernel_rfl
theorem F97 : F 97 = some { body := (Try.f97.body.getD .skip), results := Try.f97.results.toList, rf := false } := by kernel_rfl
theorem R97 : regsOk T (Try.f97.body.getD .skip) = true := by kernel_rfl
theorem F98 : F 98 = some { body := (Try.f98.body.getD .skip), results := Try.f98.results.toList, rf := false } := by kernel_rfl
theorem R98 : regsOk T (Try.f98.body.getD .skip) = true := by kernel_rfl
theorem F104 : F 104 = some { body := (Try.f104.body.getD .skip), results := Try.f104.results.toList, rf := false } := by kernel_rfl
theorem R104 : regsOk T (Try.f104.body.getD .skip) = true := by kernel_rfl
theorem F106 : F 106 = some { body := (Try.f106.body.getD .skip), results := Try.f106.results.toList, rf := false } := by kernel_rfl
theorem R106 : regsOk T (Try.f106.body.getD .skip) = true := by kernel_rfl
theorem F103 : F 103 = some { body := (Try.f103.body.getD .skip), results := Try.f103.results.toList, rf := false } := by kernel_rfl
theorem R103 : regsOk T (Try.f103.body.getD .skip) = true := by kernel_rfl
theorem F86 : F 86 = some { body := (Try.f86.body.getD .skip), results := Try.f86.results.toList, rf := false } := by kernel_rfl
theorem R86 : regsOk T (Try.f86.body.getD .skip) = true := by kernel_rfl
theorem F88 : F 88 = some { body := (Try.f88.body.getD .skip), results := Try.f88.results.toList, rf := false } := by kernel_rfl
theorem R88 : regsOk T (Try.f88.body.getD .skip) = true := by kernel_rfl
theorem F87 : F 87 = some { body := (Try.f87.body.getD .skip), results := Try.f87.results.toList, rf := false } := by kernel_rfl
theorem R87 : regsOk T (Try.f87.body.getD .skip) = true := by kernel_rfl
theorem F89 : F 89 = some { body := (Try.f89.body.getD .skip), results := Try.f89.results.toList, rf := false } := by kernel_rfl
theorem R89 : regsOk T (Try.f89.body.getD .skip) = true := by kernel_rfl
theorem F91 : F 91 = some { body := (Try.f91.body.getD .skip), results := Try.f91.results.toList, rf := false } := by kernel_rfl
theorem R91 : regsOk T (Try.f91.body.getD .skip) = true := by kernel_rfl
theorem F95 : F 95 = some { body := (Try.f95.body.getD .skip), results := Try.f95.results.toList, rf := false } := by kernel_rfl
theorem R95 : regsOk T (Try.f95.body.getD .skip) = true := by kernel_rfl
theorem F105 : F 105 = some { body := (Try.f105.body.getD .skip), results := Try.f105.results.toList, rf := false } := by kernel_rfl
theorem R105 : regsOk T (Try.f105.body.getD .skip) = true := by kernel_rfl
theorem F107 : F 107 = some { body := (Try.f107.body.getD .skip), results := Try.f107.results.toList, rf := false } := by kernel_rfl
theorem R107 : regsOk T (Try.f107.body.getD .skip) = true := by kernel_rfl
def isR (lo hi : Int) : Bool := decide (1 ≤ lo) && decide (lo ≤ hi) && decide (hi ≤ 65279)
def mt (lo hi a b : Int) : Bool := decide (lo ≤ b) && decide (a ≤ hi)
theorem K53 {I : Nat → Option (List AV → AH → Rs)} (h53 : I 53 = none) (m : Nat) (lo hi : Int) (h : AH) : call F I T (m + 1) 53 [.int .i64 lo, .int .i64 hi] h = some (.bool (isR lo hi), h) := by
  rw [call_F (by decide) h53 F53 rfl R53]; simp only [Try.f53, Option.getD]
  simp +contextual (maxSteps := 3000000) only [↓code_seq, ↓code_region, ↓code_ret, ↓ops_nil, ↓ops_cons, run_none, run_someT, ↓run0_v, ↓seqK_normal, ↓retK_ret, put_same, put_ne, env0_at, ev_tmp, ev_const, oc_int, oc_bool, o_move, o_assign, o_pick, o_bin, g_none, g_some, pick_bool, bin_leq, bin_geq, resultsOf, oneOrAll, Option.bind_some, Option.map_some, Option.getD_some, decide_eq_true_eq, ↓reduceIte, Nat.reduceEqDiff, not_false_eq_true, reduceCtorEq, List.getElem?_cons_zero, List.getElem?_cons_succ, List.getElem?_toArray, Bool.false_eq_true, ge_iff_le, ne_eq, isR]
  (repeat' split) <;> (try simp_all) <;> (try omega)
theorem K56 {I : Nat → Option (List AV → AH → Rs)} (h56 : I 56 = none) (m : Nat) (lo hi a b : Int) (h : AH) : call F I T (m + 1) 56 [.int .i64 lo, .int .i64 hi, .int .i64 a, .int .i64 b] h = some (.bool (mt lo hi a b), h) := by
  rw [call_F (by decide) h56 F56 rfl R56]; simp only [Try.f56, Option.getD]
  simp +contextual (maxSteps := 3000000) only [↓code_seq, ↓code_region, ↓code_ret, ↓ops_nil, ↓ops_cons, run_none, run_someT, ↓run0_v, ↓seqK_normal, ↓retK_ret, put_same, put_ne, env0_at, ev_tmp, ev_const, oc_bool, o_move, o_assign, o_pick, o_bin, g_none, g_some, pick_bool, bin_leq, resultsOf, oneOrAll, Option.bind_some, Option.map_some, Option.getD_some, decide_eq_true_eq, ↓reduceIte, Nat.reduceEqDiff, not_false_eq_true, reduceCtorEq, List.getElem?_cons_zero, List.getElem?_cons_succ, List.getElem?_toArray, ne_eq, mt]
  (repeat' split) <;> (try simp_all) <;> (try omega)
theorem K97 {I : Nat → Option (List AV → AH → Rs)} (h97 : I 97 = none) (m : Nat) (lo hi : Int) (h : AH) : call F I T (m + 1) 97 [.int .i64 lo, .int .i64 hi] h = some (.bool (isR lo hi), h) := by
  rw [call_F (by decide) h97 F97 rfl R97]; simp only [Try.f97, Option.getD]
  simp +contextual (maxSteps := 3000000) only [↓code_seq, ↓code_region, ↓code_ret, ↓ops_nil, ↓ops_cons, run_none, run_someT, ↓run0_v, ↓seqK_normal, ↓retK_ret, put_same, put_ne, env0_at, ev_tmp, ev_const, oc_int, oc_bool, o_move, o_assign, o_pick, o_bin, g_none, g_some, pick_bool, bin_leq, bin_geq, resultsOf, oneOrAll, Option.bind_some, Option.map_some, Option.getD_some, decide_eq_true_eq, ↓reduceIte, Nat.reduceEqDiff, not_false_eq_true, reduceCtorEq, List.getElem?_cons_zero, List.getElem?_cons_succ, List.getElem?_toArray, Bool.false_eq_true, ge_iff_le, ne_eq, isR]
  (repeat' split) <;> (try simp_all) <;> (try omega)
theorem K98 {I : Nat → Option (List AV → AH → Rs)} (h98 : I 98 = none) (m : Nat) (lo hi a b : Int) (h : AH) : call F I T (m + 1) 98 [.int .i64 lo, .int .i64 hi, .int .i64 a, .int .i64 b] h = some (.bool (mt lo hi a b), h) := by
  rw [call_F (by decide) h98 F98 rfl R98]; simp only [Try.f98, Option.getD]
  simp +contextual (maxSteps := 3000000) only [↓code_seq, ↓code_region, ↓code_ret, ↓ops_nil, ↓ops_cons, run_none, run_someT, ↓run0_v, ↓seqK_normal, ↓retK_ret, put_same, put_ne, env0_at, ev_tmp, ev_const, oc_bool, o_move, o_assign, o_pick, o_bin, g_none, g_some, pick_bool, bin_leq, resultsOf, oneOrAll, Option.bind_some, Option.map_some, Option.getD_some, decide_eq_true_eq, ↓reduceIte, Nat.reduceEqDiff, not_false_eq_true, reduceCtorEq, List.getElem?_cons_zero, List.getElem?_cons_succ, List.getElem?_toArray, ne_eq, mt]
  (repeat' split) <;> (try simp_all) <;> (try omega)
theorem loadE {h : AH} {v : AV} {l : List E6} {i : Nat} {x : E6} (hr : RowC 6 h v l.length (fl E6.av l)) (hx : l[i]? = some x) :
    ∃ b cs kk, aIndexAddr T 36 v (.int .i64 (i : Nat)) = some (.ptr b (i * 6)) ∧ h.get b = some (.cells cs kk) ∧ i * 6 + 6 ≤ cs.length ∧ (cs.drop (i * 6)).take 6 = [.int .i64 x.lo, .int .i64 x.hi, .int .i64 x.di, .int .i64 x.po, .int .i64 x.nx, .int .i64 x.st] :=
  loadR E6.av 6 E6.len T36 d36 T60 s60 hr hx
theorem loadP {h : AH} {v : AV} {l : List Pt} {i : Nat} {x : Pt} (hr : RowC 3 h v l.length (fl Pt.enc l)) (hx : l[i]? = some x) :
    ∃ b cs kk, aIndexAddr T 81 v (.int .i64 (i : Nat)) = some (.ptr b (i * 3)) ∧ h.get b = some (.cells cs kk) ∧ i * 3 + 3 ≤ cs.length ∧ (cs.drop (i * 3)).take 3 = [.int .i64 x.lo, .int .i64 x.hi, .bool x.up] :=
  loadR Pt.enc 3 Pt.len T81 d81 T105 s105 hr hx
theorem run104 {I : Nat → Option (List AV → AH → Rs)} (h104 : I 104 = none) (m g : Nat) (hg : Nat.beq g YLD = false) (cx : List AV) (pr : E6 → Bool) (v : AV) (es : List E6) (h : AH) (hr : RowC 6 h v es.length (fl E6.av es)) (hn : es.length ≤ m ∧ es.length ≤ 1000000000)
    (kc : ∀ n h2, Grow h h2 → ∀ x ∈ es, ∃ h3, call F I T (n + 2) g (.agg [.int .i64 x.lo, .int .i64 x.hi, .int .i64 x.di, .int .i64 x.po, .int .i64 x.nx, .int .i64 x.st] :: cx) h2 = some (.bool (pr x), h3) ∧ Grow h2 h3) :
    ∃ h2, call F I T (m + 50) 104 [v, .fn g [] cx] h = some (.int .i64 (idxAt pr 0 es), h2) ∧ Grow h h2 := by
  have hlen : ∀ h, aLen T 36 v h = some (.int .i64 (es.length : Nat)) := fun h => hr.len T36 d36
  rw [call_F (by decide) h104 F104 rfl R104]; simp only [Try.f104, Option.getD]
  simp +contextual (maxSteps := 3000000) only [↓code_seq, ↓code_region, ↓code_block, ↓code_loop, ↓ops_nil, ↓ops_cons, run_none, ↓run0_v, ↓seqK_normal, put_same, put_ne, env0_at, ev_tmp, ev_const, oc_int, o_move, o_assign, o_len, g_none, Option.getD_some, not_false_eq_true, reduceCtorEq, List.getElem?_cons_zero, ne_eq, hlen]
  refine iterL_wp (Q := fun r => ∃ h2, r = some (.int .i64 (idxAt pr 0 es), h2) ∧ Grow h h2) (N := es.length) (Inv := fun k e h' => ∃ i, k + i = es.length ∧ idxAt pr 0 es = idxAt pr i (es.drop i) ∧ Grow h h' ∧ i ≤ es.length ∧ e 0 = v ∧ e 1 = .fn g [] cx ∧ e 7 = .int .i64 (es.length : Nat) ∧ e 8 = .int .i64 (i : Nat)) ?_ ?_ (by omega)
  · rintro k e h' K' ⟨i, hk, hix, hgr, hil, e0, e1, e7, e8⟩ hnext hexit
    by_cases hi : i < es.length
    · have c1 : (i : Int) < (es.length : Int) := by omega
      obtain ⟨x, hx⟩ : ∃ x, es[i]? = some x := ⟨es[i], List.getElem?_eq_getElem hi⟩
      obtain ⟨b, cs, bk, g1, g2, g3, g4⟩ := loadE (hr.grow hgr) hx
      obtain ⟨h3, kc1, kc2⟩ := kc (m + 47) h' hgr x (List.mem_of_getElem? hx)
      have c7 : IntKind.i64.wrap ((i : Int) + 1) = ((i + 1 : Nat) : Int) := by rw [wrap_i64 (by omega) (by omega)]; rfl
      rw [List.drop_eq_getElem_cons hi, (List.getElem?_eq_some_iff.1 hx).2] at hix
      simp only [idxAt] at hix
      cases hz : pr x
      · rw [hz, if_neg (by simp)] at hix
        rw [hz] at kc1
        simp +contextual (maxSteps := 3000000) only [↓code_skip, ↓code_seq, ↓code_region, ↓code_cond, ↓code_block, aCond_bool, ↓ops_nil, ↓ops_cons, run_none, ↓run0_v, ↓run0_r, ↓seqK_normal, ↓blkK_normal, put_same, put_ne, ev_tmp, ev_const, oc_int, o_move, o_assign, o_bin, o_call, o_load, o_indexAddr, g_none, bin_add, bin_lss, Option.map_some, decide_eq_true_eq, ↓reduceIte, Nat.reduceEqDiff, not_false_eq_true, reduceCtorEq, Bool.false_eq_true, List.map_cons, List.map_nil, List.nil_append, List.cons_append, ne_eq, load_pA T60 a60, s60, loadn_def, e0, e1, e7, e8, c1, g1, g2, g3, g4, callV_fn hg, kc1, c7]
        refine hnext (k - 1) _ _ (by omega) ⟨i + 1, by omega, ?_, ?_, ?_, ?_, ?_, ?_, ?_⟩
        · exact hix
        · exact hgr.trans kc2
        · omega
        · simp only [put_ne, not_false_eq_true, reduceCtorEq, ne_eq, e0]
        · simp only [put_ne, Nat.reduceEqDiff, not_false_eq_true, ne_eq, e1]
        · simp only [put_ne, Nat.reduceEqDiff, not_false_eq_true, ne_eq, e7]
        · simp only [put_same]
      · rw [hz, if_pos rfl] at hix
        rw [hz] at kc1
        simp +contextual (maxSteps := 3000000) only [↓code_skip, ↓code_seq, ↓code_region, ↓code_cond, ↓code_block, ↓code_ret, aCond_bool, ↓ops_nil, ↓ops_cons, run_none, ↓run0_v, ↓run0_r, ↓seqK_normal, ↓seqK_ret, ↓blkK_ret, put_same, put_ne, ev_tmp, o_move, o_assign, o_bin, o_call, o_load, o_indexAddr, g_none, bin_lss, Option.map_some, decide_eq_true_eq, ↓reduceIte, Nat.reduceEqDiff, not_false_eq_true, reduceCtorEq, List.map_cons, List.map_nil, List.nil_append, List.cons_append, ne_eq, load_pA T60 a60, s60, loadn_def, e0, e1, e7, e8, c1, g1, g2, g3, g4, callV_fn hg, kc1]
        refine hexit _ _ _ (by simp) ⟨h3, ?_, hgr.trans kc2⟩
        simp +contextual (maxSteps := 3000000) only [↓seqK_ret, ↓blkK_ret, ↓retK_ret, put_same, resultsOf, oneOrAll, Option.map_some, hix]
    · have c1 : ¬ (i : Int) < (es.length : Int) := by omega
      rw [List.drop_eq_nil_of_le (by omega)] at hix
      simp +contextual (maxSteps := 3000000) only [↓code_seq, ↓code_region, ↓code_cond, ↓code_exit, aCond_bool, ↓ops_nil, ↓ops_cons, run_none, ↓run0_v, ↓seqK_normal, ↓seqK_exit, put_same, ev_tmp, o_bin, g_none, bin_lss, decide_eq_true_eq, ↓reduceIte, e7, e8, c1]
      refine hexit _ _ _ (by simp) ⟨h', ?_, hgr⟩
      simp +contextual (maxSteps := 3000000) only [↓code_seq, ↓code_region, ↓code_ret, ↓ops_nil, ↓ops_cons, run_none, ↓run0_v, ↓seqK_normal, ↓blkK_exit, ↓retK_ret, put_same, ev_const, oc_int, o_assign, g_none, resultsOf, oneOrAll, Option.map_some, ↓reduceIte, hix, idxAt]
  · refine ⟨0, by omega, ?_, ?_, ?_, ?_, ?_, ?_, ?_⟩
    · rfl
    · exact Grow.refl _
    · omega
    · simp only [put_ne, env0_at, Option.getD_some, not_false_eq_true, reduceCtorEq, List.getElem?_cons_zero, ne_eq]
    · simp only [put_ne, env0_at, Option.getD_some, Nat.reduceEqDiff, not_false_eq_true, List.getElem?_cons_zero, List.getElem?_cons_succ, ne_eq]
    · simp only [put_same, put_ne, Nat.reduceEqDiff, not_false_eq_true, ne_eq]
    · simp only [put_same]; rfl
theorem run106 {I : Nat → Option (List AV → AH → Rs)} (h104 : I 104 = none) (h106 : I 106 = none) (m g : Nat) (hg : Nat.beq g YLD = false) (cx : List AV) (pr : E6 → Bool) (v : AV) (es : List E6) (h : AH) (hr : RowC 6 h v es.length (fl E6.av es)) (hn : es.length ≤ m ∧ es.length ≤ 1000000000)
    (kc : ∀ n h2, Grow h h2 → ∀ x ∈ es, ∃ h3, call F I T (n + 2) g (.agg [.int .i64 x.lo, .int .i64 x.hi, .int .i64 x.di, .int .i64 x.po, .int .i64 x.nx, .int .i64 x.st] :: cx) h2 = some (.bool (pr x), h3) ∧ Grow h2 h3) :
    ∃ h2, call F I T (m + 51) 106 [v, .fn g [] cx] h = some (.bool (es.any pr), h2) ∧ Grow h h2 := by
  obtain ⟨h2, k1, k2⟩ := run104 h104 m g hg cx pr v es h hr hn kc
  refine ⟨h2, ?_, k2⟩
  have hany := idxAt_nonneg pr es 0
  rw [call_F (by decide) h106 F106 rfl R106]; simp only [Try.f106, Option.getD]
  cases ha : es.any pr
  · have c1 : ¬ 0 ≤ idxAt pr 0 es := by rw [hany, ha]; simp
    simp +contextual (maxSteps := 3000000) only [↓code_seq, ↓code_region, ↓code_ret, ↓ops_nil, ↓ops_cons, run_none, ↓run0_v, ↓run0_r, ↓seqK_normal, ↓retK_ret, put_same, put_ne, env0_at, ev_tmp, ev_const, ev_func, oc_int, oc_bool, o_move, o_assign, o_bin, o_call, g_none, bin_geq, resultsOf, oneOrAll, Option.map_some, Option.getD_some, Nat.reduceEqDiff, not_false_eq_true, reduceCtorEq, List.getElem?_cons_zero, List.getElem?_cons_succ, List.map_cons, List.map_nil, List.append_nil, List.nil_append, ge_iff_le, ne_eq, k1, c1, decide_false, callV_fn (g := 104) (by decide)]
  · have c1 : 0 ≤ idxAt pr 0 es := by rw [hany, ha]
    simp +contextual (maxSteps := 3000000) only [↓code_seq, ↓code_region, ↓code_ret, ↓ops_nil, ↓ops_cons, run_none, ↓run0_v, ↓run0_r, ↓seqK_normal, ↓retK_ret, put_same, put_ne, env0_at, ev_tmp, ev_const, ev_func, oc_int, oc_bool, o_move, o_assign, o_bin, o_call, g_none, bin_geq, resultsOf, oneOrAll, Option.map_some, Option.getD_some, Nat.reduceEqDiff, not_false_eq_true, reduceCtorEq, List.getElem?_cons_zero, List.getElem?_cons_succ, List.map_cons, List.map_nil, List.append_nil, List.nil_append, ge_iff_le, ne_eq, k1, c1, decide_true, callV_fn (g := 104) (by decide)]
theorem run103 {I : Nat → Option (List AV → AH → Rs)} (h103 : I 103 = none) (m g : Nat) (hg : Nat.beq g YLD = false) (cx : List AV) (pr : Pt → Bool) (v : AV) (ps : List Pt) (h : AH) (hr : RowC 3 h v ps.length (fl Pt.enc ps)) (hn : ps.length ≤ m ∧ ps.length ≤ 1000000000)
    (kc : ∀ n h2, Grow h h2 → ∀ x ∈ ps, ∃ h3, call F I T (n + 2) g (.agg [.int .i64 x.lo, .int .i64 x.hi, .bool x.up] :: cx) h2 = some (.bool (pr x), h3) ∧ Grow h2 h3) :
    ∃ h2, call F I T (m + 50) 103 [v, .fn g [] cx] h = some (.int .i64 (idxAt pr 0 ps), h2) ∧ Grow h h2 := by
  have hlen : ∀ h, aLen T 81 v h = some (.int .i64 (ps.length : Nat)) := fun h => hr.len T81 d81
  rw [call_F (by decide) h103 F103 rfl R103]; simp only [Try.f103, Option.getD]
  simp +contextual (maxSteps := 3000000) only [↓code_seq, ↓code_region, ↓code_block, ↓code_loop, ↓ops_nil, ↓ops_cons, run_none, ↓run0_v, ↓seqK_normal, put_same, put_ne, env0_at, ev_tmp, ev_const, oc_int, o_move, o_assign, o_len, g_none, Option.getD_some, not_false_eq_true, reduceCtorEq, List.getElem?_cons_zero, ne_eq, hlen]
  refine iterL_wp (Q := fun r => ∃ h2, r = some (.int .i64 (idxAt pr 0 ps), h2) ∧ Grow h h2) (N := ps.length) (Inv := fun k e h' => ∃ i, k + i = ps.length ∧ idxAt pr 0 ps = idxAt pr i (ps.drop i) ∧ Grow h h' ∧ i ≤ ps.length ∧ e 0 = v ∧ e 1 = .fn g [] cx ∧ e 7 = .int .i64 (ps.length : Nat) ∧ e 8 = .int .i64 (i : Nat)) ?_ ?_ (by omega)
  · rintro k e h' K' ⟨i, hk, hix, hgr, hil, e0, e1, e7, e8⟩ hnext hexit
    by_cases hi : i < ps.length
    · have c1 : (i : Int) < (ps.length : Int) := by omega
      obtain ⟨x, hx⟩ : ∃ x, ps[i]? = some x := ⟨ps[i], List.getElem?_eq_getElem hi⟩
      obtain ⟨b, cs, bk, g1, g2, g3, g4⟩ := loadP (hr.grow hgr) hx
      obtain ⟨h3, kc1, kc2⟩ := kc (m + 47) h' hgr x (List.mem_of_getElem? hx)
      have c7 : IntKind.i64.wrap ((i : Int) + 1) = ((i + 1 : Nat) : Int) := by rw [wrap_i64 (by omega) (by omega)]; rfl
      rw [List.drop_eq_getElem_cons hi, (List.getElem?_eq_some_iff.1 hx).2] at hix
      simp only [idxAt] at hix
      cases hz : pr x
      · rw [hz, if_neg (by simp)] at hix
        rw [hz] at kc1
        simp +contextual (maxSteps := 3000000) only [↓code_skip, ↓code_seq, ↓code_region, ↓code_cond, ↓code_block, aCond_bool, ↓ops_nil, ↓ops_cons, run_none, ↓run0_v, ↓run0_r, ↓seqK_normal, ↓blkK_normal, put_same, put_ne, ev_tmp, ev_const, oc_int, o_move, o_assign, o_bin, o_call, o_load, o_indexAddr, g_none, bin_add, bin_lss, Option.map_some, decide_eq_true_eq, ↓reduceIte, Nat.reduceEqDiff, not_false_eq_true, reduceCtorEq, Bool.false_eq_true, List.map_cons, List.map_nil, List.nil_append, List.cons_append, ne_eq, load_pA T105 a105, s105, loadn_def, e0, e1, e7, e8, c1, g1, g2, g3, g4, callV_fn hg, kc1, c7]
        refine hnext (k - 1) _ _ (by omega) ⟨i + 1, by omega, ?_, ?_, ?_, ?_, ?_, ?_, ?_⟩
        · exact hix
        · exact hgr.trans kc2
        · omega
        · simp only [put_ne, not_false_eq_true, reduceCtorEq, ne_eq, e0]
        · simp only [put_ne, Nat.reduceEqDiff, not_false_eq_true, ne_eq, e1]
        · simp only [put_ne, Nat.reduceEqDiff, not_false_eq_true, ne_eq, e7]
        · simp only [put_same]
      · rw [hz, if_pos rfl] at hix
        rw [hz] at kc1
        simp +contextual (maxSteps := 3000000) only [↓code_skip, ↓code_seq, ↓code_region, ↓code_cond, ↓code_block, ↓code_ret, aCond_bool, ↓ops_nil, ↓ops_cons, run_none, ↓run0_v, ↓run0_r, ↓seqK_normal, ↓seqK_ret, ↓blkK_ret, put_same, put_ne, ev_tmp, o_move, o_assign, o_bin, o_call, o_load, o_indexAddr, g_none, bin_lss, Option.map_some, decide_eq_true_eq, ↓reduceIte, Nat.reduceEqDiff, not_false_eq_true, reduceCtorEq, List.map_cons, List.map_nil, List.nil_append, List.cons_append, ne_eq, load_pA T105 a105, s105, loadn_def, e0, e1, e7, e8, c1, g1, g2, g3, g4, callV_fn hg, kc1]
        refine hexit _ _ _ (by simp) ⟨h3, ?_, hgr.trans kc2⟩
        simp +contextual (maxSteps := 3000000) only [↓seqK_ret, ↓blkK_ret, ↓retK_ret, put_same, resultsOf, oneOrAll, Option.map_some, hix]
    · have c1 : ¬ (i : Int) < (ps.length : Int) := by omega
      rw [List.drop_eq_nil_of_le (by omega)] at hix
      simp +contextual (maxSteps := 3000000) only [↓code_seq, ↓code_region, ↓code_cond, ↓code_exit, aCond_bool, ↓ops_nil, ↓ops_cons, run_none, ↓run0_v, ↓seqK_normal, ↓seqK_exit, put_same, ev_tmp, o_bin, g_none, bin_lss, decide_eq_true_eq, ↓reduceIte, e7, e8, c1]
      refine hexit _ _ _ (by simp) ⟨h', ?_, hgr⟩
      simp +contextual (maxSteps := 3000000) only [↓code_seq, ↓code_region, ↓code_ret, ↓ops_nil, ↓ops_cons, run_none, ↓run0_v, ↓seqK_normal, ↓blkK_exit, ↓retK_ret, put_same, ev_const, oc_int, o_assign, g_none, resultsOf, oneOrAll, Option.map_some, ↓reduceIte, hix, idxAt]
  · refine ⟨0, by omega, ?_, ?_, ?_, ?_, ?_, ?_, ?_⟩
    · rfl
    · exact Grow.refl _
    · omega
    · simp only [put_ne, env0_at, Option.getD_some, not_false_eq_true, reduceCtorEq, List.getElem?_cons_zero, ne_eq]
    · simp only [put_ne, env0_at, Option.getD_some, Nat.reduceEqDiff, not_false_eq_true, List.getElem?_cons_zero, List.getElem?_cons_succ, ne_eq]
    · simp only [put_same, put_ne, Nat.reduceEqDiff, not_false_eq_true, ne_eq]
    · simp only [put_same]; rfl
theorem run86 {I : Nat → Option (List AV → AH → Rs)} (h103 : I 103 = none) (h86 : I 86 = none) (m g : Nat) (hg : Nat.beq g YLD = false) (cx : List AV) (pr : Pt → Bool) (v : AV) (ps : List Pt) (h : AH) (hr : RowC 3 h v ps.length (fl Pt.enc ps)) (hn : ps.length ≤ m ∧ ps.length ≤ 1000000000)
    (kc : ∀ n h2, Grow h h2 → ∀ x ∈ ps, ∃ h3, call F I T (n + 2) g (.agg [.int .i64 x.lo, .int .i64 x.hi, .bool x.up] :: cx) h2 = some (.bool (pr x), h3) ∧ Grow h2 h3) :
    ∃ h2, call F I T (m + 51) 86 [v, .fn g [] cx] h = some (.bool (ps.any pr), h2) ∧ Grow h h2 := by
  obtain ⟨h2, k1, k2⟩ := run103 h103 m g hg cx pr v ps h hr hn kc
  refine ⟨h2, ?_, k2⟩
  have hany := idxAt_nonneg pr ps 0
  rw [call_F (by decide) h86 F86 rfl R86]; simp only [Try.f86, Option.getD]
  cases ha : ps.any pr
  · have c1 : ¬ 0 ≤ idxAt pr 0 ps := by rw [hany, ha]; simp
    simp +contextual (maxSteps := 3000000) only [↓code_seq, ↓code_region, ↓code_ret, ↓ops_nil, ↓ops_cons, run_none, ↓run0_v, ↓run0_r, ↓seqK_normal, ↓retK_ret, put_same, put_ne, env0_at, ev_tmp, ev_const, ev_func, oc_int, oc_bool, o_move, o_assign, o_bin, o_call, g_none, bin_geq, resultsOf, oneOrAll, Option.map_some, Option.getD_some, Nat.reduceEqDiff, not_false_eq_true, reduceCtorEq, List.getElem?_cons_zero, List.getElem?_cons_succ, List.map_cons, List.map_nil, List.append_nil, List.nil_append, ge_iff_le, ne_eq, k1, c1, decide_false, callV_fn (g := 103) (by decide)]
  · have c1 : 0 ≤ idxAt pr 0 ps := by rw [hany, ha]
    simp +contextual (maxSteps := 3000000) only [↓code_seq, ↓code_region, ↓code_ret, ↓ops_nil, ↓ops_cons, run_none, ↓run0_v, ↓run0_r, ↓seqK_normal, ↓retK_ret, put_same, put_ne, env0_at, ev_tmp, ev_const, ev_func, oc_int, oc_bool, o_move, o_assign, o_bin, o_call, g_none, bin_geq, resultsOf, oneOrAll, Option.map_some, Option.getD_some, Nat.reduceEqDiff, not_false_eq_true, reduceCtorEq, List.getElem?_cons_zero, List.getElem?_cons_succ, List.map_cons, List.map_nil, List.append_nil, List.nil_append, ge_iff_le, ne_eq, k1, c1, decide_true, callV_fn (g := 103) (by decide)]
theorem filter_allE {pr : E6 → Bool} : ∀ (l : List E6) (k : Nat), idxAt pr k l = -1 → l.filter (fun x => !pr x) = l
  | [], _, _ => rfl
  | s :: l, k, h => by
    simp only [idxAt] at h
    by_cases hs : pr s = true
    · rw [if_pos hs] at h; omega
    · rw [if_neg hs] at h
      rw [List.filter_cons_of_pos (by simpa using hs), filter_allE l _ h]
theorem filter_takeE {pr : E6 → Bool} {l : List E6} {i : Nat} (h : l.findIdx? pr = some i) : (l.take (i + 1)).filter (fun x => !pr x) = l.take i := by
  induction l generalizing i with
  | nil => simp at h
  | cons s l ih =>
    rw [List.findIdx?_cons] at h
    cases hs : pr s
    · rw [hs] at h
      simp at h
      obtain ⟨j, hj, rfl⟩ := h
      rw [List.take_succ_cons, List.filter_cons_of_pos (by simp [hs]), ih hj, List.take_succ_cons]
    · rw [hs] at h
      simp at h
      subst h
      simp [hs]
/-- All but a row is as it was. -/
def KeepR (h h2 : AH) (v : AV) : Prop := h.next ≤ h2.next ∧ ∀ c, c < h.next → offRow v c → h2.get c = h.get c
theorem KeepR.refl (h : AH) (v : AV) : KeepR h h v := ⟨Nat.le_refl _, fun _ _ _ => rfl⟩
theorem KeepR.trans {h h2 h3 : AH} {v : AV} (a : KeepR h h2 v) (b : KeepR h2 h3 v) : KeepR h h3 v := ⟨Nat.le_trans a.1 b.1, fun c hc ho => by rw [b.2 c (Nat.lt_of_lt_of_le hc a.1) ho, a.2 c hc ho]⟩
theorem KeepR.grow {h h2 : AH} (v : AV) (a : Grow h h2) : KeepR h h2 v := ⟨a.1, fun c hc _ => a.2 c hc⟩
theorem store_e (h : AH) (x : E6) : ∃ h2, aStore T 60 (.ptr h.next 0) (.agg [.int .i64 x.lo, .int .i64 x.hi, .int .i64 x.di, .int .i64 x.po, .int .i64 x.nx, .int .i64 x.st]) (h.alloc (.cells [.int .i64 0, .int .i64 0, .int .i64 0, .int .i64 0, .int .i64 0, .int .i64 0] .own)) = some h2 ∧ h2.next = h.next + 1 ∧ h2.get h.next = some (.cells [.int .i64 x.lo, .int .i64 x.hi, .int .i64 x.di, .int .i64 x.po, .int .i64 x.nx, .int .i64 x.st] .own) ∧ Grow h h2 := by
  have h1 := store_n (T := T) (t := 60) (b := h.next) (o := 0) (v := .agg x.av) (vs := x.av) (h := h.alloc (.cells [.int .i64 0, .int .i64 0, .int .i64 0, .int .i64 0, .int .i64 0, .int .i64 0] .own)) (cs := [.int .i64 0, .int .i64 0, .int .i64 0, .int .i64 0, .int .i64 0, .int .i64 0]) T60 rfl (by rw [s60]; rfl) rfl (by rw [AH.get_alloc, if_pos rfl]) (by simp [E6.len])
  refine ⟨_, h1, by simp, by rw [AH.get_put, if_pos rfl]; rfl, by simp, fun c hc => ?_⟩
  rw [AH.get_put, if_neg (by omega), AH.get_alloc, if_neg (by omega)]
theorem run88 {I : Nat → Option (List AV → AH → Rs)} (h104 : I 104 = none) (h88 : I 88 = none) (m g : Nat) (hg : Nat.beq g YLD = false) (cx : List AV) (pr : E6 → Bool) (v : AV) (es : List E6) (h : AH) (hr : RowC 6 h v es.length (fl E6.av es)) (hn : es.length ≤ m ∧ es.length ≤ 1000000000)
    (kc : ∀ n h2, KeepR h h2 v → ∀ x ∈ es, ∃ h3, call F I T (n + 2) g (.agg [.int .i64 x.lo, .int .i64 x.hi, .int .i64 x.di, .int .i64 x.po, .int .i64 x.nx, .int .i64 x.st] :: cx) h2 = some (.bool (pr x), h3) ∧ Grow h2 h3) :
    ∃ v2 h2, call F I T (m + 51) 88 [v, .fn g [] cx] h = some (v2, h2) ∧ RowC 6 h2 v2 (es.filter fun x => !pr x).length (fl E6.av (es.filter fun x => !pr x)) ∧ KeepR h h2 v ∧ (∀ b o l k z x, v2 = .sl b o l k z x → ∃ o l k z x, v = .sl b o l k z x) := by
  obtain ⟨hA, k1, gA⟩ := run104 h104 m g hg cx pr v es h hr hn (fun n h2 hgr => kc n h2 (KeepR.grow v hgr))
  have hlen : ∀ h, aLen T 36 v h = some (.int .i64 (es.length : Nat)) := fun h => hr.len T36 d36
  rcases idx_find pr es 0 with ⟨i, i1, i2, i3⟩ | ⟨i1, i2⟩
  rotate_left
  · refine ⟨v, hA, ?_, by rw [filter_allE es 0 i1]; exact hr.grow gA, KeepR.grow v gA, fun b o l k z x e => ⟨_, _, _, _, _, e⟩⟩
    rw [i1] at k1
    rw [call_F (by decide) h88 F88 rfl R88]; simp only [Try.f88, Option.getD]
    simp +contextual (maxSteps := 3000000) only [↓code_seq, ↓code_region, ↓code_cond, ↓code_ret, aCond_bool, ↓ops_nil, ↓ops_cons, run_none, ↓run0_v, ↓run0_r, ↓seqK_normal, ↓seqK_ret, ↓retK_ret, put_same, put_ne, env0_at, ev_tmp, ev_const, ev_func, oc_int, oc_nils, o_move, o_assign, o_bin, o_call, g_none, bin_eql, resultsOf, oneOrAll, Option.map_some, Option.getD_some, decide_eq_true_eq, ↓reduceIte, Nat.reduceEqDiff, not_false_eq_true, reduceCtorEq, List.getElem?_cons_zero, List.getElem?_cons_succ, List.map_cons, List.map_nil, List.append_nil, List.nil_append, ne_eq, k1, callV_fn (g := 104) (by decide)]
  rw [i1, Nat.zero_add] at k1
  have c1 : ¬ ((i : Nat) : Int) = -1 := by omega
  have c7 : IntKind.i64.wrap ((i : Int) + 1) = ((i + 1 : Nat) : Int) := by rw [wrap_i64 (by omega) (by omega)]; rfl
  rw [call_F (by decide) h88 F88 rfl R88]; simp only [Try.f88, Option.getD]
  simp +contextual (maxSteps := 3000000) only [↓code_skip, ↓code_seq, ↓code_region, ↓code_cond, ↓code_block, ↓code_loop, aCond_bool, ↓ops_nil, ↓ops_cons, run_none, ↓run0_v, ↓run0_r, ↓seqK_normal, put_same, put_ne, env0_at, ev_tmp, ev_const, ev_func, oc_int, oc_nils, o_move, o_assign, o_bin, o_call, g_none, bin_add, bin_eql, Option.getD_some, ↓reduceIte, Nat.reduceEqDiff, not_false_eq_true, reduceCtorEq, List.getElem?_cons_zero, List.getElem?_cons_succ, Bool.false_eq_true, List.map_cons, List.map_nil, List.append_nil, List.nil_append, ne_eq, k1, c1, decide_false, callV_fn (g := 104) (by decide)]
  refine iterL_wp (Q := fun r => ∃ v2 h2, r = some (v2, h2) ∧ RowC 6 h2 v2 (es.filter fun x => !pr x).length (fl E6.av (es.filter fun x => !pr x)) ∧ KeepR h h2 v ∧ (∀ b o l k z x, v2 = .sl b o l k z x → ∃ o l k z x, v = .sl b o l k z x)) (N := es.length - (i + 1)) (Inv := fun k e h' => ∃ y x j L, k + y = es.length - (i + 1) ∧ x = i + 1 + y ∧ RowC 6 h' v L.length (fl E6.av L) ∧ L.length = es.length ∧ L.take j = (es.take x).filter (fun x => !pr x) ∧ L.drop x = es.drop x ∧ j < x ∧ x ≤ es.length ∧ KeepR h h' v ∧ e 0 = v ∧ e 1 = .fn g [] cx ∧ e 5 = .int .i64 (j : Nat) ∧ e 6 = .int .i64 (x : Nat)) ?_ ?_ (by omega)
  · rintro k e h' K' ⟨y, x, j, L, hk, hy, hL, hLl, ht, hd, hjx, hx, hkr, e0, e1, e5, e6⟩ hnext hexit
    by_cases hi : x < es.length
    · have d1 : (x : Int) < (es.length : Int) := by omega
      have hLx : L[x]? = some es[x] := by
        have := congrArg (fun l => l[0]?) hd
        simpa [List.getElem?_drop, List.getElem?_eq_getElem hi] using this
      obtain ⟨q, hq⟩ : ∃ q, q = es[x] := ⟨_, rfl⟩
      rw [← hq] at hLx
      obtain ⟨b, cs, bk, g1, g2, g3, g4⟩ := loadE hL hLx
      have hm : q ∈ es := by rw [hq]; exact List.getElem_mem hi
      obtain ⟨hz, y1, y2, y3, y4⟩ := store_e h' q
      obtain ⟨h3, kc1, kc2⟩ := kc (m + 48) hz (hkr.trans (KeepR.grow v y4)) q hm
      have y3' : h3.get h'.next = some (.cells [.int .i64 q.lo, .int .i64 q.hi, .int .i64 q.di, .int .i64 q.po, .int .i64 q.nx, .int .i64 q.st] .own) := by rw [kc2.2 _ (by omega)]; exact y3
      have hgr := y4.trans kc2
      have hL3 := hL.grow hgr
      have hkr3 := hkr.trans (KeepR.grow v hgr)
      have d7 : IntKind.i64.wrap ((x : Int) + 1) = ((x + 1 : Nat) : Int) := by rw [wrap_i64 (by omega) (by omega)]; rfl
      have d8 : IntKind.i64.wrap ((j : Int) + 1) = ((j + 1 : Nat) : Int) := by rw [wrap_i64 (by omega) (by omega)]; rfl
      have htk : es.take (x + 1) = es.take x ++ [q] := by rw [List.take_add_one, List.getElem?_eq_getElem hi, hq]; rfl
      have hdd : L.drop (x + 1) = es.drop (x + 1) := by
        have := congrArg (List.drop 1) hd
        rwa [List.drop_drop, List.drop_drop] at this
      cases hzz : pr q
      · rw [hzz] at kc1
        obtain ⟨q0, hq0⟩ : ∃ q0, L[j]? = some q0 := ⟨L[j]'(by omega), List.getElem?_eq_getElem (by omega)⟩
        obtain ⟨b', h4, q1, q2, q3, q4, q5, _, _⟩ := storeR E6.av 6 E6.len T36 d36 T60 s60 q hL3 hq0 (E6.one q)
        replace q2 : aStore T 60 (.ptr b' (j * 6)) (.agg [.int .i64 q.lo, .int .i64 q.hi, .int .i64 q.di, .int .i64 q.po, .int .i64 q.nx, .int .i64 q.st]) h3 = some h4 := q2
        simp +contextual (maxSteps := 3000000) only [↓code_skip, ↓code_seq, ↓code_region, ↓code_cond, ↓code_block, aCond_bool, ↓ops_nil, ↓ops_cons, run_none, ↓run0_v, ↓run0_h, ↓run0_r, ↓seqK_normal, ↓blkK_normal, put_same, put_ne, put_none, ev_tmp, ev_const, oc_int, o_move, o_assign, o_bin, o_call, o_len, o_alloc, o_load, o_store, o_un, o_indexAddr, g_none, bin_add, bin_lss, un_not, Option.map_some, decide_eq_true_eq, ↓reduceIte, Nat.reduceEqDiff, not_false_eq_true, Nat.reduceAdd, reduceCtorEq, Nat.succ_ne_self, List.map_cons, List.map_nil, List.nil_append, List.cons_append, Nat.le_refl, Bool.not_false, ne_eq, load_pA T60 a60, s60, loadn_def, alloc_t T60, z60, e0, e1, e5, e6, d1, hlen, g1, g2, g3, g4, List.length_cons, List.length_nil, List.drop_zero, List.take_succ_cons, List.take_nil, Nat.zero_add, y1, y3, y3', callV_fn hg, kc1, d7, d8, q1, q2]
        refine hnext (k - 1) _ _ (by omega) ⟨y + 1, x + 1, j + 1, L.set j q, by omega, ?_, ?_, ?_, ?_, ?_, ?_, ?_, ?_, ?_, ?_, ?_, ?_⟩
        · omega
        · (rw [List.length_set]; exact q3)
        · (rw [List.length_set]; exact hLl)
        · (rw [htk, List.filter_append, ← ht, List.filter_cons_of_pos (by simp [hzz]), List.filter_nil, List.take_add_one, List.getElem?_set_self (by omega), List.take_set_of_le (Nat.le_refl _)]; rfl)
        · (rw [List.drop_set_of_lt (by omega)]; exact hdd)
        · omega
        · omega
        · exact ⟨by rw [q4]; exact hkr3.1, fun c hc ho => by rw [q5 c ho]; exact hkr3.2 c hc ho⟩
        · simp only [put_ne, not_false_eq_true, reduceCtorEq, ne_eq, e0]
        · simp only [put_ne, Nat.reduceEqDiff, not_false_eq_true, ne_eq, e1]
        · simp only [put_same, put_ne, Nat.reduceEqDiff, not_false_eq_true, ne_eq]
        · simp only [put_same]
      · rw [hzz] at kc1
        simp +contextual (maxSteps := 3000000) only [↓code_skip, ↓code_seq, ↓code_region, ↓code_cond, ↓code_block, aCond_bool, ↓ops_nil, ↓ops_cons, run_none, ↓run0_v, ↓run0_h, ↓run0_r, ↓seqK_normal, ↓blkK_normal, put_same, put_ne, put_none, ev_tmp, ev_const, oc_int, o_move, o_assign, o_bin, o_call, o_len, o_alloc, o_load, o_store, o_un, o_indexAddr, g_none, bin_add, bin_lss, un_not, Option.map_some, decide_eq_true_eq, ↓reduceIte, Nat.reduceEqDiff, not_false_eq_true, Nat.reduceAdd, reduceCtorEq, Bool.false_eq_true, List.map_cons, List.map_nil, List.nil_append, List.cons_append, Nat.le_refl, Bool.not_true, ne_eq, load_pA T60 a60, s60, loadn_def, alloc_t T60, z60, e0, e1, e6, d1, hlen, g1, g2, g3, g4, List.length_cons, List.length_nil, List.drop_zero, List.take_succ_cons, List.take_nil, Nat.zero_add, y1, y3, callV_fn hg, kc1, d7]
        refine hnext (k - 1) _ _ (by omega) ⟨y + 1, x + 1, j, L, by omega, ?_, ?_, ?_, ?_, ?_, ?_, ?_, ?_, ?_, ?_, ?_, ?_⟩
        · omega
        · exact hL3
        · exact hLl
        · (rw [htk, List.filter_append, ht, List.filter_cons_of_neg (by simp [hzz])]; simp)
        · exact hdd
        · omega
        · omega
        · exact hkr3
        · simp only [put_ne, not_false_eq_true, reduceCtorEq, ne_eq, e0]
        · simp only [put_ne, Nat.reduceEqDiff, not_false_eq_true, ne_eq, e1]
        · simp only [put_ne, Nat.reduceEqDiff, not_false_eq_true, ne_eq, e5]
        · simp only [put_same]
    · have d1 : ¬ (x : Int) < (es.length : Int) := by omega
      have hin : x = es.length := by omega
      rw [hin, List.take_length] at ht
      obtain ⟨x38, h2, v2, q1, q2, q3, q4, q5, q6, q7⟩ := hL.trunc (j := j) T36 d36 T60 s60 (by decide) (by rw [z60]; rfl) (by rw [z60]; rfl) (by omega) (by omega)
      have hjl : (es.filter fun x => !pr x).length = j := by rw [← ht, List.length_take]; omega
      have htk : (fl E6.av L).take (j * 6) = fl E6.av (es.filter fun x => !pr x) := by rw [← ht, fl_take E6.av 6 E6.len]
      rw [htk, ← hjl] at q4
      simp +contextual (maxSteps := 3000000) only [↓code_seq, ↓code_region, ↓code_cond, ↓code_exit, aCond_bool, ↓ops_nil, ↓ops_cons, run_none, ↓run0_v, ↓seqK_normal, ↓seqK_exit, put_same, put_ne, ev_tmp, o_move, o_bin, o_len, g_none, bin_lss, decide_eq_true_eq, ↓reduceIte, Nat.reduceEqDiff, not_false_eq_true, reduceCtorEq, ne_eq, e0, e6, d1, hlen]
      refine hexit _ _ _ (by simp) ⟨v2, h2, ?_, q4, ⟨by rw [q5]; exact hkr.1, fun c hc ho => (q6 c ho).trans (hkr.2 c hc ho)⟩, q7⟩
      simp +contextual (maxSteps := 3000000) only [↓code_seq, ↓code_region, ↓code_ret, ↓ops_nil, ↓ops_cons, run_none, ↓run0_v, ↓run0_h, ↓seqK_normal, ↓blkK_exit, ↓retK_ret, put_same, put_ne, put_none, ev_tmp, o_move, o_assign, o_slice, g_none, resultsOf, oneOrAll, Option.map_some, Option.map_none, ↓reduceIte, Nat.reduceEqDiff, not_false_eq_true, reduceCtorEq, ne_eq, e0, e5, o_clear, q1, q2, q3]
  · refine ⟨0, i + 1, i, es, by omega, ?_, ?_, ?_, ?_, ?_, ?_, ?_, ?_, ?_, ?_, ?_, ?_⟩
    · omega
    · exact hr.grow gA
    · rfl
    · exact (filter_takeE i2).symm
    · rfl
    · omega
    · omega
    · exact KeepR.grow v gA
    · simp only [put_ne, env0_at, Option.getD_some, not_false_eq_true, reduceCtorEq, List.getElem?_cons_zero, ne_eq, c7]
    · simp only [put_ne, env0_at, Option.getD_some, Nat.reduceEqDiff, not_false_eq_true, List.getElem?_cons_zero, List.getElem?_cons_succ, ne_eq, c7]
    · simp only [put_same, put_ne, Nat.reduceEqDiff, not_false_eq_true, ne_eq, c7]
    · simp only [put_same, c7]
end Go.AM.X
namespace Go.AM.X
open Go Go.AM Go.Proofs Go.AM.Sx
set_option maxHeartbeats 3200000
set_option maxRecDepth 100000
set_option linter.unusedVariables false
theorem F96 : F 96 = some { body := (Try.f96.body.getD .skip), results := Try.f96.results.toList, rf := false } := by kernel_rfl
theorem R96 : regsOk T (Try.f96.body.getD .skip) = true := by kernel_rfl
theorem F60 : F 60 = some { body := (Try.f60.body.getD .skip), results := Try.f60.results.toList, rf := false } := by kernel_rfl
theorem R60 : regsOk T (Try.f60.body.getD .skip) = true := by kernel_rfl
theorem F71 : F 71 = some { body := (Try.f71.body.getD .skip), results := Try.f71.results.toList, rf := false } := by kernel_rfl
theorem R71 : regsOk T (Try.f71.body.getD .skip) = true := by kernel_rfl
theorem Tb.rowE {h h2 : AH} {t : Nat} {pv ev : AV} {ps : List Pt} {es es2 : List E6} (hT : Tb h t pv ev ps es) (hr : RowC 6 h2 ev es2.length (fl E6.av es2)) (hn : h2.next = h.next) (hk : ∀ c, offRow ev c → h2.get c = h.get c) : Tb h2 t pv ev ps es2 ∧ Stf h h2 (tOff t pv ev) (tOff t pv ev) :=
  ⟨{ lt := by rw [hn]; exact hT.lt, g := by rw [hk t hT.te]; exact hT.g, p := hT.p.keep (by omega) fun b o l k z x e => hk b (hT.pe _ _ _ _ _ _ e), e := hr, tp := hT.tp, te := hT.te, pe := hT.pe }, by omega, fun c hc ho => ⟨hk c ho.2.2, ho⟩⟩
theorem Tb.rowP {h h2 : AH} {t : Nat} {pv ev : AV} {ps ps2 : List Pt} {es : List E6} (hT : Tb h t pv ev ps es) (hr : RowC 3 h2 pv ps2.length (fl Pt.enc ps2)) (hn : h2.next = h.next) (hk : ∀ c, offRow pv c → h2.get c = h.get c) : Tb h2 t pv ev ps2 es ∧ Stf h h2 (tOff t pv ev) (tOff t pv ev) :=
  ⟨{ lt := by rw [hn]; exact hT.lt, g := by rw [hk t hT.tp]; exact hT.g, p := hr, e := hT.e.keep (by omega) fun b o l k z x e => hk b fun b' o' l' k' z' x' e' hb => hT.pe _ _ _ _ _ _ e' _ _ _ _ _ _ e hb.symm, tp := hT.tp, te := hT.te, pe := hT.pe }, by omega, fun c hc ho => ⟨hk c ho.2.1, ho⟩⟩
theorem run108 {I : Nat → Option (List AV → AH → Rs)} (h108 : I 108 = some (srtG 109)) (m : Nat) (v : AV) (es : List E6) (h : AH) (hr : RowC 6 h v es.length (fl E6.av es)) (hn : es.length ≤ 1000000000) :
    ∃ h2, call F I T (m + 1) 108 [v, .fn 109 [] []] h = some (.tup [], h2) ∧ RowC 6 h2 v (sorted6 es).length (fl E6.av (sorted6 es)) ∧ h2.next = h.next ∧ (∀ c, offRow v c → h2.get c = h.get c) := by
  rw [call_I (by decide) h108]
  have hsl := sorted6_len es
  rcases hr with ⟨rfl, h0, _⟩ | ⟨b, cap, ex, rest, rfl, q1, q2, q3, q4⟩
  · have he : es = [] := List.length_eq_zero_iff.1 h0
    subst he
    refine ⟨h, rfl, ?_, rfl, fun _ _ => rfl⟩
    have : sorted6 [] = [] := List.length_eq_zero_iff.1 hsl
    rw [this]; exact RowC.nil _ _
  · by_cases h0 : es.length = 0
    · have he : es = [] := List.length_eq_zero_iff.1 h0
      subst he
      refine ⟨h, rfl, ?_, rfl, fun _ _ => rfl⟩
      have : sorted6 [] = [] := List.length_eq_zero_iff.1 hsl
      rw [this]; exact .inr ⟨b, cap, ex, rest, rfl, q1, q2, q3, q4⟩
    · have htk : (fl E6.av es ++ rest).take (es.length * 6) = es.flatMap E6.av := by rw [List.take_append_of_le_length (by omega), List.take_of_length_le (by omega)]; rfl
      have hdr : (fl E6.av es ++ rest).drop (es.length * 6) = rest := by rw [← q1, List.drop_left]
      refine ⟨h.put b (.cells (fl E6.av (sorted6 es) ++ rest) .own), ?_, ?_, rfl, fun c hc => by rw [AH.get_put, if_neg (hc _ _ _ _ _ _ rfl)]⟩
      · simp only [srtG, q4]
        rw [if_neg h0, if_pos ⟨trivial, trivial, by omega⟩, if_pos (by rw [List.length_append]; omega), htk, dec6_enc, hdr]
        rfl
      · rw [hsl]
        refine .inr ⟨b, cap, ex, rest, rfl, by rw [fl_len E6.av 6 E6.len, hsl], by rw [fl_len E6.av 6 E6.len, hsl, ← fl_len E6.av 6 E6.len es]; exact q2, q3, by rw [AH.get_put, if_pos rfl]⟩
theorem run96 {I : Nat → Option (List AV → AH → Rs)} (h108 : I 108 = some (srtG 109)) (h114 : I 114 = none) (h110 : I 110 = none) (h109 : I 109 = none) (h96 : I 96 = none) (m t : Nat) (pv ev : AV) (ps : List Pt) (es : List E6) (h : AH) (hT : Tb h t pv ev ps es) (hn : es.length ≤ 1000000000) :
    ∃ h2, call F I T (m + 3) 96 [.ptr t 0] h = some (.tup [], h2) ∧ Tb h2 t pv ev ps (sorted6 es) ∧ Stf h h2 (tOff t pv ev) (tOff t pv ev) := by
  obtain ⟨h2, k1, k2, k3, k4⟩ := run108 h108 (m + 1) ev es h hT.e hn
  obtain ⟨t1, t2⟩ := hT.rowE k2 k3 k4
  refine ⟨h2, ?_, t1, t2⟩
  have hg := hT.g
  rw [call_F (by decide) h96 F96 rfl R96]; simp only [Try.f96, Option.getD]
  simp +contextual (maxSteps := 3000000) only [↓code_region, ↓ops_nil, ↓ops_cons, run_none, ↓run0_v, ↓run0_r, ↓retK_normal, put_same, env0_at, ev_tmp, ev_func, o_move, o_call, o_load, o_nilCheck, o_fieldAddr, g_none, nil_ptr, resultsOf, oneOrAll, Option.map_some, Option.getD_some, Nat.reduceAdd, List.getElem?_cons_zero, List.getElem?_cons_succ, List.map_cons, List.map_nil, List.append_nil, List.nil_append, fa_ptr T83 p83_1 (by decide), load_p1 T36 a36, loadc_def, hg, k1, callV_fn (g := 108) (by decide)]
theorem run71 {I : Nat → Option (List AV → AH → Rs)} (h71 : I 71 = none) (m t : Nat) (pv ev : AV) (ps : List Pt) (es : List E6) (h : AH) (hT : Tb h t pv ev ps es) (hs : ∃ b o l k z x, pv = .sl b o l k z x) : call F I T (m + 1) 71 [.ptr t 0] h = some (.bool false, h) := by
  obtain ⟨_, _, _, _, _, _, rfl⟩ := hs
  have hg := hT.g
  rw [call_F (by decide) h71 F71 rfl R71]; simp only [Try.f71, Option.getD]
  simp +contextual (maxSteps := 3000000) only [↓code_seq, ↓code_region, ↓code_ret, ↓ops_nil, ↓ops_cons, run_none, run_someF, ↓run0_v, ↓seqK_normal, ↓retK_ret, put_same, put_ne, env0_at, ev_tmp, ev_const, oc_bool, oc_nils, oc_nilp, o_move, o_assign, o_pick, o_bin, o_load, o_nilCheck, o_fieldAddr, g_none, g_some, pick_bool, nil_ptr, resultsOf, oneOrAll, Option.bind_some, Option.map_some, Option.getD_some, ↓reduceIte, Nat.reduceEqDiff, not_false_eq_true, Nat.reduceAdd, reduceCtorEq, List.getElem?_cons_zero, List.getElem?_cons_succ, List.getElem?_toArray, Bool.false_eq_true, ne_eq, pn_eql T47 d47, fa_ptr T83 p83_0 (by decide), load_p1 T81 a81, loadc_def, hg, sn_eql T81 d81]
theorem run95 {I : Nat → Option (List AV → AH → Rs)} (h56 : I 56 = none) (h95 : I 95 = none) (m k b o : Nat) (lo hi : Int) (e : E6) (cs : List AV) (kk kk2 : BK) (h : AH) (hk : h.get k = some (.cells [.ptr b o] kk)) (hb : h.get b = some (.cells cs kk2)) (h0 : cs[o]? = some (.int .i64 lo)) (h1 : cs[o + 1]? = some (.int .i64 hi)) (hkl : k < h.next) (hbl : b < h.next) :
    call F I T (m + 2) 95 [.agg [.int .i64 e.lo, .int .i64 e.hi, .int .i64 e.di, .int .i64 e.po, .int .i64 e.nx, .int .i64 e.st], .ptr k 0] h = some (.bool (mt e.lo e.hi lo hi), h.alloc (.cells [.int .i64 e.lo, .int .i64 e.hi, .int .i64 e.di, .int .i64 e.po, .int .i64 e.nx, .int .i64 e.st] .own)) := by
  obtain ⟨hA, hhA⟩ : ∃ hA, hA = h.alloc (.cells [.int .i64 e.lo, .int .i64 e.hi, .int .i64 e.di, .int .i64 e.po, .int .i64 e.nx, .int .i64 e.st] .own) := ⟨_, rfl⟩
  have g1 : hA.get h.next = some (.cells [.int .i64 e.lo, .int .i64 e.hi, .int .i64 e.di, .int .i64 e.po, .int .i64 e.nx, .int .i64 e.st] .own) := by rw [hhA, AH.get_alloc, if_pos rfl]
  have g2 : hA.get k = some (.cells [.ptr b o] kk) := by rw [hhA, AH.get_alloc, if_neg (by omega)]; exact hk
  have g3 : hA.get b = some (.cells cs kk2) := by rw [hhA, AH.get_alloc, if_neg (by omega)]; exact hb
  have h0' : cs[o + 0]? = some (.int .i64 lo) := h0
  rw [← hhA]
  rw [call_F (by decide) h95 F95 rfl R95]; simp only [Try.f95, Option.getD]
  simp +contextual (maxSteps := 3000000) only [↓code_seq, ↓code_region, ↓code_ret, ↓ops_nil, ↓ops_cons, run_none, ↓run0_v, ↓run0_r, ↓seqK_normal, ↓retK_ret, put_same, put_ne, env0_at, ev_tmp, ev_const, ev_func, oc_bool, o_assign, o_call, o_box, o_load, o_nilCheck, o_fieldAddr, g_none, nil_ptr, resultsOf, oneOrAll, Option.map_some, Option.getD_some, Nat.reduceEqDiff, not_false_eq_true, List.getElem?_cons_zero, List.getElem?_cons_succ, List.map_cons, List.map_nil, List.append_nil, List.nil_append, ne_eq, box_agg, fa_ptr T60 p60_0 (by decide), load_p1 T3 a3, loadc_def, fa_ptr T60 p60_1 (by decide), load_p1 T134 a134, fa_ptr T105 p105_0 (by decide), fa_ptr T105 p105_1 (by decide), callV_fn (g := 56) (by decide), K56 h56, ← hhA, g1, g2, g3, h0, h1, Nat.zero_add, Nat.add_zero]
/-- A port goes up. -/
def raiseP (ps : List Pt) (i : Nat) (p : Pt) : List Pt := ps.set i { p with up := true }
def raiseE (es : List E6) (i : Nat) (p : Pt) : List E6 := (es.filter fun e => !mt e.lo e.hi p.lo p.hi) ++ [⟨p.lo, p.hi, 0, ((i + 1 : Nat) : Int), 0, 0⟩]
theorem run60 {I : Nat → Option (List AV → AH → Rs)} (h104 : I 104 = none) (h88 : I 88 = none) (h108 : I 108 = some (srtG 109)) (h114 : I 114 = none) (h110 : I 110 = none) (h109 : I 109 = none) (h96 : I 96 = none) (h60 : I 60 = none) (h56 : I 56 = none) (h95 : I 95 = none) (m t i : Nat) (p : Pt) (pv ev : AV) (ps : List Pt) (es : List E6) (h : AH) (hT : Tb h t pv ev ps es) (hp : ps[i]? = some p) (hn : es.length ≤ m ∧ es.length ≤ 100000000) (hi2 : i ≤ 1000) :
    ∃ ev2 h2, call F I T (m + 60) 60 [.ptr t 0, .int .i64 ((i + 1 : Nat) : Int)] h = some (.tup [], h2) ∧ Tb h2 t pv ev2 (raiseP ps i p) (sorted6 (raiseE es i p)) ∧ Stf h h2 (tOff t pv ev) (tOff t pv ev2) := by
  have hg := hT.g
  have c9 : IntKind.i64.wrap (((i + 1 : Nat) : Int) - 1) = (i : Int) := by rw [wrap_i64 (by omega) (by omega)]; omega
  obtain ⟨b, cs0, bk0, a1, a2, a3', a4'⟩ := loadP hT.p hp
  -- the box of the port's place
  obtain ⟨hA, hhA⟩ : ∃ hA, hA = (h.alloc (.cells [.nilp] .own)).put h.next (.cells [.ptr b (i * 3)] .own) := ⟨_, rfl⟩
  have stA : aStore T 134 (.ptr h.next 0) (.ptr b (i * 3)) (h.alloc (.cells [.nilp] .own)) = some hA := by
    rw [store_1 (cs := [.nilp]) T134 s134 rfl rfl (by rw [AH.get_alloc, if_pos rfl]) (by simp), hhA]; rfl
  have gAr : Grow h hA := ⟨by rw [hhA]; simp, fun c hc => by rw [hhA, AH.get_put, if_neg (by omega), AH.get_alloc, if_neg (by omega)]⟩
  have nA : hA.next = h.next + 1 := by rw [hhA]; rfl
  have kA : hA.get h.next = some (.cells [.ptr b (i * 3)] .own) := by rw [hhA, AH.get_put, if_pos rfl]
  have hTA := hT.grow gAr
  have gA := hTA.g
  -- it goes up
  obtain ⟨b', hB, w1, w2, w3, w4, w5, w6⟩ := storeC Pt.enc 3 Pt.len T81 d81 T105 s105 T4 s4 (y := { p with up := true }) (w := .bool true) (j := 2) hTA.p hp (by decide) rfl rfl rfl
  have hbb : b' = b := by rw [a1] at w1; cases w1; rfl
  subst hbb
  have w3' : RowC 3 hB pv (raiseP ps i p).length (fl Pt.enc (raiseP ps i p)) := by unfold raiseP; rw [List.length_set]; exact w3
  obtain ⟨hTB, sB⟩ := hTA.rowP w3' w4 w5
  have hpB : (raiseP ps i p)[i]? = some { p with up := true } := List.getElem?_set_self (List.getElem?_eq_some_iff.1 hp).1
  obtain ⟨bB, csB, bkB, u1, u2, u3, u4⟩ := loadP hTB.p hpB
  have hbb2 : bB = b' := by rw [a1] at u1; cases u1; rfl
  subst hbb2
  have u5 := congrArg (fun l => l[0]?) u4
  have u6 := congrArg (fun l => l[1]?) u4
  simp [List.getElem?_drop] at u5 u6
  have hoffk : offRow ev h.next := fun _ _ _ _ _ _ e => by have := hT.e.lt e; omega
  have hoffkp : offRow pv h.next := fun _ _ _ _ _ _ e => by have := hT.p.lt e; omega
  have kB : hB.get h.next = some (.cells [.ptr bB (i * 3)] .own) := by rw [w5 _ hoffkp]; exact kA
  obtain ⟨_, _, _, _, _, hpvs⟩ := w6
  have hoffb : offRow ev bB := hT.pe _ _ _ _ _ _ hpvs
  have hbltB : bB < hB.next := hTB.p.lt hpvs
  -- those that meet it go
  obtain ⟨ev1, hC, d1', d2', d3', d4'⟩ := run88 h104 h88 (m + 8) 95 (by decide) [.ptr h.next 0] (fun e => mt e.lo e.hi p.lo p.hi) ev es hB hTB.e ⟨by omega, by omega⟩ (fun n h2 hkr x _ => ⟨_, run95 h56 h95 n h.next bB (i * 3) p.lo p.hi x csB .own bkB h2 (by rw [hkr.2 _ (by omega) hoffk]; exact kB) (by rw [hkr.2 _ hbltB hoffb]; exact u2) u5 u6 (by have := hkr.1; omega) (by have := hkr.1; omega), Grow.alloc _ _⟩)
  obtain ⟨hTD, sD⟩ := hTB.setE d2' d3'.1 d3'.2 (fun b o l k z x e => .inr (d4' _ _ _ _ _ _ e))
  obtain ⟨hD, hhD⟩ : ∃ hD, hD = hC.put t (.cells [pv, ev1] .own) := ⟨_, rfl⟩
  rw [← hhD] at hTD sD
  obtain ⟨uc1, uc2⟩ := d2'.cells
  have gB := hTB.g
  have gC : hC.get t = some (.cells [pv, ev] .own) := by rw [d3'.2 t hTB.lt hT.te]; exact gB
  have stD : aStore T 36 (.ptr t 1) ev1 hC = some hD := by rw [store_1 T36 s36 uc1 uc2 gC (by simp), hhD]; rfl
  have gD := hTD.g
  -- its entry comes
  have hel : (es.filter fun x => !mt x.lo x.hi p.lo p.hi).length ≤ es.length := List.length_filter_le _ _
  obtain ⟨ev2, hE, q1, q2, q3, q4, q5⟩ := hTD.e.push (new := [.int .i64 p.lo, .int .i64 p.hi, .int .i64 0, .int .i64 ((i + 1 : Nat) : Int), .int .i64 0, .int .i64 0]) T36 d36 T60 s60 (by decide) (by rw [b60]; decide) rfl rfl (by rw [b60]; simp [maxBytes]; omega)
  have hcs : fl E6.av (es.filter fun x => !mt x.lo x.hi p.lo p.hi) ++ [.int .i64 p.lo, .int .i64 p.hi, .int .i64 0, .int .i64 ((i + 1 : Nat) : Int), .int .i64 0, .int .i64 0] = fl E6.av (raiseE es i p) := by
    unfold raiseE; rw [fl_app]; rfl
  have hln : (es.filter fun x => !mt x.lo x.hi p.lo p.hi).length + 1 = (raiseE es i p).length := by unfold raiseE; simp
  rw [hcs, hln] at q2
  obtain ⟨hTF, sF⟩ := hTD.setE q2 (by omega) q4 q5
  obtain ⟨hF, hhF⟩ : ∃ hF, hF = hE.put t (.cells [pv, ev2] .own) := ⟨_, rfl⟩
  rw [← hhF] at hTF sF
  obtain ⟨ue1, ue2⟩ := q2.cells
  have gE : hE.get t = some (.cells [pv, ev1] .own) := by rw [q4 t hTD.lt hTD.te]; exact gD
  have stF : aStore T 36 (.ptr t 1) ev2 hE = some hF := by rw [store_1 T36 s36 ue1 ue2 gE (by simp), hhF]; rfl
  obtain ⟨hG, k96, hTG, sG⟩ := run96 h108 h114 h110 h109 h96 (m + 56) t pv ev2 _ _ hF hTF (by rw [← hln]; omega)
  have sAll : Stf hB hG (tOff t pv ev) (tOff t pv ev2) := (sD.trans sF).trans sG
  refine ⟨ev2, hG, ?_, hTG, ((Stf.grow _ gAr).trans sB).trans sAll⟩
  -- what is read of the port behind it
  have offk : tOff t pv ev h.next := ⟨by have := hT.lt; omega, hoffkp, hoffk⟩
  have kD : hD.get h.next = some (.cells [.ptr bB (i * 3)] .own) := by rw [(sD.2 _ (by omega) offk).1]; exact kB
  obtain ⟨bD, csD, bkD, v1, v2, v3, v4⟩ := loadP hTD.p hpB
  have hbb3 : bD = bB := by rw [a1] at v1; cases v1; rfl
  subst hbb3
  have v5 := congrArg (fun l => l[0]?) v4
  have v6 := congrArg (fun l => l[1]?) v4
  simp [List.getElem?_drop] at v5 v6
  have v5' : csD[i * 3 + 0]? = some (.int .i64 p.lo) := v5
  have hEv : ev = .nils ∨ ∃ b o l k z x, ev = .sl b o l k z x := by
    rcases hT.e with ⟨e, _⟩ | ⟨b, cap, ex, rest, e, _⟩
    · exact .inl e
    · exact .inr ⟨_, _, _, _, _, _, e⟩
  rw [call_F (by decide) h60 F60 rfl R60]; simp only [Try.f60, Option.getD]
  simp +contextual (maxSteps := 3000000) only [↓code_seq, ↓code_region, ↓ops_nil, ↓ops_cons, run_none, ↓run0_v, ↓run0_h, ↓run0_r, ↓seqK_normal, ↓retK_normal, put_same, put_ne, put_none, env0_at, ev_tmp, ev_const, ev_func, oc_int, oc_bool, o_move, o_bin, o_call, o_alloc, o_build, o_buildSlice, o_load, o_store, o_nilCheck, o_makeFunc, o_fieldAddr, o_indexAddr, o_append, g_none, bin_sub, nil_ptr, resultsOf, oneOrAll, Option.bind_some, Option.map_some, Option.getD_some, ↓reduceIte, Nat.reduceEqDiff, not_false_eq_true, Nat.reduceAdd, Nat.reduceMul, reduceCtorEq, List.getElem?_cons_zero, List.getElem?_cons_succ, List.map_cons, List.map_nil, List.append_nil, List.nil_append, List.cons_append, and_true, Nat.reduceLeDiff, Nat.le_refl, ne_eq, fa_ptr T83 p83_0 (by decide), load_p1 T81 a81, loadc_def, alloc_t T134, z134, run0_h, load_p1 T134 a134, fa_ptr T105 p105_2 (by decide), fa_ptr T83 p83_1 (by decide), load_p1 T36 a36, fa_ptr T105 p105_0 (by decide), load_p1 T3 a3, fa_ptr T105 p105_1 (by decide), build_struct T60 d60, z60, parts_eq, fillA, AV.cells, AH.splice, List.take_succ_cons, List.take_zero, List.drop_succ_cons, List.drop_zero, List.drop_nil, List.length_cons, List.length_nil, p60_0, p60_1, p60_3, buildSl T36 d36 T60 (n := 1) (by rw [s60]; decide), s60, repl, hg, c9, a1, stA, kA, w2, gB, d1', stD, gD, kD, v2, v5', v6, q1, stF, k96, callV_fn (g := 88) (by decide), callV_fn (g := 96) (by decide)]
end Go.AM.X
