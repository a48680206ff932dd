/- Tables of routes: lists that are heard; a new table. Own work. -/
import Derived.Test.YtekoffjfbjonmaaRtgE
namespace Go.AM.X
open Go Go.AM Go.Proofs Go.AM.Sx
set_option maxHeartbeats 3200000
set_option maxRecDepth 100000
set_option linter.unusedVariables false
theorem F28 : F 28 = some { body := (Try.f28.body.getD .skip), results := Try.f28.results.toList, rf := false } := by kernel_rfl
theorem R28 : regsOk T (Try.f28.body.getD .skip) = true := by kernel_rfl
/-- A list of tuples, wherever it lies, that what a table does leaves as it is. -/
def RdT (off : Nat → Prop) (h : AH) (lv : AV) (l : List Tp) : Prop := (∀ h, aLen T 22 lv h = some (.int .i64 (l.length : Nat))) ∧
  ∀ (i : Nat) (x : Tp), l[i]? = some x → ∃ pl, aIndexAddr T 22 lv (.int .i64 (i : Nat)) = some pl ∧ ∀ h2 : AH, h.next ≤ h2.next → (∀ c, c < h.next → off c → h2.get c = h.get c) → aLoad T 62 pl h2 = some (.agg [.int .i64 x.lo, .int .i64 x.hi, .int .i64 x.di])
theorem RdT.grow {off : Nat → Prop} {h h2 : AH} {lv : AV} {l : List Tp} (hr : RdT off h lv l) (hg : Grow h h2) : RdT off h2 lv l :=
  ⟨hr.1, fun i x hx => by
    obtain ⟨pl, h1, h3⟩ := hr.2 i x hx
    exact ⟨pl, h1, fun h4 hn hk => h3 h4 (Nat.le_trans hg.1 hn) fun c hc ho => by rw [hk c (Nat.lt_of_lt_of_le hc hg.1) ho, hg.2 c hc]⟩⟩
theorem RdT.lst (off : Nat → Prop) (h : AH) (l : List Tp) : RdT off h (.lst false 3 l.length (fl Tp.av l)) l := by
  refine ⟨fun h => by simp [aLen, T22, d22], fun i x hx => ?_⟩
  have hi := (List.getElem?_eq_some_iff.1 hx).1
  refine ⟨_, by rw [ia_lst T22 d22 T62 s62, if_pos ⟨by omega, by omega⟩], fun h2 _ _ => ?_⟩
  simp only [Int.toNat_natCast]
  have h1 := fl_at Tp.av 3 Tp.len hx []
  rw [List.append_nil] at h1
  have hlt : (i + 1) * 3 ≤ l.length * 3 := Nat.mul_le_mul_right _ hi
  have h2 : 3 ≤ ((fl Tp.av l).drop (i * 3)).length := by rw [List.length_drop, fl_len Tp.av 3 Tp.len]; omega
  simp only [aLoad, T62, a62, s62]
  rw [if_pos h2, h1]; rfl
theorem RdT.row {off : Nat → Prop} {h : AH} {v : AV} {l : List Tp} (hr : RowC 3 h v l.length (fl Tp.av l)) (ho : ∀ b o l k z x, v = .sl b o l k z x → off b) : RdT off h v l := by
  refine ⟨fun h => hr.len T22 d22, fun i x hx => ?_⟩
  have hi := (List.getElem?_eq_some_iff.1 hx).1
  obtain ⟨b, rest, ⟨cap, ex, hv⟩, h1, h2, h3⟩ := hr.at_ T22 d22 T62 s62 hi
  refine ⟨_, h1, fun h4 hn hk => ?_⟩
  have hg : h4.get b = some (.cells (fl Tp.av l ++ rest) .own) := by rw [hk b (hr.lt hv) (ho _ _ _ _ _ _ hv)]; exact h2
  have hlt : (i + 1) * 3 ≤ l.length * 3 := Nat.mul_le_mul_right _ hi
  simp only [aLoad, T62, a62, s62, AH.loadn, hg]
  rw [if_pos (by rw [List.length_append, h3]; omega), fl_at Tp.av 3 Tp.len hx]; rfl
def hearL (n f : Int) (es : List E6) (l : List Tp) : List E6 := l.foldl (hearE n f) es
theorem hearE_len (n f : Int) (es : List E6) (x : Tp) : (hearE n f es x).length ≤ es.length + 1 := by
  unfold hearE
  repeat' split
  all_goals first | omega | (rw [List.length_set]; omega) | (rw [sorted6_len, List.length_append]; simp)
theorem hearL_len (n f : Int) (l : List Tp) : ∀ es : List E6, (hearL n f es l).length ≤ es.length + l.length := by
  induction l with
  | nil => intro es; exact Nat.le_refl _
  | cons x l ih => intro es; have h1 := ih (hearE n f es x); have h2 := hearE_len n f es x; show (hearL n f (hearE n f es x) l).length ≤ _; simp only [List.length_cons]; omega
def hearR (ps : List Pt) (es : List E6) (n f : Int) (l : List Tp) : Int × List E6 :=
  if n < 1 ∨ (ps.length : Int) < n ∨ f < 1 then (2, es)
  else match ps[(n - 1).toNat]? with
    | none => (2, es)
    | some p => if p.up = true then (0, hearL n f es l) else (0, es)
theorem run49 {I : Nat → Option (List AV → AH → Rs)} (h71 : I 71 = none) (h53 : I 53 = none) (h108 : I 108 = some (srtG 109)) (h114 : I 114 = none) (h110 : I 110 = none) (h109 : I 109 = none) (h96 : I 96 = none) (h104 : I 104 = none) (h106 : I 106 = none) (h90 : I 90 = none) (h49 : I 49 = none) (h105 : I 105 = none) (h56 : I 56 = none) (h107 : I 107 = none) (m t : Nat) (n f : Int) (l : List Tp) (lv : AV) (ps : List Pt) (es : List E6) (off : Nat → Prop) (h : AH) (hT : TbV true h t ps es off) (hn : es.length + l.length ≤ m ∧ es.length + l.length ≤ 100000000) (hpl : ps.length ≤ 20) (hlv : RdT off h lv l) :
    ∃ h2 off2, call F I T (m + 90) 49 [.ptr t 0, .int .i64 n, .int .i64 f, lv] h = some (.int .i64 (hearR ps es n f l).1, h2) ∧ TbV true h2 t ps (hearR ps es n f l).2 off2 ∧ Stf h h2 off off2 := by
  have hT0 := hT
  obtain ⟨pv, ev, hTb, rfl, hs⟩ := hT
  have c71 := fun m => run71 h71 m t pv ev ps es h hTb (hs rfl)
  have gt := hTb.g
  have hlenp : ∀ h, aLen T 81 pv h = some (.int .i64 (ps.length : Nat)) := fun h => hTb.p.len T81 d81
  have hll := hlv.1
  have bad : ∀ (_ : hearR ps es n f l = (2, es)), call F I T (m + 90) 49 [.ptr t 0, .int .i64 n, .int .i64 f, lv] h = some (.int .i64 2, h) → ∃ h2 off2, call F I T (m + 90) 49 [.ptr t 0, .int .i64 n, .int .i64 f, lv] h = some (.int .i64 (hearR ps es n f l).1, h2) ∧ TbV true h2 t ps (hearR ps es n f l).2 off2 ∧ Stf h h2 (tOff t pv ev) off2 := fun he hc => by
    rw [he]; exact ⟨h, _, hc, hT0, Stf.refl _ _⟩
  by_cases c1 : n < 1
  · refine bad (by unfold hearR; rw [if_pos (.inl c1)]) ?_
    rw [call_F (by decide) h49 F49 rfl R49]; simp only [Try.f49, Option.getD]
    simp +contextual (maxSteps := 3000000) only [↓code_seq, ↓code_region, ↓code_cond, ↓code_block, ↓code_ret, aCond_bool, ↓ops_nil, ↓ops_cons, run_none, run_someF, ↓run0_v, ↓run0_r, ↓seqK_normal, ↓seqK_ret, ↓blkK_ret, ↓retK_ret, put_same, put_ne, env0_at, ev_tmp, ev_const, ev_func, oc_int, oc_bool, o_move, o_assign, o_pick, o_bin, o_call, o_len, o_load, o_nilCheck, o_fieldAddr, g_none, g_some, pick_bool, bin_lss, resultsOf, oneOrAll, Option.bind_some, Option.map_some, Option.getD_some, decide_eq_true_eq, ↓reduceIte, Nat.reduceEqDiff, not_false_eq_true, reduceCtorEq, List.getElem?_cons_zero, List.getElem?_cons_succ, List.getElem?_toArray, Bool.false_eq_true, List.map_cons, List.map_nil, List.append_nil, List.nil_append, ne_eq, c71, c1, callV_fn (g := 71) (by decide)]
  by_cases c2 : (ps.length : Int) < n
  · refine bad (by unfold hearR; rw [if_pos (.inr (.inl c2))]) ?_
    rw [call_F (by decide) h49 F49 rfl R49]; simp only [Try.f49, Option.getD]
    simp +contextual (maxSteps := 3000000) only [↓code_seq, ↓code_region, ↓code_cond, ↓code_block, ↓code_ret, aCond_bool, ↓ops_nil, ↓ops_cons, run_none, run_someF, ↓run0_v, ↓run0_r, ↓seqK_normal, ↓seqK_ret, ↓blkK_ret, ↓retK_ret, put_same, put_ne, env0_at, ev_tmp, ev_const, ev_func, oc_int, oc_bool, o_move, o_assign, o_pick, o_bin, o_call, o_len, o_load, o_nilCheck, o_fieldAddr, g_none, g_some, pick_bool, bin_lss, bin_gtr, nil_ptr, resultsOf, oneOrAll, Option.bind_some, Option.map_some, Option.getD_some, decide_eq_true_eq, ↓reduceIte, Nat.reduceEqDiff, not_false_eq_true, Nat.reduceAdd, reduceCtorEq, List.getElem?_cons_zero, List.getElem?_cons_succ, List.getElem?_toArray, Bool.false_eq_true, List.map_cons, List.map_nil, List.append_nil, List.nil_append, gt_iff_lt, ne_eq, fa_ptr T83 p83_0 (by decide), load_p1 T81 a81, loadc_def, c71, c1, gt, hlenp, c2, callV_fn (g := 71) (by decide)]
  by_cases c3 : f < 1
  · refine bad (by unfold hearR; rw [if_pos (.inr (.inr c3))]) ?_
    rw [call_F (by decide) h49 F49 rfl R49]; simp only [Try.f49, Option.getD]
    simp +contextual (maxSteps := 3000000) only [↓code_seq, ↓code_region, ↓code_cond, ↓code_block, ↓code_ret, aCond_bool, ↓ops_nil, ↓ops_cons, run_none, run_someF, ↓run0_v, ↓run0_r, ↓seqK_normal, ↓seqK_ret, ↓blkK_ret, ↓retK_ret, put_same, put_ne, env0_at, ev_tmp, ev_const, ev_func, oc_int, oc_bool, o_move, o_assign, o_pick, o_bin, o_call, o_len, o_load, o_nilCheck, o_fieldAddr, g_none, g_some, pick_bool, bin_lss, bin_gtr, nil_ptr, resultsOf, oneOrAll, Option.bind_some, Option.map_some, Option.getD_some, decide_eq_true_eq, ↓reduceIte, Nat.reduceEqDiff, not_false_eq_true, Nat.reduceAdd, reduceCtorEq, List.getElem?_cons_zero, List.getElem?_cons_succ, List.getElem?_toArray, Bool.false_eq_true, List.map_cons, List.map_nil, List.append_nil, List.nil_append, gt_iff_lt, ne_eq, fa_ptr T83 p83_0 (by decide), load_p1 T81 a81, loadc_def, c71, c1, gt, hlenp, c2, c3, callV_fn (g := 71) (by decide)]
  obtain ⟨i, hi⟩ : ∃ i : Nat, n = ((i + 1 : Nat) : Int) := ⟨(n - 1).toNat, by omega⟩
  have hil : i < ps.length := by omega
  obtain ⟨p, hp⟩ : ∃ p, ps[i]? = some p := ⟨ps[i], List.getElem?_eq_getElem hil⟩
  have hnt : (n - 1).toNat = i := by omega
  have hR : hearR ps es n f l = if p.up = true then (0, hearL n f es l) else (0, es) := by
    unfold hearR; rw [if_neg (by rintro (h | h | h) <;> contradiction), hnt, hp]
  have c9 : IntKind.i64.wrap (n - 1) = (i : Int) := by rw [wrap_i64 (by omega) (by omega)]; omega
  obtain ⟨b, cs, bk, w1, w2, w3, w4⟩ := loadP hTb.p hp
  have w5 := congrArg (fun l => l[2]?) w4
  simp [List.getElem?_drop] at w5
  cases hu : p.up
  · rw [hu] at w5
    rw [hR, hu, if_neg (by simp)]
    refine ⟨h, _, ?_, hT0, Stf.refl _ _⟩
    rw [call_F (by decide) h49 F49 rfl R49]; simp only [Try.f49, Option.getD]
    simp +contextual (maxSteps := 3000000) only [↓code_seq, ↓code_region, ↓code_cond, ↓code_block, ↓code_ret, aCond_bool, ↓ops_nil, ↓ops_cons, run_none, run_someF, ↓run0_v, ↓run0_r, ↓seqK_normal, ↓seqK_ret, ↓blkK_ret, ↓retK_ret, put_same, put_ne, env0_at, ev_tmp, ev_const, ev_func, oc_int, oc_bool, o_move, o_assign, o_pick, o_bin, o_call, o_len, o_load, o_nilCheck, o_un, o_fieldAddr, o_indexAddr, g_none, g_some, pick_bool, bin_sub, bin_lss, bin_gtr, un_not, nil_ptr, resultsOf, oneOrAll, Option.bind_some, Option.map_some, Option.getD_some, decide_eq_true_eq, ↓reduceIte, Nat.reduceEqDiff, not_false_eq_true, Nat.reduceAdd, reduceCtorEq, List.getElem?_cons_zero, List.getElem?_cons_succ, List.getElem?_toArray, Bool.false_eq_true, List.map_cons, List.map_nil, List.append_nil, List.nil_append, gt_iff_lt, Bool.not_false, ne_eq, fa_ptr T83 p83_0 (by decide), load_p1 T81 a81, loadc_def, fa_ptr T105 p105_2 (by decide), load_p1 T4 a4, c71, c1, gt, hlenp, c2, c3, c9, w1, w2, w5, callV_fn (g := 71) (by decide)]
  rw [hu] at w5
  rw [hR, hu, if_pos rfl]
  simp only
  rw [call_F (by decide) h49 F49 rfl R49]; simp only [Try.f49, Option.getD]
  simp +contextual (maxSteps := 3000000) only [↓code_skip, ↓code_seq, ↓code_region, ↓code_cond, ↓code_block, ↓code_loop, aCond_bool, ↓ops_nil, ↓ops_cons, run_none, run_someF, ↓run0_v, ↓run0_r, ↓seqK_normal, ↓blkK_normal, put_same, put_ne, env0_at, ev_tmp, ev_const, ev_func, oc_int, oc_bool, o_move, o_assign, o_pick, o_bin, o_call, o_len, o_load, o_nilCheck, o_un, o_fieldAddr, o_indexAddr, g_none, g_some, pick_bool, bin_sub, bin_lss, bin_gtr, un_not, nil_ptr, Option.bind_some, Option.getD_some, decide_eq_true_eq, ↓reduceIte, Nat.reduceEqDiff, not_false_eq_true, Nat.reduceAdd, reduceCtorEq, List.getElem?_cons_zero, List.getElem?_cons_succ, List.getElem?_toArray, Bool.false_eq_true, List.map_cons, List.map_nil, List.append_nil, List.nil_append, gt_iff_lt, Bool.not_true, ne_eq, fa_ptr T83 p83_0 (by decide), load_p1 T81 a81, loadc_def, fa_ptr T105 p105_2 (by decide), load_p1 T4 a4, c71, c1, gt, hlenp, c2, c3, c9, w1, w2, w5, hll, callV_fn (g := 71) (by decide)]
  refine iterL_wp (Q := fun r => ∃ h2 off2, r = some (.int .i64 0, h2) ∧ TbV true h2 t ps (hearL n f es l) off2 ∧ Stf h h2 (tOff t pv ev) off2) (N := l.length) (Inv := fun k e h' => ∃ k1 ev1, k + k1 = l.length ∧ Tb h' t pv ev1 ps (hearL n f es (l.take k1)) ∧ Stf h h' (tOff t pv ev) (tOff t pv ev1) ∧ k1 ≤ l.length ∧ e 0 = .ptr t 0 ∧ e 1 = .int .i64 n ∧ e 2 = .int .i64 f ∧ e 8 = .int .i64 0 ∧ e 41 = lv ∧ e 42 = .int .i64 (l.length : Nat) ∧ e 43 = .int .i64 (k1 : Nat)) ?_ ?_ (by omega)
  · rintro k e h' K' ⟨k1, ev1, hk, hTk, hSk, hkl, e0, e1, e2, e8, e41, e42, e43⟩ hnext hexit
    by_cases hk1 : k1 < l.length
    · have d1 : (k1 : Int) < (l.length : Int) := by omega
      obtain ⟨x, hx⟩ : ∃ x, l[k1]? = some x := ⟨l[k1], List.getElem?_eq_getElem hk1⟩
      obtain ⟨pl, x1, x2⟩ := hlv.2 k1 x hx
      have x3 := x2 h' hSk.1 fun c hc ho => (hSk.2 c hc ho).1
      obtain ⟨hz, y1, y2, y3, y4⟩ := store_t h' x
      have hTz := hTk.grow y4
      have hkl2 := hearL_len n f (l.take k1) es
      rw [List.length_take] at hkl2
      obtain ⟨ev2, h2, k90, t1, t2⟩ := run90 h53 h108 h114 h110 h109 h96 h104 h106 h90 h105 h56 h107 (m + 9) t n f x pv ev1 ps _ hz hTz ⟨by omega, by omega⟩
      have c7 : IntKind.i64.wrap ((k1 : Int) + 1) = ((k1 + 1 : Nat) : Int) := by rw [wrap_i64 (by omega) (by omega)]; rfl
      have htk : hearL n f es (l.take (k1 + 1)) = hearE n f (hearL n f es (l.take k1)) x := by
        unfold hearL; rw [List.take_add_one, hx, List.foldl_append]; rfl
      simp +contextual (maxSteps := 3000000) only [↓code_skip, ↓code_seq, ↓code_region, ↓code_cond, ↓code_block, aCond_bool, ↓ops_nil, ↓ops_cons, run_none, ↓run0_v, ↓run0_h, ↓run0_r, ↓seqK_normal, ↓blkK_normal, put_same, put_ne, put_none, ev_tmp, ev_const, ev_func, oc_int, o_move, o_bin, o_call, o_alloc, o_load, o_store, o_indexAddr, g_none, bin_add, bin_lss, Option.map_some, decide_eq_true_eq, ↓reduceIte, Nat.reduceEqDiff, not_false_eq_true, Nat.reduceAdd, reduceCtorEq, List.map_cons, List.map_nil, List.append_nil, List.nil_append, Nat.le_refl, ne_eq, load_pA T62 a62, s62, loadn_def, alloc_t T62, z62, List.length_cons, List.length_nil, List.drop_zero, List.take_succ_cons, List.take_nil, Nat.zero_add, e0, e1, e2, e41, e42, e43, d1, x1, x3, y1, y3, k90, c7, callV_fn (g := 90) (by decide)]
      refine hnext (k - 1) _ _ (by omega) ⟨k1 + 1, ev2, by omega, ?_, ?_, ?_, ?_, ?_, ?_, ?_, ?_, ?_, ?_⟩
      · (rw [htk]; exact t1)
      · exact (hSk.trans (Stf.grow _ y4)).trans t2
      · omega
      · simp only [put_ne, not_false_eq_true, reduceCtorEq, ne_eq, e0]
      · simp only [put_ne, Nat.reduceEqDiff, not_false_eq_true, ne_eq, e1]
      · simp only [put_ne, Nat.reduceEqDiff, not_false_eq_true, ne_eq, e2]
      · simp only [put_ne, Nat.reduceEqDiff, not_false_eq_true, ne_eq, e8]
      · simp only [put_ne, Nat.reduceEqDiff, not_false_eq_true, ne_eq, e41]
      · simp only [put_ne, Nat.reduceEqDiff, not_false_eq_true, ne_eq, e42]
      · simp only [put_same]
    · have d1 : ¬ (k1 : Int) < (l.length : Int) := by omega
      rw [List.take_of_length_le (by omega)] at hTk
      simp +contextual (maxSteps := 3000000) only [↓code_seq, ↓code_region, ↓code_cond, ↓code_exit, aCond_bool, ↓ops_nil, ↓ops_cons, run_none, ↓run0_v, ↓seqK_normal, ↓seqK_exit, put_same, ev_tmp, o_bin, g_none, bin_lss, decide_eq_true_eq, ↓reduceIte, e42, e43, d1]
      refine hexit _ _ _ (by simp) ⟨h', _, ?_, ⟨pv, ev1, hTk, rfl, hs⟩, hSk⟩
      simp +contextual (maxSteps := 3000000) only [↓code_seq, ↓code_region, ↓code_ret, ↓ops_nil, ↓ops_cons, run_none, ↓run0_v, ↓seqK_normal, ↓blkK_exit, ↓retK_ret, put_same, ev_const, oc_int, o_assign, g_none, resultsOf, oneOrAll, Option.map_some, ↓reduceIte]
  · refine ⟨0, ev, by omega, ?_, ?_, ?_, ?_, ?_, ?_, ?_, ?_, ?_, ?_⟩
    · exact hTb
    · exact Stf.refl _ _
    · omega
    · simp only [put_ne, env0_at, Option.getD_some, not_false_eq_true, reduceCtorEq, List.getElem?_cons_zero, ne_eq]
    · simp only [put_ne, env0_at, Option.getD_some, Nat.reduceEqDiff, not_false_eq_true, List.getElem?_cons_zero, List.getElem?_cons_succ, ne_eq]
    · simp only [put_ne, env0_at, Option.getD_some, Nat.reduceEqDiff, not_false_eq_true, List.getElem?_cons_zero, List.getElem?_cons_succ, ne_eq]
    · simp only [put_same, put_ne, Nat.reduceEqDiff, not_false_eq_true, ne_eq]
    · simp only [put_same, put_ne, Nat.reduceEqDiff, not_false_eq_true, ne_eq]
    · simp only [put_same, put_ne, Nat.reduceEqDiff, not_false_eq_true, ne_eq]
    · simp only [put_same]; rfl
theorem run28 {I : Nat → Option (List AV → AH → Rs)} (h28 : I 28 = none) (m : Nat) (h : AH) : ∃ h2 off, call F I T (m + 1) 28 [] h = some (.ptr (h.next + 1) 0, h2) ∧ TbV true h2 (h.next + 1) [] [] off ∧ Grow h h2 ∧ (∀ c, c < h.next → off c) ∧ h2.next = h.next + 2 := by
  refine ⟨(h.alloc (.cells [] .own)).alloc (.cells [.sl h.next 0 0 0 3 true, .nils] .own), tOff (h.next + 1) (.sl h.next 0 0 0 3 true) .nils, ?_, ⟨_, _, ?_, rfl, fun _ => ⟨_, _, _, _, _, _, rfl⟩⟩, (Grow.alloc _ _).trans (Grow.alloc _ _), fun c hc => ⟨by omega, (fun b o l k z x e => by cases e; omega), (fun b o l k z x e => by cases e)⟩, by simp⟩
  · rw [call_F (by decide) h28 F28 rfl R28]; simp only [Try.f28, Option.getD]
    simp +contextual (maxSteps := 3000000) only [↓code_seq, ↓code_region, ↓code_ret, ↓ops_nil, ↓ops_cons, run_none, ↓run0_v, ↓run0_r, ↓seqK_normal, ↓retK_ret, put_same, ev_tmp, ev_const, oc_nilp, o_assign, o_box, o_build, o_buildSlice, g_none, resultsOf, oneOrAll, Option.bind_some, Option.map_some, ↓reduceIte, Nat.reduceAdd, List.map_cons, List.map_nil, List.nil_append, List.cons_append, AH.next_alloc, and_true, Nat.reduceLeDiff, buildSl T81 d81 T105 (n := 0) (by rw [s105]; decide), s105, parts_eq, fillA, AV.cells, AH.splice, List.take_zero, List.drop_succ_cons, List.drop_zero, List.length_cons, List.length_nil, repl, build_struct T83 d83, z83, p83_0, box_agg]
  · exact { lt := by simp
            g := by rw [AH.get_alloc, if_pos (by simp)]
            p := .inr ⟨h.next, 0, true, [], rfl, rfl, rfl, (by simp; omega), by rw [AH.get_alloc, if_neg (by simp), AH.get_alloc, if_pos rfl]; rfl⟩
            e := RowC.nil _ _
            tp := fun b o l k z x e => by cases e; omega
            te := fun b o l k z x e => by cases e
            pe := fun b o l k z x e b' o' l' k' z' x' e' => by cases e' }
end Go.AM.X
namespace Go.AM.X
open Go Go.AM Go.Proofs Go.AM.Sx
set_option maxHeartbeats 3200000
set_option maxRecDepth 100000
set_option linter.unusedVariables false
theorem F111 : F 111 = some { body := (Try.f111.body.getD .skip), results := Try.f111.results.toList, rf := false } := by kernel_rfl
theorem R111 : regsOk T (Try.f111.body.getD .skip) = true := by kernel_rfl
theorem F99 : F 99 = some { body := (Try.f99.body.getD .skip), results := Try.f99.results.toList, rf := false } := by kernel_rfl
theorem R99 : regsOk T (Try.f99.body.getD .skip) = true := by kernel_rfl
theorem F68 : F 68 = some { body := (Try.f68.body.getD .skip), results := Try.f68.results.toList, rf := false } := by kernel_rfl
theorem R68 : regsOk T (Try.f68.body.getD .skip) = true := by kernel_rfl
theorem F67 : F 67 = some { body := (Try.f67.body.getD .skip), results := Try.f67.results.toList, rf := false } := by kernel_rfl
theorem R67 : regsOk T (Try.f67.body.getD .skip) = true := by kernel_rfl
theorem F70 : F 70 = some { body := (Try.f70.body.getD .skip), results := Try.f70.results.toList, rf := false } := by kernel_rfl
theorem R70 : regsOk T (Try.f70.body.getD .skip) = true := by kernel_rfl
theorem F35 : F 35 = some { body := (Try.f35.body.getD .skip), results := Try.f35.results.toList, rf := false } := by kernel_rfl
theorem R35 : regsOk T (Try.f35.body.getD .skip) = true := by kernel_rfl
theorem loadQ {h : AH} {v : AV} {l : List Pt} {i : Nat} {x : Pt} (hr : RowC 3 h v l.length (fl Pt.enc l)) (hx : l[i]? = some x) :
    ∃ b cs kk, aIndexAddr T 50 v (.int .i64 (i : Nat)) = some (.ptr b (i * 3)) ∧ h.get b = some (.cells cs kk) ∧ cs[i * 3]? = some (.int .i64 x.lo) ∧ cs[i * 3 + 1]? = some (.int .i64 x.hi) ∧ cs[i * 3 + 2]? = some (.bool x.up) := by
  obtain ⟨b, cs, kk, h1, h2, h3, h4⟩ := loadR Pt.enc 3 Pt.len T50 d50 T120 s120 hr hx
  have w5 := congrArg (fun l => l[0]?) h4
  have w6 := congrArg (fun l => l[1]?) h4
  have w7 := congrArg (fun l => l[2]?) h4
  simp [List.getElem?_drop, Pt.enc] at w5 w6 w7
  exact ⟨b, cs, kk, h1, h2, w5, w6, w7⟩
theorem load6 {h : AH} {v : AV} {l : List E6} {i : Nat} {x : E6} (hr : RowC 6 h v l.length (fl E6.av l)) (hx : l[i]? = some x) :
    ∃ b cs kk, aIndexAddr T 36 v (.int .i64 (i : Nat)) = some (.ptr b (i * 6)) ∧ h.get b = some (.cells cs kk) ∧ i * 6 + 6 ≤ cs.length ∧ (cs.drop (i * 6)).take 6 = [.int .i64 x.lo, .int .i64 x.hi, .int .i64 x.di, .int .i64 x.po, .int .i64 x.nx, .int .i64 x.st] ∧
      cs[i * 6]? = some (.int .i64 x.lo) ∧ cs[i * 6 + 0]? = some (.int .i64 x.lo) ∧ cs[i * 6 + 1]? = some (.int .i64 x.hi) ∧ cs[i * 6 + 2]? = some (.int .i64 x.di) ∧ cs[i * 6 + 3]? = some (.int .i64 x.po) ∧ cs[i * 6 + 4]? = some (.int .i64 x.nx) ∧ cs[i * 6 + 5]? = some (.int .i64 x.st) := by
  obtain ⟨b, cs, kk, h1, h2, h3, h4⟩ := loadE hr hx
  obtain ⟨g0, g1, g2, g3, g4, g5⟩ := take6 h4
  exact ⟨b, cs, kk, h1, h2, h3, h4, g0, g0, g1, g2, g3, g4, g5⟩
/-- What the document finds of a range. -/
def findR (lo hi : Int) : Nat → List E6 → Int × Bool
  | _, [] => (-1, true)
  | i, e :: es => if e.lo = lo ∧ e.hi = hi then ((i : Int), true) else if mt e.lo e.hi lo hi = true then (-1, false) else findR lo hi (i + 1) es
theorem run111 {I : Nat → Option (List AV → AH → Rs)} (h98 : I 98 = none) (h111 : I 111 = none) (m t : Nat) (lo hi : Int) (pv ev : AV) (ps : List Pt) (es : List E6) (h : AH) (hT : Tb h t pv ev ps es) (hn : es.length ≤ m ∧ es.length ≤ 100000000) :
    call F I T (m + 20) 111 [.ptr t 0, .int .i64 lo, .int .i64 hi] h = some (.tup [.int .i64 (findR lo hi 0 es).1, .bool (findR lo hi 0 es).2], h) := by
  have gt := hT.g
  have hlen : ∀ h, aLen T 36 ev h = some (.int .i64 (es.length : Nat)) := fun h => hT.e.len T36 d36
  rw [call_F (by decide) h111 F111 rfl R111]; simp only [Try.f111, Option.getD]
  simp +contextual (maxSteps := 3000000) only [↓code_seq, ↓code_region, ↓code_block, ↓code_loop, ↓ops_nil, ↓ops_cons, run_none, ↓run0_v, ↓seqK_normal, ev_const, oc_int, oc_bool, o_assign, g_none]
  refine iterL_wp (Q := fun r => r = some (.tup [.int .i64 (findR lo hi 0 es).1, .bool (findR lo hi 0 es).2], h)) (N := es.length) (Inv := fun k e h' => ∃ i, k + i = es.length ∧ findR lo hi 0 es = findR lo hi i (es.drop i) ∧ h' = h ∧ i ≤ es.length ∧ e 0 = .ptr t 0 ∧ e 1 = .int .i64 lo ∧ e 2 = .int .i64 hi ∧ e 8 = .int .i64 (i : Nat)) ?_ ?_ (by omega)
  · rintro k e h' K' ⟨i, hk, hix, hh, hil, e0, e1, e2, e8⟩ hnext hexit
    subst hh
    by_cases hi' : i < es.length
    · have c1 : (i : Int) < (es.length : Int) := by omega
      obtain ⟨x, hx⟩ : ∃ x, es[i]? = some x := ⟨es[i], List.getElem?_eq_getElem hi'⟩
      obtain ⟨b, cs, bk, g1, g2, g3, g4, g5, g5', g6, _⟩ := load6 hT.e hx
      have c7 : IntKind.i64.wrap ((i : Int) + 1) = ((i + 1 : Nat) : Int) := by rw [wrap_i64 (by omega) (by omega)]; rfl
      rw [List.drop_eq_getElem_cons hi', (List.getElem?_eq_some_iff.1 hx).2] at hix
      simp only [findR] at hix
      by_cases p1 : x.lo = lo
      · by_cases p2 : x.hi = hi
        · rw [if_pos ⟨p1, p2⟩] at hix
          simp +contextual (maxSteps := 3000000) only [↓code_skip, ↓code_seq, ↓code_region, ↓code_cond, ↓code_block, ↓code_ret, aCond_bool, ↓ops_nil, ↓ops_cons, run_none, run_someT, ↓run0_v, ↓seqK_normal, ↓seqK_ret, ↓blkK_ret, put_same, put_ne, ev_tmp, ev_const, oc_bool, o_move, o_assign, o_pick, o_bin, o_len, o_load, o_nilCheck, o_fieldAddr, o_indexAddr, g_none, g_some, pick_bool, bin_eql, bin_lss, nil_ptr, Option.bind_some, decide_eq_true_eq, ↓reduceIte, Nat.reduceEqDiff, not_false_eq_true, Nat.reduceAdd, reduceCtorEq, List.getElem?_cons_zero, List.getElem?_cons_succ, List.getElem?_toArray, ne_eq, fa_ptr T52 p52_1 (by decide), load_p1 T36 a36, loadc_def, fa_ptr T60 p60_0 (by decide), load_p1 T3 a3, fa_ptr T60 p60_1 (by decide), e0, e1, e2, e8, c1, gt, hlen, g1, g2, g5', g6, eq_true p1, eq_true p2]
          refine hexit _ _ _ (by simp) ?_
          simp +contextual (maxSteps := 3000000) only [↓seqK_ret, ↓blkK_ret, ↓retK_ret, put_same, put_ne, resultsOf, oneOrAll, Option.map_some, Nat.reduceEqDiff, not_false_eq_true, ne_eq, hix]
        · rw [if_neg (fun h => p2 h.2)] at hix
          cases hm : mt x.lo x.hi lo hi
          · rw [hm, if_neg (by simp)] at hix
            simp +contextual (maxSteps := 3000000) only [↓code_skip, ↓code_seq, ↓code_region, ↓code_cond, ↓code_block, aCond_bool, ↓ops_nil, ↓ops_cons, run_none, run_someT, ↓run0_v, ↓run0_r, ↓seqK_normal, ↓blkK_normal, put_same, put_ne, ev_tmp, ev_const, ev_func, oc_int, oc_bool, o_move, o_assign, o_pick, o_bin, o_call, o_len, o_load, o_nilCheck, o_fieldAddr, o_indexAddr, g_none, g_some, pick_bool, bin_add, bin_eql, bin_lss, nil_ptr, Option.bind_some, decide_eq_true_eq, ↓reduceIte, Nat.reduceEqDiff, not_false_eq_true, Nat.reduceAdd, reduceCtorEq, List.getElem?_cons_zero, List.getElem?_cons_succ, List.getElem?_toArray, Bool.false_eq_true, List.map_cons, List.map_nil, List.append_nil, List.nil_append, ne_eq, fa_ptr T52 p52_1 (by decide), load_p1 T36 a36, loadc_def, fa_ptr T60 p60_0 (by decide), load_p1 T3 a3, fa_ptr T60 p60_1 (by decide), K98 h98, e0, e1, e2, e8, c1, gt, hlen, g1, g2, g5', g6, eq_true p1, p2, hm, c7, callV_fn (g := 98) (by decide)]
            refine hnext (k - 1) _ _ (by omega) ⟨i + 1, by omega, ?_, ?_, ?_, ?_, ?_, ?_, ?_⟩
            · exact hix
            · rfl
            · omega
            · simp only [put_ne, not_false_eq_true, reduceCtorEq, ne_eq, e0]
            · simp only [put_ne, Nat.reduceEqDiff, not_false_eq_true, ne_eq, e1]
            · simp only [put_ne, Nat.reduceEqDiff, not_false_eq_true, ne_eq, e2]
            · simp only [put_same]
          · rw [hm, if_pos rfl] at hix
            simp +contextual (maxSteps := 3000000) only [↓code_skip, ↓code_seq, ↓code_region, ↓code_cond, ↓code_block, ↓code_ret, aCond_bool, ↓ops_nil, ↓ops_cons, run_none, run_someT, ↓run0_v, ↓run0_r, ↓seqK_normal, ↓seqK_ret, ↓blkK_ret, put_same, put_ne, ev_tmp, ev_const, ev_func, oc_int, oc_bool, o_move, o_assign, o_pick, o_bin, o_call, o_len, o_load, o_nilCheck, o_fieldAddr, o_indexAddr, g_none, g_some, pick_bool, bin_eql, bin_lss, nil_ptr, Option.bind_some, decide_eq_true_eq, ↓reduceIte, Nat.reduceEqDiff, not_false_eq_true, Nat.reduceAdd, reduceCtorEq, List.getElem?_cons_zero, List.getElem?_cons_succ, List.getElem?_toArray, List.map_cons, List.map_nil, List.append_nil, List.nil_append, ne_eq, fa_ptr T52 p52_1 (by decide), load_p1 T36 a36, loadc_def, fa_ptr T60 p60_0 (by decide), load_p1 T3 a3, fa_ptr T60 p60_1 (by decide), K98 h98, e0, e1, e2, e8, c1, gt, hlen, g1, g2, g5', g6, eq_true p1, p2, hm, callV_fn (g := 98) (by decide)]
            refine hexit _ _ _ (by simp) ?_
            simp +contextual (maxSteps := 3000000) only [↓seqK_ret, ↓blkK_ret, ↓retK_ret, put_same, put_ne, resultsOf, oneOrAll, Option.map_some, Nat.reduceEqDiff, not_false_eq_true, ne_eq, hix]
      · rw [if_neg (fun h => p1 h.1)] at hix
        cases hm : mt x.lo x.hi lo hi
        · rw [hm, if_neg (by simp)] at hix
          simp +contextual (maxSteps := 3000000) only [↓code_skip, ↓code_seq, ↓code_region, ↓code_cond, ↓code_block, aCond_bool, ↓ops_nil, ↓ops_cons, run_none, run_someT, ↓run0_v, ↓run0_r, ↓seqK_normal, ↓blkK_normal, put_same, put_ne, ev_tmp, ev_const, ev_func, oc_int, oc_bool, o_move, o_assign, o_pick, o_bin, o_call, o_len, o_load, o_nilCheck, o_fieldAddr, o_indexAddr, g_none, g_some, pick_bool, bin_add, bin_eql, bin_lss, nil_ptr, Option.bind_some, decide_eq_true_eq, ↓reduceIte, Nat.reduceEqDiff, not_false_eq_true, Nat.reduceAdd, reduceCtorEq, List.getElem?_cons_zero, List.getElem?_cons_succ, List.getElem?_toArray, Bool.false_eq_true, List.map_cons, List.map_nil, List.append_nil, List.nil_append, ne_eq, fa_ptr T52 p52_1 (by decide), load_p1 T36 a36, loadc_def, fa_ptr T60 p60_0 (by decide), load_p1 T3 a3, fa_ptr T60 p60_1 (by decide), K98 h98, e0, e1, e2, e8, c1, gt, hlen, g1, g2, g5', g6, p1, hm, c7, callV_fn (g := 98) (by decide)]
          refine hnext (k - 1) _ _ (by omega) ⟨i + 1, by omega, ?_, ?_, ?_, ?_, ?_, ?_, ?_⟩
          · exact hix
          · rfl
          · omega
          · simp only [put_ne, not_false_eq_true, reduceCtorEq, ne_eq, e0]
          · simp only [put_ne, Nat.reduceEqDiff, not_false_eq_true, ne_eq, e1]
          · simp only [put_ne, Nat.reduceEqDiff, not_false_eq_true, ne_eq, e2]
          · simp only [put_same]
        · rw [hm, if_pos rfl] at hix
          simp +contextual (maxSteps := 3000000) only [↓code_skip, ↓code_seq, ↓code_region, ↓code_cond, ↓code_block, ↓code_ret, aCond_bool, ↓ops_nil, ↓ops_cons, run_none, run_someT, ↓run0_v, ↓run0_r, ↓seqK_normal, ↓seqK_ret, ↓blkK_ret, put_same, put_ne, ev_tmp, ev_const, ev_func, oc_int, oc_bool, o_move, o_assign, o_pick, o_bin, o_call, o_len, o_load, o_nilCheck, o_fieldAddr, o_indexAddr, g_none, g_some, pick_bool, bin_eql, bin_lss, nil_ptr, Option.bind_some, decide_eq_true_eq, ↓reduceIte, Nat.reduceEqDiff, not_false_eq_true, Nat.reduceAdd, reduceCtorEq, List.getElem?_cons_zero, List.getElem?_cons_succ, List.getElem?_toArray, Bool.false_eq_true, List.map_cons, List.map_nil, List.append_nil, List.nil_append, ne_eq, fa_ptr T52 p52_1 (by decide), load_p1 T36 a36, loadc_def, fa_ptr T60 p60_0 (by decide), load_p1 T3 a3, fa_ptr T60 p60_1 (by decide), K98 h98, e0, e1, e2, e8, c1, gt, hlen, g1, g2, g5', g6, p1, hm, callV_fn (g := 98) (by decide)]
          refine hexit _ _ _ (by simp) ?_
          simp +contextual (maxSteps := 3000000) only [↓seqK_ret, ↓blkK_ret, ↓retK_ret, put_same, put_ne, resultsOf, oneOrAll, Option.map_some, Nat.reduceEqDiff, not_false_eq_true, ne_eq, hix]
    · have c1 : ¬ (i : Int) < (es.length : Int) := by omega
      rw [List.drop_eq_nil_of_le (by omega)] at hix
      simp only [findR] at hix
      simp +contextual (maxSteps := 3000000) only [↓code_seq, ↓code_region, ↓code_cond, ↓code_exit, aCond_bool, ↓ops_nil, ↓ops_cons, run_none, ↓run0_v, ↓seqK_normal, ↓seqK_exit, put_same, put_ne, ev_tmp, o_move, o_bin, o_len, o_load, o_nilCheck, o_fieldAddr, g_none, bin_lss, nil_ptr, decide_eq_true_eq, ↓reduceIte, Nat.reduceEqDiff, not_false_eq_true, Nat.reduceAdd, reduceCtorEq, List.getElem?_cons_zero, List.getElem?_cons_succ, ne_eq, fa_ptr T52 p52_1 (by decide), load_p1 T36 a36, loadc_def, e0, e8, c1, gt, hlen]
      refine hexit _ _ _ (by simp) ?_
      simp +contextual (maxSteps := 3000000) only [↓code_seq, ↓code_region, ↓code_ret, ↓ops_nil, ↓ops_cons, run_none, ↓run0_v, ↓seqK_normal, ↓blkK_exit, ↓retK_ret, put_same, put_ne, ev_const, oc_int, oc_bool, o_assign, g_none, resultsOf, oneOrAll, Option.map_some, ↓reduceIte, Nat.reduceEqDiff, not_false_eq_true, ne_eq, hix]
  · refine ⟨0, by omega, ?_, ?_, ?_, ?_, ?_, ?_, ?_⟩
    · rfl
    · rfl
    · omega
    · simp only [put_ne, env0_at, Option.getD_some, not_false_eq_true, reduceCtorEq, List.getElem?_cons_zero, ne_eq]
    · simp only [put_ne, env0_at, Option.getD_some, Nat.reduceEqDiff, not_false_eq_true, List.getElem?_cons_zero, List.getElem?_cons_succ, ne_eq]
    · simp only [put_ne, env0_at, Option.getD_some, Nat.reduceEqDiff, not_false_eq_true, List.getElem?_cons_zero, List.getElem?_cons_succ, ne_eq]
    · simp only [put_same]; rfl
/-- One entry comes behind a row that is new. -/
theorem pushE {h0 h : AH} {v : AV} {l : List E6} (e : E6) (hr : RowC 6 h v l.length (fl E6.av l)) (hf : Fresh h0 v) (hg : Grow h0 h) (hl : l.length ≤ 1000000000) :
    ∃ v' h2, aAppend T 36 36 v (.sl h.next 0 1 1 6 true) (h.alloc (.cells [.int .i64 e.lo, .int .i64 e.hi, .int .i64 e.di, .int .i64 e.po, .int .i64 e.nx, .int .i64 e.st] .own)) = some (v', h2) ∧ RowC 6 h2 v' (l ++ [e]).length (fl E6.av (l ++ [e])) ∧ Fresh h0 v' ∧ Grow h0 h2 := by
  obtain ⟨v', h2, q1, q2, q3, q4⟩ := push_new (new := e.av) T36 d36 T60 s60 (by decide) (by rw [b60]; decide) hr hf hg (E6.len e) (E6.one e) (by rw [b60]; simp [maxBytes]; omega)
  refine ⟨v', h2, q1, ?_, q3, q4⟩
  rw [fl_app, List.length_append]
  have : fl E6.av [e] = e.av := by simp [fl]
  rw [this]; exact q2
/-- The table has a new row of entries. -/
theorem Tb.newE {h h2 : AH} {t : Nat} {pv ev v : AV} {ps : List Pt} {es es2 : List E6} (hT : Tb h t pv ev ps es) (hr : RowC 6 h2 v es2.length (fl E6.av es2)) (hf : Fresh h v) (hg : Grow h h2) :
    ∃ h3, aStore T 36 (.ptr t 1) v h2 = some h3 ∧ Tb h3 t pv v ps es2 ∧ Stf h h3 (tOff t pv ev) (tOff t pv v) := by
  obtain ⟨u1, u2⟩ := hr.cells
  obtain ⟨t1, t2⟩ := hT.setE hr hg.1 (fun c hc _ => hg.2 c hc) (fun b o l k z x e => .inl (hf _ _ _ _ _ _ e))
  have g2 := (hT.grow hg).g
  refine ⟨_, ?_, t1, t2⟩
  rw [store_1 T36 s36 u1 u2 g2 (by simp)]; rfl
theorem run99 {I : Nat → Option (List AV → AH → Rs)} (h98 : I 98 = none) (h99 : I 99 = none) (m t : Nat) (lo hi : Int) (pv ev : AV) (ps : List Pt) (es : List E6) (h : AH) (hT : Tb h t pv ev ps es) (hn : es.length ≤ m ∧ es.length ≤ 100000000) :
    ∃ ev2 h2, call F I T (m + 20) 99 [.ptr t 0, .int .i64 lo, .int .i64 hi] h = some (.tup [], h2) ∧ Tb h2 t pv ev2 ps (es.filter fun e => !mt e.lo e.hi lo hi) ∧ Stf h h2 (tOff t pv ev) (tOff t pv ev2) := by
  have hlen : ∀ h, aLen T 36 ev h = some (.int .i64 (es.length : Nat)) := fun h => hT.e.len T36 d36
  rw [call_F (by decide) h99 F99 rfl R99]; simp only [Try.f99, Option.getD]
  simp +contextual (maxSteps := 3000000) only [↓code_seq, ↓code_region, ↓code_block, ↓code_loop, ↓ops_nil, ↓ops_cons, run_none, ↓run0_v, ↓seqK_normal, ev_const, oc_int, oc_nils, o_assign, g_none]
  refine iterL_wp (Q := fun r => ∃ ev2 h2, r = some (.tup [], h2) ∧ Tb h2 t pv ev2 ps (es.filter fun e => !mt e.lo e.hi lo hi) ∧ Stf h h2 (tOff t pv ev) (tOff t pv ev2)) (N := es.length) (Inv := fun k e h' => ∃ i v, k + i = es.length ∧ RowC 6 h' v ((es.take i).filter fun e => !mt e.lo e.hi lo hi).length (fl E6.av ((es.take i).filter fun e => !mt e.lo e.hi lo hi)) ∧ Fresh h v ∧ Grow h h' ∧ i ≤ es.length ∧ e 0 = .ptr t 0 ∧ e 1 = .int .i64 lo ∧ e 2 = .int .i64 hi ∧ e 6 = v ∧ e 7 = .int .i64 (i : Nat)) ?_ ?_ (by omega)
  · rintro k e h' K' ⟨i, v, hk, hr, hf, hg, hil, e0, e1, e2, e6, e7⟩ hnext hexit
    have hTk := hT.grow hg
    have gt := hTk.g
    by_cases hi' : i < es.length
    · have c1 : (i : Int) < (es.length : Int) := by omega
      obtain ⟨x, hx⟩ : ∃ x, es[i]? = some x := ⟨es[i], List.getElem?_eq_getElem hi'⟩
      obtain ⟨b, cs, bk, g1, g2, g3, g4, g5, g5', g6, _⟩ := load6 hTk.e hx
      have c7 : IntKind.i64.wrap ((i : Int) + 1) = ((i + 1 : Nat) : Int) := by rw [wrap_i64 (by omega) (by omega)]; rfl
      cases hm : mt x.lo x.hi lo hi
      · have htk : (es.take (i + 1)).filter (fun e => !mt e.lo e.hi lo hi) = (es.take i).filter (fun e => !mt e.lo e.hi lo hi) ++ [x] := by rw [List.take_add_one, hx]; simp [hm]
        obtain ⟨v', h2, q1, q2, q3, q4⟩ := pushE x hr hf hg (by have := List.length_filter_le (fun e => !mt e.lo e.hi lo hi) (es.take i); rw [List.length_take] at this; omega)
        rw [← htk] at q2
        simp +contextual (maxSteps := 3000000) only [↓code_skip, ↓code_seq, ↓code_region, ↓code_cond, ↓code_block, aCond_bool, ↓ops_nil, ↓ops_cons, run_none, ↓run0_v, ↓run0_r, ↓seqK_normal, ↓blkK_normal, put_same, put_ne, ev_tmp, ev_const, ev_func, oc_int, o_move, o_assign, o_bin, o_call, o_len, o_buildSlice, o_load, o_nilCheck, o_un, o_fieldAddr, o_indexAddr, o_append, g_none, bin_add, bin_lss, un_not, nil_ptr, Option.bind_some, Option.map_some, decide_eq_true_eq, ↓reduceIte, Nat.reduceEqDiff, not_false_eq_true, Nat.reduceAdd, Nat.reduceMul, reduceCtorEq, Nat.succ_ne_self, List.getElem?_cons_zero, List.getElem?_cons_succ, List.map_cons, List.map_nil, List.append_nil, List.nil_append, and_true, Nat.le_refl, Bool.not_false, ne_eq, fa_ptr T52 p52_1 (by decide), load_p1 T36 a36, loadc_def, fa_ptr T60 p60_0 (by decide), load_p1 T3 a3, fa_ptr T60 p60_1 (by decide), load_pA T60 a60, s60, loadn_def, buildSl T36 d36 T60 (n := 1) (by rw [s60]; decide), z60, parts_eq, fillA, AV.cells, AH.splice, List.take_zero, List.drop_succ_cons, List.drop_nil, List.length_cons, List.length_nil, repl, K98 h98, List.length_cons, List.length_nil, List.take_zero, Nat.zero_add, Nat.add_zero, e0, e1, e2, e6, e7, c1, gt, hlen, g1, g2, g3, g4, g5, g6, hm, q1, c7, callV_fn (g := 98) (by decide)]
        refine hnext (k - 1) _ _ (by omega) ⟨i + 1, v', by omega, ?_, ?_, ?_, ?_, ?_, ?_, ?_, ?_, ?_⟩
        · exact q2
        · exact q3
        · exact q4
        · omega
        · simp only [put_ne, not_false_eq_true, reduceCtorEq, ne_eq, e0]
        · simp only [put_ne, Nat.reduceEqDiff, not_false_eq_true, ne_eq, e1]
        · simp only [put_ne, Nat.reduceEqDiff, not_false_eq_true, ne_eq, e2]
        · simp only [put_same, put_ne, Nat.reduceEqDiff, not_false_eq_true, ne_eq]
        · simp only [put_same]
      · have htk : (es.take (i + 1)).filter (fun e => !mt e.lo e.hi lo hi) = (es.take i).filter (fun e => !mt e.lo e.hi lo hi) := by rw [List.take_add_one, hx]; simp [hm]
        simp +contextual (maxSteps := 3000000) only [↓code_skip, ↓code_seq, ↓code_region, ↓code_cond, ↓code_block, aCond_bool, ↓ops_nil, ↓ops_cons, run_none, ↓run0_v, ↓run0_r, ↓seqK_normal, ↓blkK_normal, put_same, put_ne, ev_tmp, ev_const, ev_func, oc_int, o_move, o_assign, o_bin, o_call, o_len, o_load, o_nilCheck, o_un, o_fieldAddr, o_indexAddr, g_none, bin_add, bin_lss, un_not, nil_ptr, decide_eq_true_eq, ↓reduceIte, Nat.reduceEqDiff, not_false_eq_true, Nat.reduceAdd, reduceCtorEq, List.getElem?_cons_zero, List.getElem?_cons_succ, Bool.false_eq_true, List.map_cons, List.map_nil, List.append_nil, List.nil_append, Bool.not_true, ne_eq, fa_ptr T52 p52_1 (by decide), load_p1 T36 a36, loadc_def, fa_ptr T60 p60_0 (by decide), load_p1 T3 a3, fa_ptr T60 p60_1 (by decide), K98 h98, e0, e1, e2, e7, c1, gt, hlen, g1, g2, g5', g6, hm, c7, callV_fn (g := 98) (by decide)]
        refine hnext (k - 1) _ _ (by omega) ⟨i + 1, v, by omega, ?_, ?_, ?_, ?_, ?_, ?_, ?_, ?_, ?_⟩
        · (rw [htk]; exact hr)
        · exact hf
        · exact hg
        · omega
        · simp only [put_ne, not_false_eq_true, reduceCtorEq, ne_eq, e0]
        · simp only [put_ne, Nat.reduceEqDiff, not_false_eq_true, ne_eq, e1]
        · simp only [put_ne, Nat.reduceEqDiff, not_false_eq_true, ne_eq, e2]
        · simp only [put_ne, Nat.reduceEqDiff, not_false_eq_true, ne_eq, e6]
        · simp only [put_same]
    · have c1 : ¬ (i : Int) < (es.length : Int) := by omega
      rw [List.take_of_length_le (by omega)] at hr
      obtain ⟨h3, s1, s2', s3'⟩ := hT.newE hr hf hg
      simp +contextual (maxSteps := 3000000) only [↓code_seq, ↓code_region, ↓code_cond, ↓code_exit, aCond_bool, ↓ops_nil, ↓ops_cons, run_none, ↓run0_v, ↓seqK_normal, ↓seqK_exit, put_same, put_ne, ev_tmp, o_move, o_bin, o_len, o_load, o_nilCheck, o_fieldAddr, g_none, bin_lss, nil_ptr, decide_eq_true_eq, ↓reduceIte, Nat.reduceEqDiff, not_false_eq_true, Nat.reduceAdd, reduceCtorEq, List.getElem?_cons_zero, List.getElem?_cons_succ, ne_eq, fa_ptr T52 p52_1 (by decide), load_p1 T36 a36, loadc_def, e0, e7, c1, gt, hlen]
      refine hexit _ _ _ (by simp) ⟨v, h3, ?_, s2', s3'⟩
      simp +contextual (maxSteps := 3000000) only [↓code_region, ↓ops_nil, ↓ops_cons, run_none, ↓run0_v, ↓run0_h, ↓seqK_normal, ↓blkK_exit, ↓retK_normal, put_same, put_ne, ev_tmp, o_move, o_store, o_nilCheck, o_fieldAddr, g_none, nil_ptr, resultsOf, oneOrAll, Option.map_some, ↓reduceIte, Nat.reduceEqDiff, not_false_eq_true, Nat.reduceAdd, reduceCtorEq, ne_eq, fa_ptr T52 p52_1 (by decide), run0_h, e0, e6, s1]
  · refine ⟨0, .nils, by omega, ?_, ?_, ?_, ?_, ?_, ?_, ?_, ?_, ?_⟩
    · exact RowC.nil _ _
    · (intro b o l k z x e; cases e)
    · exact Grow.refl _
    · omega
    · simp only [put_ne, env0_at, Option.getD_some, not_false_eq_true, reduceCtorEq, List.getElem?_cons_zero, ne_eq]
    · simp only [put_ne, env0_at, Option.getD_some, Nat.reduceEqDiff, not_false_eq_true, List.getElem?_cons_zero, List.getElem?_cons_succ, ne_eq]
    · simp only [put_ne, env0_at, Option.getD_some, Nat.reduceEqDiff, not_false_eq_true, List.getElem?_cons_zero, List.getElem?_cons_succ, ne_eq]
    · simp only [put_same, put_ne, Nat.reduceEqDiff, not_false_eq_true, ne_eq]
    · simp only [put_same]; rfl
/-- A port of the document's goes up or down. -/
def portD (ps : List Pt) (es : List E6) (n : Int) (up : Bool) : Int × List Pt × List E6 :=
  if n < 1 ∨ (ps.length : Int) < n then (2, ps, es)
  else match ps[(n - 1).toNat]? with
    | none => (2, ps, es)
    | some p => if p.up = up then (0, ps, es) else (0, ps.set (n - 1).toNat { p with up := up }, if up = true then raiseE es (n - 1).toNat p else es.filter fun e => !decide (e.po = n))
theorem run68 {I : Nat → Option (List AV → AH → Rs)} (h98 : I 98 = none) (h99 : I 99 = none) (h68 : I 68 = none) (m t : Nat) (n : Int) (up : Bool) (ps : List Pt) (es : List E6) (off : Nat → Prop) (h : AH) (hT : TbV false h t ps es off) (hn : es.length ≤ m ∧ es.length ≤ 100000000) (hpl : ps.length ≤ 20) :
    ∃ h2 off2, call F I T (m + 40) 68 [.ptr t 0, .int .i64 n, .bool up] h = some (.int .i64 (portD ps es n up).1, h2) ∧ TbV false h2 t (portD ps es n up).2.1 (portD ps es n up).2.2 off2 ∧ Stf h h2 off off2 := by
  have hT0 := hT
  obtain ⟨pv, ev, hTb, rfl, _⟩ := hT
  have gt := hTb.g
  have hlenp : ∀ h, aLen T 50 pv h = some (.int .i64 (ps.length : Nat)) := fun h => hTb.p.len T50 d50
  by_cases c1 : n < 1
  · have hR : portD ps es n up = (2, ps, es) := by unfold portD; rw [if_pos (.inl c1)]
    rw [hR]
    refine ⟨h, _, ?_, hT0, Stf.refl _ _⟩
    rw [call_F (by decide) h68 F68 rfl R68]; simp only [Try.f68, Option.getD]
    simp +contextual (maxSteps := 3000000) only [↓code_seq, ↓code_region, ↓code_cond, ↓code_ret, aCond_bool, ↓ops_nil, ↓ops_cons, run_none, run_someF, ↓run0_v, ↓seqK_normal, ↓seqK_ret, ↓retK_ret, put_same, put_ne, env0_at, ev_tmp, ev_const, oc_int, oc_bool, o_move, o_assign, o_pick, o_bin, o_len, o_load, o_nilCheck, o_fieldAddr, g_none, g_some, pick_bool, bin_lss, resultsOf, oneOrAll, Option.bind_some, Option.map_some, Option.getD_some, decide_eq_true_eq, ↓reduceIte, Nat.reduceEqDiff, not_false_eq_true, reduceCtorEq, List.getElem?_cons_zero, List.getElem?_cons_succ, List.getElem?_toArray, ne_eq, c1]
  by_cases c2 : (ps.length : Int) < n
  · have hR : portD ps es n up = (2, ps, es) := by unfold portD; rw [if_pos (.inr c2)]
    rw [hR]
    refine ⟨h, _, ?_, hT0, Stf.refl _ _⟩
    rw [call_F (by decide) h68 F68 rfl R68]; simp only [Try.f68, Option.getD]
    simp +contextual (maxSteps := 3000000) only [↓code_seq, ↓code_region, ↓code_cond, ↓code_ret, aCond_bool, ↓ops_nil, ↓ops_cons, run_none, run_someF, ↓run0_v, ↓seqK_normal, ↓seqK_ret, ↓retK_ret, put_same, put_ne, env0_at, ev_tmp, ev_const, oc_int, oc_bool, o_move, o_assign, o_pick, o_bin, o_len, o_load, o_nilCheck, o_fieldAddr, g_none, g_some, pick_bool, bin_lss, bin_gtr, nil_ptr, resultsOf, oneOrAll, Option.bind_some, Option.map_some, Option.getD_some, decide_eq_true_eq, ↓reduceIte, Nat.reduceEqDiff, not_false_eq_true, Nat.reduceAdd, reduceCtorEq, List.getElem?_cons_zero, List.getElem?_cons_succ, List.getElem?_toArray, gt_iff_lt, ne_eq, fa_ptr T52 p52_0 (by decide), load_p1 T50 a50, loadc_def, c1, c2, gt, hlenp]
  obtain ⟨i, hi⟩ : ∃ i : Nat, n = ((i + 1 : Nat) : Int) := ⟨(n - 1).toNat, by omega⟩
  have hil : i < ps.length := by omega
  obtain ⟨p, hp⟩ : ∃ p, ps[i]? = some p := ⟨ps[i], List.getElem?_eq_getElem hil⟩
  have hnt : (n - 1).toNat = i := by omega
  have hR : portD ps es n up = if p.up = up then (0, ps, es) else (0, ps.set i { p with up := up }, if up = true then raiseE es i p else es.filter fun e => !decide (e.po = n)) := by
    unfold portD; rw [if_neg (by rintro (h | h) <;> contradiction), hnt, hp]
  have c9 : IntKind.i64.wrap (n - 1) = (i : Int) := by rw [wrap_i64 (by omega) (by omega)]; omega
  obtain ⟨b, cs, bk, w1, w2, w3, w4, w5⟩ := loadQ hTb.p hp
  rw [hR]
  by_cases hu : p.up = up
  · rw [if_pos hu]
    rw [hu] at w5
    refine ⟨h, _, ?_, hT0, Stf.refl _ _⟩
    rw [call_F (by decide) h68 F68 rfl R68]; simp only [Try.f68, Option.getD]
    simp +contextual (maxSteps := 3000000) only [↓code_skip, ↓code_seq, ↓code_region, ↓code_cond, ↓code_ret, aCond_bool, ↓ops_nil, ↓ops_cons, run_none, run_someF, ↓run0_v, ↓seqK_normal, ↓seqK_ret, ↓retK_ret, put_same, put_ne, env0_at, ev_tmp, ev_const, oc_int, oc_bool, o_move, o_assign, o_pick, o_bin, o_len, o_load, o_nilCheck, o_fieldAddr, o_indexAddr, g_none, g_some, pick_bool, bin_sub, bin_lss, bin_gtr, nil_ptr, resultsOf, oneOrAll, Option.bind_some, Option.map_some, Option.getD_some, decide_eq_true_eq, ↓reduceIte, Nat.reduceEqDiff, not_false_eq_true, Nat.reduceAdd, reduceCtorEq, List.getElem?_cons_zero, List.getElem?_cons_succ, List.getElem?_toArray, gt_iff_lt, ne_eq, fa_ptr T52 p52_0 (by decide), load_p1 T50 a50, loadc_def, fa_ptr T120 p120_2 (by decide), load_p1 T4 a4, bool_eql T4 d4, c1, gt, hlenp, c2, c9, w1, w2, w5, decide_true]
  rw [if_neg hu]
  obtain ⟨b', hB, v1, v2, v3, v4, v5, _⟩ := storeC Pt.enc 3 Pt.len T50 d50 T120 s120 T4 s4 (y := { p with up := up }) (w := .bool up) (j := 2) hTb.p hp (by decide) rfl rfl rfl
  have hbb : b' = b := by rw [w1] at v1; cases v1; rfl
  subst hbb
  obtain ⟨hTB, sB⟩ := hTb.rowP (by rw [List.length_set]; exact v3) v4 v5
  have gB := hTB.g
  have hpB : (ps.set i { p with up := up })[i]? = some { p with up := up } := List.getElem?_set_self hil
  obtain ⟨bB, csB, bkB, x1, x2, x3, x4, x5⟩ := loadQ hTB.p hpB
  have hbb2 : bB = b' := by rw [w1] at x1; cases x1; rfl
  subst hbb2
  have hlen : ∀ h, aLen T 36 ev h = some (.int .i64 (es.length : Nat)) := fun h => hTb.e.len T36 d36
  cases up with
  | true =>
    have hpf : p.up = false := by simpa using hu
    rw [hpf] at w5
    obtain ⟨ev1, hC, k99, hTC, sC⟩ := run99 h98 h99 (m + 19) t p.lo p.hi pv ev _ es hB hTB ⟨by omega, hn.2⟩
    have gC := hTC.g
    obtain ⟨bC, csC, bkC, z1, z2, z3, z4, z5⟩ := loadQ hTC.p hpB
    have hbb3 : bC = bB := by rw [w1] at z1; cases z1; rfl
    subst hbb3
    have z3' : csC[i * 3 + 0]? = some (.int .i64 p.lo) := z3
    have x3' : csB[i * 3 + 0]? = some (.int .i64 p.lo) := x3
    obtain ⟨ev2, hE, q1, q2, q3, q4, q5⟩ := hTC.e.push (new := [.int .i64 p.lo, .int .i64 p.hi, .int .i64 0, .int .i64 n, .int .i64 0, .int .i64 0]) T36 d36 T60 s60 (by decide) (by rw [b60]; decide) rfl rfl (by
      have := List.length_filter_le (fun e => !mt e.lo e.hi p.lo p.hi) es
      rw [b60]; simp [maxBytes]; omega)
    have hcs : fl E6.av (es.filter fun x => !mt x.lo x.hi p.lo p.hi) ++ [.int .i64 p.lo, .int .i64 p.hi, .int .i64 0, .int .i64 n, .int .i64 0, .int .i64 0] = fl E6.av (raiseE es i p) := by
      unfold raiseE; rw [fl_app, hi]; rfl
    have hln : (es.filter fun x => !mt x.lo x.hi p.lo p.hi).length + 1 = (raiseE es i p).length := by unfold raiseE; simp
    rw [hcs, hln] at q2
    obtain ⟨hTF, sF⟩ := hTC.setE q2 (by omega) q4 q5
    obtain ⟨ue1, ue2⟩ := q2.cells
    have gE : hE.get t = some (.cells [pv, ev1] .own) := by rw [q4 t hTC.lt hTC.te]; exact gC
    have stF := store_1 (T := T) T36 s36 ue1 ue2 gE (show 1 < 2 by decide)
    rw [if_pos rfl]
    refine ⟨_, _, ?_, ⟨pv, ev2, hTF, rfl, fun h => by cases h⟩, (sB.trans sC).trans sF⟩
    rw [call_F (by decide) h68 F68 rfl R68]; simp only [Try.f68, Option.getD]
    simp +contextual (maxSteps := 3000000) only [↓code_skip, ↓code_seq, ↓code_region, ↓code_cond, ↓code_ret, aCond_bool, ↓ops_nil, ↓ops_cons, run_none, run_someF, ↓run0_v, ↓run0_h, ↓run0_r, ↓seqK_normal, ↓seqK_ret, ↓retK_ret, put_same, put_ne, put_none, env0_at, ev_tmp, ev_const, ev_func, oc_int, oc_bool, o_move, o_assign, o_pick, o_bin, o_call, o_len, o_build, o_buildSlice, o_load, o_store, o_nilCheck, o_fieldAddr, o_indexAddr, o_append, g_none, g_some, pick_bool, bin_sub, bin_lss, bin_gtr, nil_ptr, resultsOf, oneOrAll, Option.bind_some, Option.map_some, Option.getD_some, ↓reduceIte, Nat.reduceEqDiff, not_false_eq_true, Nat.reduceAdd, Nat.reduceMul, reduceCtorEq, List.getElem?_cons_zero, List.getElem?_cons_succ, List.getElem?_toArray, Bool.false_eq_true, List.map_cons, List.map_nil, List.append_nil, List.nil_append, List.cons_append, and_true, Nat.reduceLeDiff, Nat.le_refl, gt_iff_lt, ne_eq, fa_ptr T52 p52_0 (by decide), load_p1 T50 a50, loadc_def, fa_ptr T120 p120_2 (by decide), load_p1 T4 a4, bool_eql T4 d4, run0_h, fa_ptr T120 p120_0 (by decide), load_p1 T3 a3, fa_ptr T120 p120_1 (by decide), fa_ptr T52 p52_1 (by decide), load_p1 T36 a36, build_struct T60 d60, z60, parts_eq, fillA, AV.cells, AH.splice, List.take_succ_cons, List.take_zero, List.drop_succ_cons, List.drop_zero, List.drop_nil, List.length_cons, List.length_nil, p60_0, p60_1, p60_3, buildSl T36 d36 T60 (n := 1) (by rw [s60]; decide), s60, repl, c1, gt, hlenp, c2, c9, w1, w2, w5, v2, x2, x3', x4, k99, gC, z2, z3', z4, q1, stF, decide_false, callV_fn (g := 99) (by decide)]
    rfl
  | false =>
    have hpf : p.up = true := by simpa using hu
    rw [hpf] at w5
    rw [if_neg (by simp)]
    rw [call_F (by decide) h68 F68 rfl R68]; simp only [Try.f68, Option.getD]
    simp +contextual (maxSteps := 3000000) only [↓code_skip, ↓code_seq, ↓code_region, ↓code_cond, ↓code_block, ↓code_loop, aCond_bool, ↓ops_nil, ↓ops_cons, run_none, run_someF, ↓run0_v, ↓run0_h, ↓seqK_normal, put_same, put_ne, put_none, env0_at, ev_tmp, ev_const, oc_int, oc_bool, oc_nils, o_move, o_assign, o_pick, o_bin, o_len, o_load, o_store, o_nilCheck, o_fieldAddr, o_indexAddr, g_none, g_some, pick_bool, bin_sub, bin_lss, bin_gtr, nil_ptr, Option.bind_some, Option.getD_some, ↓reduceIte, Nat.reduceEqDiff, not_false_eq_true, Nat.reduceAdd, reduceCtorEq, List.getElem?_cons_zero, List.getElem?_cons_succ, List.getElem?_toArray, Bool.false_eq_true, Bool.true_eq_false, gt_iff_lt, ne_eq, fa_ptr T52 p52_0 (by decide), load_p1 T50 a50, loadc_def, fa_ptr T120 p120_2 (by decide), load_p1 T4 a4, bool_eql T4 d4, run0_h, c1, gt, hlenp, c2, c9, w1, w2, w5, v2, decide_false]
    refine iterL_wp (Q := fun r => ∃ h2 off2, r = some (.int .i64 0, h2) ∧ TbV false h2 t (ps.set i { p with up := false }) (es.filter fun e => !decide (e.po = n)) off2 ∧ Stf h h2 (tOff t pv ev) off2) (N := es.length) (Inv := fun k e h' => ∃ k1 v, k + k1 = es.length ∧ RowC 6 h' v ((es.take k1).filter fun e => !decide (e.po = n)).length (fl E6.av ((es.take k1).filter fun e => !decide (e.po = n))) ∧ Fresh hB v ∧ Grow hB h' ∧ k1 ≤ es.length ∧ e 0 = .ptr t 0 ∧ e 1 = .int .i64 n ∧ e 6 = .int .i64 0 ∧ e 8 = v ∧ e 9 = .int .i64 (k1 : Nat)) ?_ ?_ (by omega)
    · rintro k e h' K' ⟨k1, v, hk, hr, hf, hg, hkl, e0, e1, e6, e8, e9⟩ hnext hexit
      have hTk := hTB.grow hg
      have gk := hTk.g
      by_cases hk1 : k1 < es.length
      · have d1 : (k1 : Int) < (es.length : Int) := by omega
        obtain ⟨e, he⟩ : ∃ e, es[k1]? = some e := ⟨es[k1], List.getElem?_eq_getElem hk1⟩
        obtain ⟨be, ce, ke, g1, g2, g3, g4, _, _, _, _, g5, _⟩ := load6 hTk.e he
        have c7 : IntKind.i64.wrap ((k1 : Int) + 1) = ((k1 + 1 : Nat) : Int) := by rw [wrap_i64 (by omega) (by omega)]; rfl
        by_cases d2 : e.po = n
        · have htk : (es.take (k1 + 1)).filter (fun e => !decide (e.po = n)) = (es.take k1).filter (fun e => !decide (e.po = n)) := by rw [List.take_add_one, he]; simp [d2]
          simp +contextual (maxSteps := 3000000) only [↓code_skip, ↓code_seq, ↓code_region, ↓code_cond, ↓code_block, aCond_bool, ↓ops_nil, ↓ops_cons, run_none, ↓run0_v, ↓seqK_normal, ↓blkK_normal, put_same, put_ne, ev_tmp, ev_const, oc_int, o_move, o_assign, o_bin, o_len, o_load, o_nilCheck, o_fieldAddr, o_indexAddr, g_none, bin_add, bin_neq, bin_lss, nil_ptr, decide_eq_true_eq, ↓reduceIte, Nat.reduceEqDiff, not_false_eq_true, not_true_eq_false, Nat.reduceAdd, reduceCtorEq, List.getElem?_cons_zero, List.getElem?_cons_succ, Bool.not_eq_eq_eq_not, Bool.not_true, ne_eq, decide_eq_false_iff_not, loadc_def, load_p1 T3 a3, fa_ptr T52 p52_1 (by decide), load_p1 T36 a36, fa_ptr T60 p60_3 (by decide), e0, e1, e9, d1, gk, hlen, g1, g2, g5, eq_true d2, c7]
          refine hnext (k - 1) _ _ (by omega) ⟨k1 + 1, v, by omega, ?_, ?_, ?_, ?_, ?_, ?_, ?_, ?_, ?_⟩
          · (rw [htk]; exact hr)
          · exact hf
          · exact hg
          · omega
          · simp only [put_ne, not_false_eq_true, reduceCtorEq, ne_eq, e0]
          · simp only [put_ne, Nat.reduceEqDiff, not_false_eq_true, ne_eq, e1]
          · simp only [put_ne, Nat.reduceEqDiff, not_false_eq_true, ne_eq, e6]
          · simp only [put_ne, Nat.reduceEqDiff, not_false_eq_true, ne_eq, e8]
          · simp only [put_same]
        · have htk : (es.take (k1 + 1)).filter (fun e => !decide (e.po = n)) = (es.take k1).filter (fun e => !decide (e.po = n)) ++ [e] := by rw [List.take_add_one, he]; simp [d2]
          obtain ⟨v', h2, q1, q2, q3, q4⟩ := pushE e hr hf hg (by have := List.length_filter_le (fun e => !decide (e.po = n)) (es.take k1); rw [List.length_take] at this; omega)
          rw [← htk] at q2
          simp +contextual (maxSteps := 3000000) only [↓code_skip, ↓code_seq, ↓code_region, ↓code_cond, ↓code_block, aCond_bool, ↓ops_nil, ↓ops_cons, run_none, ↓run0_v, ↓run0_r, ↓seqK_normal, ↓blkK_normal, put_same, put_ne, ev_tmp, ev_const, oc_int, o_move, o_assign, o_bin, o_len, o_buildSlice, o_load, o_nilCheck, o_fieldAddr, o_indexAddr, o_append, g_none, bin_add, bin_neq, bin_lss, nil_ptr, Option.bind_some, Option.map_some, decide_eq_true_eq, ↓reduceIte, Nat.reduceEqDiff, not_false_eq_true, Nat.reduceAdd, Nat.reduceMul, reduceCtorEq, Nat.succ_ne_self, List.getElem?_cons_zero, List.getElem?_cons_succ, List.map_cons, List.map_nil, List.append_nil, List.nil_append, and_true, Nat.le_refl, Bool.not_eq_eq_eq_not, Bool.not_true, ne_eq, decide_eq_false_iff_not, loadc_def, load_p1 T3 a3, fa_ptr T52 p52_1 (by decide), load_p1 T36 a36, z60, parts_eq, fillA, AV.cells, AH.splice, List.take_zero, List.drop_succ_cons, List.drop_nil, List.length_cons, List.length_nil, buildSl T36 d36 T60 (n := 1) (by rw [s60]; decide), s60, repl, fa_ptr T60 p60_3 (by decide), load_pA T60 a60, loadn_def, List.length_cons, List.length_nil, List.take_zero, Nat.zero_add, e0, e1, e8, e9, d1, gk, hlen, g1, g2, g3, g4, g5, d2, q1, c7]
          refine hnext (k - 1) _ _ (by omega) ⟨k1 + 1, v', by omega, ?_, ?_, ?_, ?_, ?_, ?_, ?_, ?_, ?_⟩
          · exact q2
          · exact q3
          · exact q4
          · omega
          · simp only [put_ne, not_false_eq_true, reduceCtorEq, ne_eq, e0]
          · simp only [put_ne, Nat.reduceEqDiff, not_false_eq_true, ne_eq, e1]
          · simp only [put_ne, Nat.reduceEqDiff, not_false_eq_true, ne_eq, e6]
          · simp only [put_same, put_ne, Nat.reduceEqDiff, not_false_eq_true, ne_eq]
          · simp only [put_same]
      · have d1 : ¬ (k1 : Int) < (es.length : Int) := by omega
        rw [List.take_of_length_le (by omega)] at hr
        obtain ⟨h3, s1, s2', s3'⟩ := hTB.newE hr hf hg
        simp +contextual (maxSteps := 3000000) only [↓code_seq, ↓code_region, ↓code_cond, ↓code_exit, aCond_bool, ↓ops_nil, ↓ops_cons, run_none, ↓run0_v, ↓seqK_normal, ↓seqK_exit, put_same, put_ne, ev_tmp, o_move, o_bin, o_len, o_load, o_nilCheck, o_fieldAddr, g_none, bin_lss, nil_ptr, decide_eq_true_eq, ↓reduceIte, Nat.reduceEqDiff, not_false_eq_true, Nat.reduceAdd, reduceCtorEq, List.getElem?_cons_zero, List.getElem?_cons_succ, ne_eq, loadc_def, fa_ptr T52 p52_1 (by decide), load_p1 T36 a36, e0, e9, d1, gk, hlen]
        refine hexit _ _ _ (by simp) ⟨h3, _, ?_, ⟨pv, v, s2', rfl, fun h => by cases h⟩, sB.trans s3'⟩
        simp +contextual (maxSteps := 3000000) only [↓code_seq, ↓code_region, ↓code_ret, ↓ops_nil, ↓ops_cons, run_none, ↓run0_v, ↓run0_h, ↓seqK_normal, ↓blkK_exit, ↓retK_ret, put_same, put_ne, put_none, ev_tmp, ev_const, oc_int, o_move, o_assign, o_store, o_nilCheck, o_fieldAddr, g_none, nil_ptr, resultsOf, oneOrAll, Option.map_some, ↓reduceIte, Nat.reduceEqDiff, not_false_eq_true, Nat.reduceAdd, reduceCtorEq, ne_eq, run0_h, fa_ptr T52 p52_1 (by decide), e0, e8, s1]
    · refine ⟨0, .nils, by omega, ?_, ?_, ?_, ?_, ?_, ?_, ?_, ?_, ?_⟩
      · exact RowC.nil _ _
      · (intro b o l k z x e; cases e)
      · exact Grow.refl _
      · omega
      · simp only [put_ne, env0_at, Option.getD_some, not_false_eq_true, reduceCtorEq, List.getElem?_cons_zero, ne_eq]
      · simp only [put_ne, env0_at, Option.getD_some, Nat.reduceEqDiff, not_false_eq_true, List.getElem?_cons_zero, List.getElem?_cons_succ, ne_eq]
      · simp only [put_same, put_ne, Nat.reduceEqDiff, not_false_eq_true, ne_eq]
      · simp only [put_same, put_ne, Nat.reduceEqDiff, not_false_eq_true, ne_eq]
      · simp only [put_same]; rfl
end Go.AM.X
