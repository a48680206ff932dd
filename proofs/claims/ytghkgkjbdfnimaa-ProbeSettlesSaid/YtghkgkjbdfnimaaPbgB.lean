/- Hints and what is asked for: rows of them. Own work. -/
import Derived.Test.YtghkgkjbdfnimaaPbgA
namespace Go.AM.X
open Go Go.AM Go.Proofs Go.AM.Sx
set_option maxHeartbeats 3200000
set_option maxRecDepth 100000
set_option linter.unusedVariables false
theorem F46 : F 46 = some { body := (Try.f46.body.getD .skip), results := Try.f46.results.toList, rf := false } := by kernel_rfl
theorem R46 : regsOk T (Try.f46.body.getD .skip) = true := by kernel_rfl
theorem F47 : F 47 = some { body := (Try.f47.body.getD .skip), results := Try.f47.results.toList, rf := false } := by kernel_rfl
theorem R47 : regsOk T (Try.f47.body.getD .skip) = true := by kernel_rfl
theorem F32 : F 32 = some { body := (Try.f32.body.getD .skip), results := Try.f32.results.toList, rf := false } := by kernel_rfl
theorem R32 : regsOk T (Try.f32.body.getD .skip) = true := by kernel_rfl
theorem F44 : F 44 = some { body := (Try.f44.body.getD .skip), results := Try.f44.results.toList, rf := false } := by kernel_rfl
theorem R44 : regsOk T (Try.f44.body.getD .skip) = true := by kernel_rfl
theorem F29 : F 29 = some { body := (Try.f29.body.getD .skip), results := Try.f29.results.toList, rf := false } := by kernel_rfl
theorem R29 : regsOk T (Try.f29.body.getD .skip) = true := by kernel_rfl
theorem F48 : F 48 = some { body := (Try.f48.body.getD .skip), results := Try.f48.results.toList, rf := false } := by kernel_rfl
theorem R48 : regsOk T (Try.f48.body.getD .skip) = true := by kernel_rfl
theorem F33 : F 33 = some { body := (Try.f33.body.getD .skip), results := Try.f33.results.toList, rf := false } := by kernel_rfl
theorem R33 : regsOk T (Try.f33.body.getD .skip) = true := by kernel_rfl
theorem F45 : F 45 = some { body := (Try.f45.body.getD .skip), results := Try.f45.results.toList, rf := false } := by kernel_rfl
theorem R45 : regsOk T (Try.f45.body.getD .skip) = true := by kernel_rfl
theorem F30 : F 30 = some { body := (Try.f30.body.getD .skip), results := Try.f30.results.toList, rf := false } := by kernel_rfl
theorem R30 : regsOk T (Try.f30.body.getD .skip) = true := by kernel_rfl
/-- An address that is asked for, and how often. -/
structure As where
  n : Int
  d : Int
  s : Int
  deriving DecidableEq
def As.av (p : As) : List AV := [.int .i64 p.n, .int .i64 p.d, .int .i64 p.s]
theorem As.len (p : As) : p.av.length = 3 := rfl
theorem As.one (p : As) : p.av.all AV.one = true := rfl
/-- A hint. -/
structure Hi where
  n : Int
  d : Int
  t : Int
  g : Int
  deriving DecidableEq
def Hi.av (p : Hi) : List AV := [.int .i64 p.n, .int .i64 p.d, .int .i64 p.t, .int .i64 p.g]
theorem Hi.len (p : Hi) : p.av.length = 4 := rfl
theorem Hi.one (p : Hi) : p.av.all AV.one = true := rfl
def KeepR (h h2 : AH) (v : AV) : Prop := h.next ≤ h2.next ∧ ∀ c, c < h.next → offRow v c → h2.get c = h.get c
theorem KeepR.refl (h : AH) (v : AV) : KeepR h h v := ⟨Nat.le_refl _, fun _ _ _ => rfl⟩
theorem KeepR.trans {h h2 h3 : AH} {v : AV} (a : KeepR h h2 v) (b : KeepR h2 h3 v) : KeepR h h3 v := ⟨Nat.le_trans a.1 b.1, fun c hc ho => by rw [b.2 c (Nat.lt_of_lt_of_le hc a.1) ho, a.2 c hc ho]⟩
theorem KeepR.grow {h h2 : AH} (v : AV) (a : Grow h h2) : KeepR h h2 v := ⟨a.1, fun c hc _ => a.2 c hc⟩
theorem loadAs {h : AH} {v : AV} {l : List As} {i : Nat} {x : As} (hr : RowC 3 h v l.length (fl As.av l)) (hx : l[i]? = some x) :
    ∃ b cs kk, aIndexAddr T 61 v (.int .i64 (i : Nat)) = some (.ptr b (i * 3)) ∧ h.get b = some (.cells cs kk) ∧ i * 3 + 3 ≤ cs.length ∧ (cs.drop (i * 3)).take 3 = [.int .i64 x.n, .int .i64 x.d, .int .i64 x.s] :=
  loadR As.av 3 As.len T61 d61 T74 s74 hr hx
theorem run47 {I : Nat → Option (List AV → AH → Rs)} (h47 : I 47 = none) (m g : Nat) (hg : Nat.beq g YLD = false) (cx : List AV) (pr : As → Bool) (v : AV) (es : List As) (h : AH) (hr : RowC 3 h v es.length (fl As.av es)) (hn : es.length ≤ m ∧ es.length ≤ 1000000000)
    (kc : ∀ n h2, Grow h h2 → ∀ x ∈ es, ∃ h3, call F I T (n + 2) g (.agg [.int .i64 x.n, .int .i64 x.d, .int .i64 x.s] :: cx) h2 = some (.bool (pr x), h3) ∧ Grow h2 h3) :
    ∃ h2, call F I T (m + 50) 47 [v, .fn g [] cx] h = some (.int .i64 (idxAt pr 0 es), h2) ∧ Grow h h2 := by
  have hlen : ∀ h, aLen T 61 v h = some (.int .i64 (es.length : Nat)) := fun h => hr.len T61 d61
  rw [call_F (by decide) h47 F47 rfl R47]; simp only [Try.f47, Option.getD]
  simp +contextual (maxSteps := 3000000) only [↓code_seq, ↓code_region, ↓code_block, ↓code_loop, ↓ops_nil, ↓ops_cons, run_none, ↓run0_v, ↓seqK_normal, put_same, put_ne, env0_at, ev_tmp, ev_const, oc_int, o_move, o_assign, o_len, g_none, Option.getD_some, not_false_eq_true, reduceCtorEq, List.getElem?_cons_zero, ne_eq, hlen]
  refine iterL_wp (Q := fun r => ∃ h2, r = some (.int .i64 (idxAt pr 0 es), h2) ∧ Grow h h2) (N := es.length) (Inv := fun k e h' => ∃ i, k + i = es.length ∧ idxAt pr 0 es = idxAt pr i (es.drop i) ∧ Grow h h' ∧ i ≤ es.length ∧ e 0 = v ∧ e 1 = .fn g [] cx ∧ e 7 = .int .i64 (es.length : Nat) ∧ e 8 = .int .i64 (i : Nat)) ?_ ?_ (by omega)
  · rintro k e h' K' ⟨i, hk, hix, hgr, hil, e0, e1, e7, e8⟩ hnext hexit
    by_cases hi : i < es.length
    · have c1 : (i : Int) < (es.length : Int) := by omega
      obtain ⟨x, hx⟩ : ∃ x, es[i]? = some x := ⟨es[i], List.getElem?_eq_getElem hi⟩
      obtain ⟨b, cs, bk, g1, g2, g3, g4⟩ := loadAs (hr.grow hgr) hx
      obtain ⟨h3, kc1, kc2⟩ := kc (m + 47) h' hgr x (List.mem_of_getElem? hx)
      have c7 : IntKind.i64.wrap ((i : Int) + 1) = ((i + 1 : Nat) : Int) := by rw [wrap_i64 (by omega) (by omega)]; rfl
      rw [List.drop_eq_getElem_cons hi, (List.getElem?_eq_some_iff.1 hx).2] at hix
      simp only [idxAt] at hix
      cases hz : pr x
      · rw [hz, if_neg (by simp)] at hix
        rw [hz] at kc1
        simp +contextual (maxSteps := 3000000) only [↓code_skip, ↓code_seq, ↓code_region, ↓code_cond, ↓code_block, aCond_bool, ↓ops_nil, ↓ops_cons, run_none, ↓run0_v, ↓run0_r, ↓seqK_normal, ↓blkK_normal, put_same, put_ne, ev_tmp, ev_const, oc_int, o_move, o_assign, o_bin, o_call, o_load, o_indexAddr, g_none, bin_add, bin_lss, Option.map_some, decide_eq_true_eq, ↓reduceIte, Nat.reduceEqDiff, not_false_eq_true, reduceCtorEq, Bool.false_eq_true, List.map_cons, List.map_nil, List.nil_append, List.cons_append, ne_eq, load_pA T74 a74, s74, loadn_def, e0, e1, e7, e8, c1, g1, g2, g3, g4, callV_fn hg, kc1, c7]
        refine hnext (k - 1) _ _ (by omega) ⟨i + 1, by omega, ?_, ?_, ?_, ?_, ?_, ?_, ?_⟩
        · exact hix
        · exact hgr.trans kc2
        · omega
        · simp only [put_ne, not_false_eq_true, reduceCtorEq, ne_eq, e0]
        · simp only [put_ne, Nat.reduceEqDiff, not_false_eq_true, ne_eq, e1]
        · simp only [put_ne, Nat.reduceEqDiff, not_false_eq_true, ne_eq, e7]
        · simp only [put_same]
      · rw [hz, if_pos rfl] at hix
        rw [hz] at kc1
        simp +contextual (maxSteps := 3000000) only [↓code_skip, ↓code_seq, ↓code_region, ↓code_cond, ↓code_block, ↓code_ret, aCond_bool, ↓ops_nil, ↓ops_cons, run_none, ↓run0_v, ↓run0_r, ↓seqK_normal, ↓seqK_ret, ↓blkK_ret, put_same, put_ne, ev_tmp, o_move, o_assign, o_bin, o_call, o_load, o_indexAddr, g_none, bin_lss, Option.map_some, decide_eq_true_eq, ↓reduceIte, Nat.reduceEqDiff, not_false_eq_true, reduceCtorEq, List.map_cons, List.map_nil, List.nil_append, List.cons_append, ne_eq, load_pA T74 a74, s74, loadn_def, e0, e1, e7, e8, c1, g1, g2, g3, g4, callV_fn hg, kc1]
        refine hexit _ _ _ (by simp) ⟨h3, ?_, hgr.trans kc2⟩
        simp +contextual (maxSteps := 3000000) only [↓seqK_ret, ↓blkK_ret, ↓retK_ret, put_same, resultsOf, oneOrAll, Option.map_some, hix]
    · have c1 : ¬ (i : Int) < (es.length : Int) := by omega
      rw [List.drop_eq_nil_of_le (by omega)] at hix
      simp +contextual (maxSteps := 3000000) only [↓code_seq, ↓code_region, ↓code_cond, ↓code_exit, aCond_bool, ↓ops_nil, ↓ops_cons, run_none, ↓run0_v, ↓seqK_normal, ↓seqK_exit, put_same, ev_tmp, o_bin, g_none, bin_lss, decide_eq_true_eq, ↓reduceIte, e7, e8, c1]
      refine hexit _ _ _ (by simp) ⟨h', ?_, hgr⟩
      simp +contextual (maxSteps := 3000000) only [↓code_seq, ↓code_region, ↓code_ret, ↓ops_nil, ↓ops_cons, run_none, ↓run0_v, ↓seqK_normal, ↓blkK_exit, ↓retK_ret, put_same, ev_const, oc_int, o_assign, g_none, resultsOf, oneOrAll, Option.map_some, ↓reduceIte, hix, idxAt]
  · refine ⟨0, by omega, ?_, ?_, ?_, ?_, ?_, ?_, ?_⟩
    · rfl
    · exact Grow.refl _
    · omega
    · simp only [put_ne, env0_at, Option.getD_some, not_false_eq_true, reduceCtorEq, List.getElem?_cons_zero, ne_eq]
    · simp only [put_ne, env0_at, Option.getD_some, Nat.reduceEqDiff, not_false_eq_true, List.getElem?_cons_zero, List.getElem?_cons_succ, ne_eq]
    · simp only [put_same, put_ne, Nat.reduceEqDiff, not_false_eq_true, ne_eq]
    · simp only [put_same]; rfl
theorem run32 {I : Nat → Option (List AV → AH → Rs)} (h47 : I 47 = none) (h32 : I 32 = none) (m g : Nat) (hg : Nat.beq g YLD = false) (cx : List AV) (pr : As → Bool) (v : AV) (es : List As) (h : AH) (hr : RowC 3 h v es.length (fl As.av es)) (hn : es.length ≤ m ∧ es.length ≤ 1000000000)
    (kc : ∀ n h2, Grow h h2 → ∀ x ∈ es, ∃ h3, call F I T (n + 2) g (.agg [.int .i64 x.n, .int .i64 x.d, .int .i64 x.s] :: cx) h2 = some (.bool (pr x), h3) ∧ Grow h2 h3) :
    ∃ h2, call F I T (m + 51) 32 [v, .fn g [] cx] h = some (.bool (es.any pr), h2) ∧ Grow h h2 := by
  obtain ⟨h2, k1, k2⟩ := run47 h47 m g hg cx pr v es h hr hn kc
  refine ⟨h2, ?_, k2⟩
  have hany := idxAt_nonneg pr es 0
  rw [call_F (by decide) h32 F32 rfl R32]; simp only [Try.f32, Option.getD]
  cases ha : es.any pr
  · have c1 : ¬ 0 ≤ idxAt pr 0 es := by rw [hany, ha]; simp
    simp +contextual (maxSteps := 3000000) only [↓code_seq, ↓code_region, ↓code_ret, ↓ops_nil, ↓ops_cons, run_none, ↓run0_v, ↓run0_r, ↓seqK_normal, ↓retK_ret, put_same, put_ne, env0_at, ev_tmp, ev_const, ev_func, oc_int, oc_bool, o_move, o_assign, o_bin, o_call, g_none, bin_geq, resultsOf, oneOrAll, Option.map_some, Option.getD_some, Nat.reduceEqDiff, not_false_eq_true, reduceCtorEq, List.getElem?_cons_zero, List.getElem?_cons_succ, List.map_cons, List.map_nil, List.append_nil, List.nil_append, ge_iff_le, ne_eq, k1, c1, decide_false, callV_fn (g := 47) (by decide)]
  · have c1 : 0 ≤ idxAt pr 0 es := by rw [hany, ha]
    simp +contextual (maxSteps := 3000000) only [↓code_seq, ↓code_region, ↓code_ret, ↓ops_nil, ↓ops_cons, run_none, ↓run0_v, ↓run0_r, ↓seqK_normal, ↓retK_ret, put_same, put_ne, env0_at, ev_tmp, ev_const, ev_func, oc_int, oc_bool, o_move, o_assign, o_bin, o_call, g_none, bin_geq, resultsOf, oneOrAll, Option.map_some, Option.getD_some, Nat.reduceEqDiff, not_false_eq_true, reduceCtorEq, List.getElem?_cons_zero, List.getElem?_cons_succ, List.map_cons, List.map_nil, List.append_nil, List.nil_append, ge_iff_le, ne_eq, k1, c1, decide_true, callV_fn (g := 47) (by decide)]
theorem filter_allAs {pr : As → Bool} : ∀ (l : List As) (k : Nat), idxAt pr k l = -1 → l.filter (fun x => !pr x) = l
  | [], _, _ => rfl
  | s :: l, k, h => by
    simp only [idxAt] at h
    by_cases hs : pr s = true
    · rw [if_pos hs] at h; omega
    · rw [if_neg hs] at h
      rw [List.filter_cons_of_pos (by simpa using hs), filter_allAs l _ h]
theorem filter_takeAs {pr : As → Bool} {l : List As} {i : Nat} (h : l.findIdx? pr = some i) : (l.take (i + 1)).filter (fun x => !pr x) = l.take i := by
  induction l generalizing i with
  | nil => simp at h
  | cons s l ih =>
    rw [List.findIdx?_cons] at h
    cases hs : pr s
    · rw [hs] at h
      simp at h
      obtain ⟨j, hj, rfl⟩ := h
      rw [List.take_succ_cons, List.filter_cons_of_pos (by simp [hs]), ih hj, List.take_succ_cons]
    · rw [hs] at h
      simp at h
      subst h
      simp [hs]
theorem store_As (h : AH) (x : As) : ∃ h2, aStore T 74 (.ptr h.next 0) (.agg [.int .i64 x.n, .int .i64 x.d, .int .i64 x.s]) (h.alloc (.cells [.int .i64 0, .int .i64 0, .int .i64 0] .own)) = some h2 ∧ h2.next = h.next + 1 ∧ h2.get h.next = some (.cells [.int .i64 x.n, .int .i64 x.d, .int .i64 x.s] .own) ∧ Grow h h2 := by
  have h1 := store_n (T := T) (t := 74) (b := h.next) (o := 0) (v := .agg x.av) (vs := x.av) (h := h.alloc (.cells [.int .i64 0, .int .i64 0, .int .i64 0] .own)) (cs := [.int .i64 0, .int .i64 0, .int .i64 0]) T74 rfl (by rw [s74]; rfl) rfl (by rw [AH.get_alloc, if_pos rfl]) (by simp [As.len])
  refine ⟨_, h1, by simp, by rw [AH.get_put, if_pos rfl]; rfl, by simp, fun c hc => ?_⟩
  rw [AH.get_put, if_neg (by omega), AH.get_alloc, if_neg (by omega)]
theorem loadHi {h : AH} {v : AV} {l : List Hi} {i : Nat} {x : Hi} (hr : RowC 4 h v l.length (fl Hi.av l)) (hx : l[i]? = some x) :
    ∃ b cs kk, aIndexAddr T 62 v (.int .i64 (i : Nat)) = some (.ptr b (i * 4)) ∧ h.get b = some (.cells cs kk) ∧ i * 4 + 4 ≤ cs.length ∧ (cs.drop (i * 4)).take 4 = [.int .i64 x.n, .int .i64 x.d, .int .i64 x.t, .int .i64 x.g] :=
  loadR Hi.av 4 Hi.len T62 d62 T68 s68 hr hx
theorem run46 {I : Nat → Option (List AV → AH → Rs)} (h46 : I 46 = none) (m g : Nat) (hg : Nat.beq g YLD = false) (cx : List AV) (pr : Hi → Bool) (v : AV) (es : List Hi) (h : AH) (hr : RowC 4 h v es.length (fl Hi.av es)) (hn : es.length ≤ m ∧ es.length ≤ 1000000000)
    (kc : ∀ n h2, Grow h h2 → ∀ x ∈ es, ∃ h3, call F I T (n + 2) g (.agg [.int .i64 x.n, .int .i64 x.d, .int .i64 x.t, .int .i64 x.g] :: cx) h2 = some (.bool (pr x), h3) ∧ Grow h2 h3) :
    ∃ h2, call F I T (m + 50) 46 [v, .fn g [] cx] h = some (.int .i64 (idxAt pr 0 es), h2) ∧ Grow h h2 := by
  have hlen : ∀ h, aLen T 62 v h = some (.int .i64 (es.length : Nat)) := fun h => hr.len T62 d62
  rw [call_F (by decide) h46 F46 rfl R46]; simp only [Try.f46, Option.getD]
  simp +contextual (maxSteps := 3000000) only [↓code_seq, ↓code_region, ↓code_block, ↓code_loop, ↓ops_nil, ↓ops_cons, run_none, ↓run0_v, ↓seqK_normal, put_same, put_ne, env0_at, ev_tmp, ev_const, oc_int, o_move, o_assign, o_len, g_none, Option.getD_some, not_false_eq_true, reduceCtorEq, List.getElem?_cons_zero, ne_eq, hlen]
  refine iterL_wp (Q := fun r => ∃ h2, r = some (.int .i64 (idxAt pr 0 es), h2) ∧ Grow h h2) (N := es.length) (Inv := fun k e h' => ∃ i, k + i = es.length ∧ idxAt pr 0 es = idxAt pr i (es.drop i) ∧ Grow h h' ∧ i ≤ es.length ∧ e 0 = v ∧ e 1 = .fn g [] cx ∧ e 7 = .int .i64 (es.length : Nat) ∧ e 8 = .int .i64 (i : Nat)) ?_ ?_ (by omega)
  · rintro k e h' K' ⟨i, hk, hix, hgr, hil, e0, e1, e7, e8⟩ hnext hexit
    by_cases hi : i < es.length
    · have c1 : (i : Int) < (es.length : Int) := by omega
      obtain ⟨x, hx⟩ : ∃ x, es[i]? = some x := ⟨es[i], List.getElem?_eq_getElem hi⟩
      obtain ⟨b, cs, bk, g1, g2, g3, g4⟩ := loadHi (hr.grow hgr) hx
      obtain ⟨h3, kc1, kc2⟩ := kc (m + 47) h' hgr x (List.mem_of_getElem? hx)
      have c7 : IntKind.i64.wrap ((i : Int) + 1) = ((i + 1 : Nat) : Int) := by rw [wrap_i64 (by omega) (by omega)]; rfl
      rw [List.drop_eq_getElem_cons hi, (List.getElem?_eq_some_iff.1 hx).2] at hix
      simp only [idxAt] at hix
      cases hz : pr x
      · rw [hz, if_neg (by simp)] at hix
        rw [hz] at kc1
        simp +contextual (maxSteps := 3000000) only [↓code_skip, ↓code_seq, ↓code_region, ↓code_cond, ↓code_block, aCond_bool, ↓ops_nil, ↓ops_cons, run_none, ↓run0_v, ↓run0_r, ↓seqK_normal, ↓blkK_normal, put_same, put_ne, ev_tmp, ev_const, oc_int, o_move, o_assign, o_bin, o_call, o_load, o_indexAddr, g_none, bin_add, bin_lss, Option.map_some, decide_eq_true_eq, ↓reduceIte, Nat.reduceEqDiff, not_false_eq_true, reduceCtorEq, Bool.false_eq_true, List.map_cons, List.map_nil, List.nil_append, List.cons_append, ne_eq, load_pA T68 a68, s68, loadn_def, e0, e1, e7, e8, c1, g1, g2, g3, g4, callV_fn hg, kc1, c7]
        refine hnext (k - 1) _ _ (by omega) ⟨i + 1, by omega, ?_, ?_, ?_, ?_, ?_, ?_, ?_⟩
        · exact hix
        · exact hgr.trans kc2
        · omega
        · simp only [put_ne, not_false_eq_true, reduceCtorEq, ne_eq, e0]
        · simp only [put_ne, Nat.reduceEqDiff, not_false_eq_true, ne_eq, e1]
        · simp only [put_ne, Nat.reduceEqDiff, not_false_eq_true, ne_eq, e7]
        · simp only [put_same]
      · rw [hz, if_pos rfl] at hix
        rw [hz] at kc1
        simp +contextual (maxSteps := 3000000) only [↓code_skip, ↓code_seq, ↓code_region, ↓code_cond, ↓code_block, ↓code_ret, aCond_bool, ↓ops_nil, ↓ops_cons, run_none, ↓run0_v, ↓run0_r, ↓seqK_normal, ↓seqK_ret, ↓blkK_ret, put_same, put_ne, ev_tmp, o_move, o_assign, o_bin, o_call, o_load, o_indexAddr, g_none, bin_lss, Option.map_some, decide_eq_true_eq, ↓reduceIte, Nat.reduceEqDiff, not_false_eq_true, reduceCtorEq, List.map_cons, List.map_nil, List.nil_append, List.cons_append, ne_eq, load_pA T68 a68, s68, loadn_def, e0, e1, e7, e8, c1, g1, g2, g3, g4, callV_fn hg, kc1]
        refine hexit _ _ _ (by simp) ⟨h3, ?_, hgr.trans kc2⟩
        simp +contextual (maxSteps := 3000000) only [↓seqK_ret, ↓blkK_ret, ↓retK_ret, put_same, resultsOf, oneOrAll, Option.map_some, hix]
    · have c1 : ¬ (i : Int) < (es.length : Int) := by omega
      rw [List.drop_eq_nil_of_le (by omega)] at hix
      simp +contextual (maxSteps := 3000000) only [↓code_seq, ↓code_region, ↓code_cond, ↓code_exit, aCond_bool, ↓ops_nil, ↓ops_cons, run_none, ↓run0_v, ↓seqK_normal, ↓seqK_exit, put_same, ev_tmp, o_bin, g_none, bin_lss, decide_eq_true_eq, ↓reduceIte, e7, e8, c1]
      refine hexit _ _ _ (by simp) ⟨h', ?_, hgr⟩
      simp +contextual (maxSteps := 3000000) only [↓code_seq, ↓code_region, ↓code_ret, ↓ops_nil, ↓ops_cons, run_none, ↓run0_v, ↓seqK_normal, ↓blkK_exit, ↓retK_ret, put_same, ev_const, oc_int, o_assign, g_none, resultsOf, oneOrAll, Option.map_some, ↓reduceIte, hix, idxAt]
  · refine ⟨0, by omega, ?_, ?_, ?_, ?_, ?_, ?_, ?_⟩
    · rfl
    · exact Grow.refl _
    · omega
    · simp only [put_ne, env0_at, Option.getD_some, not_false_eq_true, reduceCtorEq, List.getElem?_cons_zero, ne_eq]
    · simp only [put_ne, env0_at, Option.getD_some, Nat.reduceEqDiff, not_false_eq_true, List.getElem?_cons_zero, List.getElem?_cons_succ, ne_eq]
    · simp only [put_same, put_ne, Nat.reduceEqDiff, not_false_eq_true, ne_eq]
    · simp only [put_same]; rfl
theorem filter_allHi {pr : Hi → Bool} : ∀ (l : List Hi) (k : Nat), idxAt pr k l = -1 → l.filter (fun x => !pr x) = l
  | [], _, _ => rfl
  | s :: l, k, h => by
    simp only [idxAt] at h
    by_cases hs : pr s = true
    · rw [if_pos hs] at h; omega
    · rw [if_neg hs] at h
      rw [List.filter_cons_of_pos (by simpa using hs), filter_allHi l _ h]
theorem filter_takeHi {pr : Hi → Bool} {l : List Hi} {i : Nat} (h : l.findIdx? pr = some i) : (l.take (i + 1)).filter (fun x => !pr x) = l.take i := by
  induction l generalizing i with
  | nil => simp at h
  | cons s l ih =>
    rw [List.findIdx?_cons] at h
    cases hs : pr s
    · rw [hs] at h
      simp at h
      obtain ⟨j, hj, rfl⟩ := h
      rw [List.take_succ_cons, List.filter_cons_of_pos (by simp [hs]), ih hj, List.take_succ_cons]
    · rw [hs] at h
      simp at h
      subst h
      simp [hs]
theorem store_Hi (h : AH) (x : Hi) : ∃ h2, aStore T 68 (.ptr h.next 0) (.agg [.int .i64 x.n, .int .i64 x.d, .int .i64 x.t, .int .i64 x.g]) (h.alloc (.cells [.int .i64 0, .int .i64 0, .int .i64 0, .int .i64 0] .own)) = some h2 ∧ h2.next = h.next + 1 ∧ h2.get h.next = some (.cells [.int .i64 x.n, .int .i64 x.d, .int .i64 x.t, .int .i64 x.g] .own) ∧ Grow h h2 := by
  have h1 := store_n (T := T) (t := 68) (b := h.next) (o := 0) (v := .agg x.av) (vs := x.av) (h := h.alloc (.cells [.int .i64 0, .int .i64 0, .int .i64 0, .int .i64 0] .own)) (cs := [.int .i64 0, .int .i64 0, .int .i64 0, .int .i64 0]) T68 rfl (by rw [s68]; rfl) rfl (by rw [AH.get_alloc, if_pos rfl]) (by simp [Hi.len])
  refine ⟨_, h1, by simp, by rw [AH.get_put, if_pos rfl]; rfl, by simp, fun c hc => ?_⟩
  rw [AH.get_put, if_neg (by omega), AH.get_alloc, if_neg (by omega)]
theorem run29 {I : Nat → Option (List AV → AH → Rs)} (h46 : I 46 = none) (h29 : I 29 = none) (m g : Nat) (hg : Nat.beq g YLD = false) (cx : List AV) (pr : Hi → Bool) (v : AV) (es : List Hi) (h : AH) (hr : RowC 4 h v es.length (fl Hi.av es)) (hn : es.length ≤ m ∧ es.length ≤ 1000000000)
    (kc : ∀ n h2, KeepR h h2 v → ∀ x ∈ es, ∃ h3, call F I T (n + 2) g (.agg [.int .i64 x.n, .int .i64 x.d, .int .i64 x.t, .int .i64 x.g] :: cx) h2 = some (.bool (pr x), h3) ∧ Grow h2 h3) :
    ∃ v2 h2, call F I T (m + 51) 29 [v, .fn g [] cx] h = some (v2, h2) ∧ RowC 4 h2 v2 (es.filter fun x => !pr x).length (fl Hi.av (es.filter fun x => !pr x)) ∧ KeepR h h2 v ∧ (∀ b o l k z x, v2 = .sl b o l k z x → ∃ o l k z x, v = .sl b o l k z x) := by
  obtain ⟨hA, k1, gA⟩ := run46 h46 m g hg cx pr v es h hr hn (fun n h2 hgr => kc n h2 (KeepR.grow v hgr))
  have hlen : ∀ h, aLen T 62 v h = some (.int .i64 (es.length : Nat)) := fun h => hr.len T62 d62
  rcases idx_find pr es 0 with ⟨i, i1, i2, i3⟩ | ⟨i1, i2⟩
  rotate_left
  · refine ⟨v, hA, ?_, by rw [filter_allHi es 0 i1]; exact hr.grow gA, KeepR.grow v gA, fun b o l k z x e => ⟨_, _, _, _, _, e⟩⟩
    rw [i1] at k1
    rw [call_F (by decide) h29 F29 rfl R29]; simp only [Try.f29, Option.getD]
    simp +contextual (maxSteps := 3000000) only [↓code_seq, ↓code_region, ↓code_cond, ↓code_ret, aCond_bool, ↓ops_nil, ↓ops_cons, run_none, ↓run0_v, ↓run0_r, ↓seqK_normal, ↓seqK_ret, ↓retK_ret, put_same, put_ne, env0_at, ev_tmp, ev_const, ev_func, oc_int, oc_nils, o_move, o_assign, o_bin, o_call, g_none, bin_eql, resultsOf, oneOrAll, Option.map_some, Option.getD_some, decide_eq_true_eq, ↓reduceIte, Nat.reduceEqDiff, not_false_eq_true, reduceCtorEq, List.getElem?_cons_zero, List.getElem?_cons_succ, List.map_cons, List.map_nil, List.append_nil, List.nil_append, ne_eq, k1, callV_fn (g := 46) (by decide)]
  rw [i1, Nat.zero_add] at k1
  have c1 : ¬ ((i : Nat) : Int) = -1 := by omega
  have c7 : IntKind.i64.wrap ((i : Int) + 1) = ((i + 1 : Nat) : Int) := by rw [wrap_i64 (by omega) (by omega)]; rfl
  rw [call_F (by decide) h29 F29 rfl R29]; simp only [Try.f29, Option.getD]
  simp +contextual (maxSteps := 3000000) only [↓code_skip, ↓code_seq, ↓code_region, ↓code_cond, ↓code_block, ↓code_loop, aCond_bool, ↓ops_nil, ↓ops_cons, run_none, ↓run0_v, ↓run0_r, ↓seqK_normal, put_same, put_ne, env0_at, ev_tmp, ev_const, ev_func, oc_int, oc_nils, o_move, o_assign, o_bin, o_call, g_none, bin_add, bin_eql, Option.getD_some, ↓reduceIte, Nat.reduceEqDiff, not_false_eq_true, reduceCtorEq, List.getElem?_cons_zero, List.getElem?_cons_succ, Bool.false_eq_true, List.map_cons, List.map_nil, List.append_nil, List.nil_append, ne_eq, k1, c1, decide_false, callV_fn (g := 46) (by decide)]
  refine iterL_wp (Q := fun r => ∃ v2 h2, r = some (v2, h2) ∧ RowC 4 h2 v2 (es.filter fun x => !pr x).length (fl Hi.av (es.filter fun x => !pr x)) ∧ KeepR h h2 v ∧ (∀ b o l k z x, v2 = .sl b o l k z x → ∃ o l k z x, v = .sl b o l k z x)) (N := es.length - (i + 1)) (Inv := fun k e h' => ∃ y x j L, k + y = es.length - (i + 1) ∧ x = i + 1 + y ∧ RowC 4 h' v L.length (fl Hi.av L) ∧ L.length = es.length ∧ L.take j = (es.take x).filter (fun x => !pr x) ∧ L.drop x = es.drop x ∧ j < x ∧ x ≤ es.length ∧ KeepR h h' v ∧ e 0 = v ∧ e 1 = .fn g [] cx ∧ e 5 = .int .i64 (j : Nat) ∧ e 6 = .int .i64 (x : Nat)) ?_ ?_ (by omega)
  · rintro k e h' K' ⟨y, x, j, L, hk, hy, hL, hLl, ht, hd, hjx, hx, hkr, e0, e1, e5, e6⟩ hnext hexit
    by_cases hi : x < es.length
    · have d1 : (x : Int) < (es.length : Int) := by omega
      have hLx : L[x]? = some es[x] := by
        have := congrArg (fun l => l[0]?) hd
        simpa [List.getElem?_drop, List.getElem?_eq_getElem hi] using this
      obtain ⟨q, hq⟩ : ∃ q, q = es[x] := ⟨_, rfl⟩
      rw [← hq] at hLx
      obtain ⟨b, cs, bk, g1, g2, g3, g4⟩ := loadHi hL hLx
      have hm : q ∈ es := by rw [hq]; exact List.getElem_mem hi
      obtain ⟨hz, y1, y2, y3, y4⟩ := store_Hi h' q
      obtain ⟨h3, kc1, kc2⟩ := kc (m + 48) hz (hkr.trans (KeepR.grow v y4)) q hm
      have y3' : h3.get h'.next = some (.cells [.int .i64 q.n, .int .i64 q.d, .int .i64 q.t, .int .i64 q.g] .own) := by rw [kc2.2 _ (by omega)]; exact y3
      have hgr := y4.trans kc2
      have hL3 := hL.grow hgr
      have hkr3 := hkr.trans (KeepR.grow v hgr)
      have d7 : IntKind.i64.wrap ((x : Int) + 1) = ((x + 1 : Nat) : Int) := by rw [wrap_i64 (by omega) (by omega)]; rfl
      have d8 : IntKind.i64.wrap ((j : Int) + 1) = ((j + 1 : Nat) : Int) := by rw [wrap_i64 (by omega) (by omega)]; rfl
      have htk : es.take (x + 1) = es.take x ++ [q] := by rw [List.take_add_one, List.getElem?_eq_getElem hi, hq]; rfl
      have hdd : L.drop (x + 1) = es.drop (x + 1) := by
        have := congrArg (List.drop 1) hd
        rwa [List.drop_drop, List.drop_drop] at this
      cases hzz : pr q
      · rw [hzz] at kc1
        obtain ⟨q0, hq0⟩ : ∃ q0, L[j]? = some q0 := ⟨L[j]'(by omega), List.getElem?_eq_getElem (by omega)⟩
        obtain ⟨b', h4, q1, q2, q3, q4, q5, _, _⟩ := storeR Hi.av 4 Hi.len T62 d62 T68 s68 q hL3 hq0 (Hi.one q)
        replace q2 : aStore T 68 (.ptr b' (j * 4)) (.agg [.int .i64 q.n, .int .i64 q.d, .int .i64 q.t, .int .i64 q.g]) h3 = some h4 := q2
        simp +contextual (maxSteps := 3000000) only [↓code_skip, ↓code_seq, ↓code_region, ↓code_cond, ↓code_block, aCond_bool, ↓ops_nil, ↓ops_cons, run_none, ↓run0_v, ↓run0_h, ↓run0_r, ↓seqK_normal, ↓blkK_normal, put_same, put_ne, put_none, ev_tmp, ev_const, oc_int, o_move, o_assign, o_bin, o_call, o_len, o_alloc, o_load, o_store, o_un, o_indexAddr, g_none, bin_add, bin_lss, un_not, Option.map_some, decide_eq_true_eq, ↓reduceIte, Nat.reduceEqDiff, not_false_eq_true, Nat.reduceAdd, reduceCtorEq, Nat.succ_ne_self, List.map_cons, List.map_nil, List.nil_append, List.cons_append, Nat.le_refl, Bool.not_false, ne_eq, load_pA T68 a68, s68, loadn_def, alloc_t T68, z68, e0, e1, e5, e6, d1, hlen, g1, g2, g3, g4, List.length_cons, List.length_nil, List.drop_zero, List.take_succ_cons, List.take_nil, Nat.zero_add, y1, y3, y3', callV_fn hg, kc1, d7, d8, q1, q2]
        refine hnext (k - 1) _ _ (by omega) ⟨y + 1, x + 1, j + 1, L.set j q, by omega, ?_, ?_, ?_, ?_, ?_, ?_, ?_, ?_, ?_, ?_, ?_, ?_⟩
        · omega
        · (rw [List.length_set]; exact q3)
        · (rw [List.length_set]; exact hLl)
        · (rw [htk, List.filter_append, ← ht, List.filter_cons_of_pos (by simp [hzz]), List.filter_nil, List.take_add_one, List.getElem?_set_self (by omega), List.take_set_of_le (Nat.le_refl _)]; rfl)
        · (rw [List.drop_set_of_lt (by omega)]; exact hdd)
        · omega
        · omega
        · exact ⟨by rw [q4]; exact hkr3.1, fun c hc ho => by rw [q5 c ho]; exact hkr3.2 c hc ho⟩
        · simp only [put_ne, not_false_eq_true, reduceCtorEq, ne_eq, e0]
        · simp only [put_ne, Nat.reduceEqDiff, not_false_eq_true, ne_eq, e1]
        · simp only [put_same, put_ne, Nat.reduceEqDiff, not_false_eq_true, ne_eq]
        · simp only [put_same]
      · rw [hzz] at kc1
        simp +contextual (maxSteps := 3000000) only [↓code_skip, ↓code_seq, ↓code_region, ↓code_cond, ↓code_block, aCond_bool, ↓ops_nil, ↓ops_cons, run_none, ↓run0_v, ↓run0_h, ↓run0_r, ↓seqK_normal, ↓blkK_normal, put_same, put_ne, put_none, ev_tmp, ev_const, oc_int, o_move, o_assign, o_bin, o_call, o_len, o_alloc, o_load, o_store, o_un, o_indexAddr, g_none, bin_add, bin_lss, un_not, Option.map_some, decide_eq_true_eq, ↓reduceIte, Nat.reduceEqDiff, not_false_eq_true, Nat.reduceAdd, reduceCtorEq, Bool.false_eq_true, List.map_cons, List.map_nil, List.nil_append, List.cons_append, Nat.le_refl, Bool.not_true, ne_eq, load_pA T68 a68, s68, loadn_def, alloc_t T68, z68, e0, e1, e6, d1, hlen, g1, g2, g3, g4, List.length_cons, List.length_nil, List.drop_zero, List.take_succ_cons, List.take_nil, Nat.zero_add, y1, y3, callV_fn hg, kc1, d7]
        refine hnext (k - 1) _ _ (by omega) ⟨y + 1, x + 1, j, L, by omega, ?_, ?_, ?_, ?_, ?_, ?_, ?_, ?_, ?_, ?_, ?_, ?_⟩
        · omega
        · exact hL3
        · exact hLl
        · (rw [htk, List.filter_append, ht, List.filter_cons_of_neg (by simp [hzz])]; simp)
        · exact hdd
        · omega
        · omega
        · exact hkr3
        · simp only [put_ne, not_false_eq_true, reduceCtorEq, ne_eq, e0]
        · simp only [put_ne, Nat.reduceEqDiff, not_false_eq_true, ne_eq, e1]
        · simp only [put_ne, Nat.reduceEqDiff, not_false_eq_true, ne_eq, e5]
        · simp only [put_same]
    · have d1 : ¬ (x : Int) < (es.length : Int) := by omega
      have hin : x = es.length := by omega
      rw [hin, List.take_length] at ht
      obtain ⟨x38, h2, v2, q1, q2, q3, q4, q5, q6, q7⟩ := hL.trunc (j := j) T62 d62 T68 s68 (by decide) (by rw [z68]; rfl) (by rw [z68]; rfl) (by omega) (by omega)
      have hjl : (es.filter fun x => !pr x).length = j := by rw [← ht, List.length_take]; omega
      have htk : (fl Hi.av L).take (j * 4) = fl Hi.av (es.filter fun x => !pr x) := by rw [← ht, fl_take Hi.av 4 Hi.len]
      rw [htk, ← hjl] at q4
      simp +contextual (maxSteps := 3000000) only [↓code_seq, ↓code_region, ↓code_cond, ↓code_exit, aCond_bool, ↓ops_nil, ↓ops_cons, run_none, ↓run0_v, ↓seqK_normal, ↓seqK_exit, put_same, put_ne, ev_tmp, o_move, o_bin, o_len, g_none, bin_lss, decide_eq_true_eq, ↓reduceIte, Nat.reduceEqDiff, not_false_eq_true, reduceCtorEq, ne_eq, e0, e6, d1, hlen]
      refine hexit _ _ _ (by simp) ⟨v2, h2, ?_, q4, ⟨by rw [q5]; exact hkr.1, fun c hc ho => (q6 c ho).trans (hkr.2 c hc ho)⟩, q7⟩
      simp +contextual (maxSteps := 3000000) only [↓code_seq, ↓code_region, ↓code_ret, ↓ops_nil, ↓ops_cons, run_none, ↓run0_v, ↓run0_h, ↓seqK_normal, ↓blkK_exit, ↓retK_ret, put_same, put_ne, put_none, ev_tmp, o_move, o_assign, o_slice, g_none, resultsOf, oneOrAll, Option.map_some, Option.map_none, ↓reduceIte, Nat.reduceEqDiff, not_false_eq_true, reduceCtorEq, ne_eq, e0, e5, o_clear, q1, q2, q3]
  · refine ⟨0, i + 1, i, es, by omega, ?_, ?_, ?_, ?_, ?_, ?_, ?_, ?_, ?_, ?_, ?_, ?_⟩
    · omega
    · exact hr.grow gA
    · rfl
    · exact (filter_takeHi i2).symm
    · rfl
    · omega
    · omega
    · exact KeepR.grow v gA
    · simp only [put_ne, env0_at, Option.getD_some, not_false_eq_true, reduceCtorEq, List.getElem?_cons_zero, ne_eq, c7]
    · simp only [put_ne, env0_at, Option.getD_some, Nat.reduceEqDiff, not_false_eq_true, List.getElem?_cons_zero, List.getElem?_cons_succ, ne_eq, c7]
    · simp only [put_same, put_ne, Nat.reduceEqDiff, not_false_eq_true, ne_eq, c7]
    · simp only [put_same, c7]
theorem st_eql {t : Nat} {ti : TI} {xs ys : List AV} {b : Bool} {h : AH} {fs : Array Field} (ht : T t = some ti) (hd : ti.desc = .struct fs) (h1 : conf ti.eqk xs = true) (h2 : conf ti.eqk ys = true) (h3 : ti.eqk.isEmpty = false) (he : eqCells xs ys = b) :
    aBin T .eql t (.agg xs) (.agg ys) h = some (.bool b) := by simp [aBin, eqV, ht, hd, h1, h2, h3, he]
theorem st_neq {t : Nat} {ti : TI} {xs ys : List AV} {b : Bool} {h : AH} {fs : Array Field} (ht : T t = some ti) (hd : ti.desc = .struct fs) (h1 : conf ti.eqk xs = true) (h2 : conf ti.eqk ys = true) (h3 : ti.eqk.isEmpty = false) (he : eqCells xs ys = b) :
    aBin T .neq t (.agg xs) (.agg ys) h = some (.bool (!b)) := by simp [aBin, eqV, ht, hd, h1, h2, h3, he]
/-- Two addresses. -/
def eqA (a b c d : Int) : Bool := decide (a = c) && decide (b = d)
theorem eql35 (a b c d : Int) (h : AH) : aBin T .eql 35 (.agg [.int .i64 a, .int .i64 b]) (.agg [.int .i64 c, .int .i64 d]) h = some (.bool (eqA a b c d)) := by
  have h1 : conf tt35.eqk [.int .i64 a, .int .i64 b] = true := by kernel_rfl
  have h2 : conf tt35.eqk [.int .i64 c, .int .i64 d] = true := by kernel_rfl
  have h3 : tt35.eqk.isEmpty = false := by kernel_rfl
  have he : eqCells [.int .i64 a, .int .i64 b] [.int .i64 c, .int .i64 d] = eqA a b c d := by simp [eqCells, eqA]; rfl
  exact st_eql T35 d35 h1 h2 h3 he
theorem neq35 (a b c d : Int) (h : AH) : aBin T .neq 35 (.agg [.int .i64 a, .int .i64 b]) (.agg [.int .i64 c, .int .i64 d]) h = some (.bool (!eqA a b c d)) := by
  have h1 : conf tt35.eqk [.int .i64 a, .int .i64 b] = true := by kernel_rfl
  have h2 : conf tt35.eqk [.int .i64 c, .int .i64 d] = true := by kernel_rfl
  have h3 : tt35.eqk.isEmpty = false := by kernel_rfl
  have he : eqCells [.int .i64 a, .int .i64 b] [.int .i64 c, .int .i64 d] = eqA a b c d := by simp [eqCells, eqA]; rfl
  exact st_neq T35 d35 h1 h2 h3 he
theorem run48 {I : Nat → Option (List AV → AH → Rs)} (h48 : I 48 = none) (m k : Nat) (n d : Int) (e : Hi) (kk : BK) (h : AH) (hk : h.get k = some (.cells [.int .i64 n, .int .i64 d] kk)) (hl : k < h.next) :
    ∃ h3, call F I T (m + 2) 48 [.agg [.int .i64 e.n, .int .i64 e.d, .int .i64 e.t, .int .i64 e.g], .ptr k 0] h = some (.bool (eqA e.n e.d n d), h3) ∧ Grow h h3 := by
  have hg := Grow.alloc h (.cells [.int .i64 e.n, .int .i64 e.d, .int .i64 e.t, .int .i64 e.g] .own)
  have hk2 := (hg.2 k hl).trans hk
  have hne : ¬ k = h.next := by omega
  refine ⟨_, ?_, hg⟩
  rw [call_F (by decide) h48 F48 rfl R48]; simp only [Try.f48, Option.getD]
  simp +contextual (maxSteps := 3000000) only [↓code_seq, ↓code_region, ↓code_ret, ↓ops_nil, ↓ops_cons, run_none, ↓run0_v, ↓run0_r, ↓seqK_normal, ↓retK_ret, put_same, put_ne, env0_at, ev_tmp, ev_const, oc_bool, o_assign, o_bin, o_box, o_load, o_fieldAddr, g_none, resultsOf, oneOrAll, Option.map_some, Option.getD_some, ↓reduceIte, Nat.reduceEqDiff, not_false_eq_true, Nat.reduceAdd, List.getElem?_cons_zero, List.getElem?_cons_succ, AH.get_alloc, Nat.reduceLeDiff, Nat.le_refl, ne_eq, box_agg, fa_ptr T68 p68_0 (by decide), load_pA T35 a35, s35, loadn_def, List.length_cons, List.length_nil, List.drop_zero, List.take_succ_cons, List.take_zero, List.take_nil, Nat.zero_add, Nat.add_zero, hk, hne, eql35]
theorem run33 {I : Nat → Option (List AV → AH → Rs)} (h33 : I 33 = none) (m k : Nat) (n d : Int) (e : As) (kk : BK) (h : AH) (hk : h.get k = some (.cells [.int .i64 n, .int .i64 d] kk)) (hl : k < h.next) :
    ∃ h3, call F I T (m + 2) 33 [.agg [.int .i64 e.n, .int .i64 e.d, .int .i64 e.s], .ptr k 0] h = some (.bool (eqA e.n e.d n d), h3) ∧ Grow h h3 := by
  have hg := Grow.alloc h (.cells [.int .i64 e.n, .int .i64 e.d, .int .i64 e.s] .own)
  have hne : ¬ k = h.next := by omega
  refine ⟨_, ?_, hg⟩
  rw [call_F (by decide) h33 F33 rfl R33]; simp only [Try.f33, Option.getD]
  simp +contextual (maxSteps := 3000000) only [↓code_seq, ↓code_region, ↓code_ret, ↓ops_nil, ↓ops_cons, run_none, ↓run0_v, ↓run0_r, ↓seqK_normal, ↓retK_ret, put_same, put_ne, env0_at, ev_tmp, ev_const, oc_bool, o_assign, o_bin, o_box, o_load, o_fieldAddr, g_none, resultsOf, oneOrAll, Option.map_some, Option.getD_some, ↓reduceIte, Nat.reduceEqDiff, not_false_eq_true, Nat.reduceAdd, List.getElem?_cons_zero, List.getElem?_cons_succ, AH.get_alloc, Nat.reduceLeDiff, Nat.le_refl, ne_eq, box_agg, fa_ptr T74 p74_0 (by decide), load_pA T35 a35, s35, loadn_def, List.length_cons, List.length_nil, List.drop_zero, List.take_succ_cons, List.take_zero, List.take_nil, Nat.zero_add, Nat.add_zero, hk, hne, eql35]
theorem run30 {I : Nat → Option (List AV → AH → Rs)} (h30 : I 30 = none) (m : Nat) (e : Hi) (h : AH) :
    ∃ h3, call F I T (m + 2) 30 [.agg [.int .i64 e.n, .int .i64 e.d, .int .i64 e.t, .int .i64 e.g]] h = some (.bool (decide (20 < e.g)), h3) ∧ Grow h h3 := by
  have hg := Grow.alloc h (.cells [.int .i64 e.n, .int .i64 e.d, .int .i64 e.t, .int .i64 e.g] .own)
  refine ⟨_, ?_, hg⟩
  rw [call_F (by decide) h30 F30 rfl R30]; simp only [Try.f30, Option.getD]
  simp +contextual (maxSteps := 3000000) only [↓code_seq, ↓code_region, ↓code_ret, ↓ops_nil, ↓ops_cons, run_none, ↓run0_v, ↓run0_r, ↓seqK_normal, ↓retK_ret, put_same, put_ne, env0_at, ev_tmp, ev_const, oc_int, oc_bool, o_assign, o_bin, o_box, o_load, o_fieldAddr, g_none, bin_gtr, resultsOf, oneOrAll, Option.map_some, Option.getD_some, ↓reduceIte, Nat.reduceEqDiff, not_false_eq_true, List.getElem?_cons_zero, List.getElem?_cons_succ, AH.get_alloc, gt_iff_lt, ne_eq, box_agg, fa_ptr T68 p68_2 (by decide), load_p1 T3 a3, loadc_def, Nat.zero_add]
end Go.AM.X
