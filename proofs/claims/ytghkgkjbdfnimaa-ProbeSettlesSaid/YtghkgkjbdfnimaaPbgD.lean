/- A link: the addresses of a station, hints, what is learnt. Own work. -/
import Derived.Test.YtghkgkjbdfnimaaPbgC
namespace Go.AM.X
open Go Go.AM Go.Proofs Go.AM.Sx
set_option maxHeartbeats 6400000
set_option maxRecDepth 100000
set_option linter.unusedVariables false
theorem F41 : F 41 = some { body := (Try.f41.body.getD .skip), results := Try.f41.results.toList, rf := false } := by kernel_rfl
theorem R41 : regsOk T (Try.f41.body.getD .skip) = true := by kernel_rfl
theorem F34 : F 34 = some { body := (Try.f34.body.getD .skip), results := Try.f34.results.toList, rf := false } := by kernel_rfl
theorem R34 : regsOk T (Try.f34.body.getD .skip) = true := by kernel_rfl
def mx (a b : Int) : Int := if a < b then b else a
theorem aMax_mx {k k2 : IntKind} {a b : Int} : aMax (.int k a) (.int k2 b) = some (.int k (mx a b)) := by simp [aMax, mx]
theorem un_neg {k : IntKind} {n : Int} : aUn .neg (.int k n) = some (.int k (k.wrap (0 - n))) := rfl
/-- The number of an address, as it stands in a row. -/
def adx (row : List Int) (k : Int) : Int := match row[(k % (row.length : Int)).toNat]? with
  | some y => mx y (IntKind.i64.wrap (0 - y))
  | none => k
def adN (lo hi : Int) (x : Int) : Int := IntKind.i64.wrap (lo + (IntKind.i64.wrap ((mx x 0).tdiv 253)).tmod (IntKind.i64.wrap (IntKind.i64.wrap (hi - lo) + 1)))
def adD (x : Int) : Int := IntKind.i64.wrap (1 + (mx x 0).tmod 253)
def adrN (lo hi : Int) (row : List Int) (k : Int) : Int := adN lo hi (adx row k)
def adrD (row : List Int) (k : Int) : Int := adD (adx row k)
theorem code_dr {C : Cf} {T : TT} {n : Nat} {rf : Bool} {id all e h K} (hd : drawOk T all = true) (hs : softs T all = []) : code C T n rf (.region id all true) e h K = ops C T all all.toList e h (K .normal) := by
  simp only [code, hd, hs]
theorem Rv.at_ {rv : AV} {row : List Int} (h : Rv rv row) {i : Nat} {x : Int} (hx : row[i]? = some x) : ∃ pl, aIndexAddr T 22 rv (.int .i64 (i : Nat)) = some (.fp pl) ∧ pl[0]? = some (.int .i64 x) := by
  have hi := (List.getElem?_eq_some_iff.1 hx).1
  rcases h with ⟨rfl, rfl⟩ | rfl
  · simp at hi
  · refine ⟨_, ia_lst T22 d22 T3 s3 |>.trans (if_pos ⟨by omega, by omega⟩), ?_⟩
    rw [Nat.mul_one, Int.toNat_natCast, List.getElem?_drop, Nat.add_zero, List.getElem?_map, hx]; rfl
theorem run41 {I : Nat → Option (List AV → AH → Rs)} (h41 : I 41 = none) (m p a : Nat) (lo hi fr k : Int) (sv rv av hv : AV) (row : List Int) (st kk se n d : Int) (h : AH) (hp : h.get p = some (.cells [.int .i64 lo, .int .i64 hi, .nils, sv, .int .i64 fr] .own)) (pl : p < h.next)
    (ha : h.get a = some (.cells [rv, .int .i64 st, .int .i64 kk, .int .i64 se, .int .i64 n, .int .i64 d, av, hv] .own)) (al : a < h.next) (hr : Rv rv row) (hl : 1 ≤ lo ∧ lo ≤ hi ∧ hi ≤ 65279) (hk : 0 ≤ k ∧ k ≤ 600) :
    ∃ h2, call F I T (m + 2) 41 [.ptr p 0, .ptr a 0, .int .i64 k] h = some (.agg [.int .i64 (adrN lo hi row k), .int .i64 (adrD row k)], h2) ∧ Grow h h2 := by
  obtain ⟨h1, e1⟩ : ∃ h1, h1 = h.alloc (.cells [.int .i64 0, .int .i64 0] .own) := ⟨_, rfl⟩
  have hg : Grow h h1 := by rw [e1]; exact Grow.alloc _ _
  have g0 : h1.get h.next = some (.cells [.int .i64 0, .int .i64 0] .own) := by rw [e1, AH.get_alloc, if_pos rfl]
  have hp1 := (hg.2 _ pl).trans hp
  have ha1 := (hg.2 _ al).trans ha
  have hlen : ∀ h, aLen T 22 rv h = some (.int .i64 (row.length : Nat)) := fun h => hr.len h
  have fin : ∀ N D, Grow h (h1.put h.next (.cells [.int .i64 N, .int .i64 D] .own)) := fun N D => ⟨hg.1, fun c hc => by rw [AH.get_put, if_neg (by omega)]; exact hg.2 c hc⟩
  have y1 := fun N D => st2_0 (x := .int .i64 N) (y := .int .i64 D) rfl rfl g0
  have d0 : ¬ IntKind.i64.wrap (IntKind.i64.wrap (hi - lo) + 1) = 0 := by rw [wrap_i64 (x := hi - lo) (by omega) (by omega), wrap_i64 (by omega) (by omega)]; omega
  have ad0 : ¬ (253 : Int) = 0 := by decide
  cases row with
  | nil =>
    have hx : adx [] k = k := rfl
    refine ⟨_, ?_, fin (adrN lo hi [] k) (adrD [] k)⟩
    unfold adrN adrD adN adD
    rw [hx]
    rw [call_F (by decide) h41 F41 rfl R41]; simp only [Try.f41, Option.getD]
    simp +contextual (maxSteps := 3000000) only [↓code_skip, ↓code_seq, ↓code_region, ↓code_cond, ↓code_ret, aCond_bool, ↓ops_nil, ↓ops_cons, run_none, ↓run0_v, ↓run0_h, ↓run0_r, ↓seqK_normal, ↓retK_ret, put_same, put_ne, put_none, env0_at, ev_tmp, ev_const, oc_int, o_move, o_assign, o_bin, o_len, o_alloc, o_build, o_load, o_store, o_nilCheck, o_fieldAddr, o_max, g_none, bin_add, bin_sub, bin_quo, bin_rem, bin_gtr, nil_ptr, resultsOf, oneOrAll, Option.bind_some, Option.map_some, Option.getD_some, decide_eq_true_eq, ↓reduceIte, Nat.reduceEqDiff, not_false_eq_true, Nat.reduceAdd, reduceCtorEq, List.getElem?_cons_zero, List.getElem?_cons_succ, List.map_cons, List.map_nil, List.append_nil, List.nil_append, List.cons_append, AH.get_put, and_true, Nat.reduceLeDiff, Nat.le_refl, gt_iff_lt, ne_eq, alloc_t T35, z35, fa_ptr T64 p64_0 (by decide), load_p1 T22 a22, loadc_def, load_p1 T3 a3, fa_ptr T58 p58_0 (by decide), fa_ptr T58 p58_1 (by decide), build_struct T35 d35, parts_eq, fillA, AV.cells, AH.splice, List.take_succ_cons, List.take_zero, List.take_nil, List.drop_succ_cons, List.drop_zero, List.drop_nil, List.length_cons, List.length_nil, p35_0, p35_1, ← e1, hp1, ha1, hlen, List.length_nil, Int.lt_irrefl, Int.natCast_zero, aMax_mx, d0, ad0, y1, run0_h, load_pA T35 a35, s35, Nat.reduceLeDiff, AH.loadn, List.length_cons, List.length_nil, List.drop_zero, List.take_succ_cons, List.take_zero, List.take_nil, Nat.zero_add, Nat.add_zero]
  | cons y0 row0 =>
    obtain ⟨row, hrow⟩ : ∃ row, row = y0 :: row0 := ⟨_, rfl⟩
    rw [← hrow] at hlen hr ⊢
    have hrl : 0 < row.length := by rw [hrow]; simp
    have c1 : (0 : Int) < (row.length : Int) := by omega
    have c2 : ¬ (row.length : Int) = 0 := by omega
    obtain ⟨j, hj⟩ : ∃ j : Nat, j = (k % (row.length : Int)).toNat := ⟨_, rfl⟩
    have hm1 := Int.emod_nonneg k c2
    have hm2 := Int.emod_lt_of_pos k c1
    have c3 : k.tmod (row.length : Int) = (j : Int) := by rw [Int.tmod_eq_emod_of_nonneg hk.1]; omega
    obtain ⟨y, hy⟩ : ∃ y, row[j]? = some y := ⟨row[j]'(by omega), List.getElem?_eq_getElem (by omega)⟩
    have hx : adx row k = mx y (IntKind.i64.wrap (0 - y)) := by unfold adx; rw [← hj, hy]
    obtain ⟨pl, q1, q2⟩ := hr.at_ hy
    refine ⟨_, ?_, fin (adrN lo hi row k) (adrD row k)⟩
    unfold adrN adrD adN adD
    rw [hx]
    rw [call_F (by decide) h41 F41 rfl R41]; simp only [Try.f41, Option.getD]
    simp +contextual (maxSteps := 3000000) only [↓code_seq, ↓code_region, ↓code_cond, ↓code_ret, aCond_bool, ↓ops_nil, ↓ops_cons, run_none, ↓run0_v, ↓run0_h, ↓run0_r, ↓seqK_normal, ↓retK_ret, put_same, put_ne, put_none, env0_at, ev_tmp, ev_const, oc_int, o_move, o_assign, o_bin, o_len, o_alloc, o_build, o_load, o_store, o_nilCheck, o_un, o_fieldAddr, o_indexAddr, o_max, g_none, bin_add, bin_sub, bin_quo, bin_rem, bin_gtr, nil_ptr, resultsOf, oneOrAll, Option.bind_some, Option.map_some, Option.getD_some, decide_eq_true_eq, ↓reduceIte, Nat.reduceEqDiff, not_false_eq_true, Nat.reduceAdd, reduceCtorEq, List.getElem?_cons_zero, List.getElem?_cons_succ, List.map_cons, List.map_nil, List.append_nil, List.nil_append, List.cons_append, AH.get_put, and_true, Nat.reduceLeDiff, Nat.le_refl, gt_iff_lt, ne_eq, alloc_t T35, z35, fa_ptr T64 p64_0 (by decide), load_p1 T22 a22, loadc_def, load_fp1 T3 a3, load_p1 T3 a3, fa_ptr T58 p58_0 (by decide), fa_ptr T58 p58_1 (by decide), build_struct T35 d35, parts_eq, fillA, AV.cells, AH.splice, List.take_succ_cons, List.take_zero, List.take_nil, List.drop_succ_cons, List.drop_zero, List.drop_nil, List.length_cons, List.length_nil, p35_0, p35_1, ← e1, hp1, ha1, hlen, c1, c2, c3, q1, q2, un_neg, aMax_mx, d0, ad0, y1, run0_h, load_pA T35 a35, s35, Nat.reduceLeDiff, AH.loadn, List.length_cons, List.length_nil, List.drop_zero, List.take_succ_cons, List.take_zero, List.take_nil, Nat.zero_add, Nat.add_zero]
/-- The place of a hint. -/
def hintI (s : Sn) (n d : Int) : Int := idxAt (fun e => eqA e.n e.d n d) 0 s.hs
theorem run34 {I : Nat → Option (List AV → AH → Rs)} (h46 : I 46 = none) (h34 : I 34 = none) (h48 : I 48 = none) (m a : Nat) (n d : Int) (rv av hv : AV) (s : Sn) (h : AH) (hg : h.get a = some (.cells (s.enc av hv) .own)) (hlt : a < h.next) (hr : RowC 4 h hv s.hs.length (fl Hi.av s.hs)) (hn : s.hs.length ≤ m ∧ s.hs.length ≤ 1000000000) :
    ∃ h2, call F I T (m + 60) 34 [.ptr a 0, .agg [.int .i64 n, .int .i64 d]] h = some (.int .i64 (hintI s n d), h2) ∧ Grow h h2 := by
  have hg1 := Grow.alloc h (.cells [.int .i64 n, .int .i64 d] .own)
  obtain ⟨h1, e1⟩ : ∃ h1, h1 = h.alloc (.cells [.int .i64 n, .int .i64 d] .own) := ⟨_, rfl⟩
  rw [← e1] at hg1
  have g0 : h1.get h.next = some (.cells [.int .i64 n, .int .i64 d] .own) := by rw [e1, AH.get_alloc, if_pos rfl]
  have ha := (hg1.2 _ hlt).trans hg
  unfold Sn.enc at ha
  have hnx : h.next < h1.next := by rw [e1, AH.next_alloc]; omega
  obtain ⟨h2, k1, k2⟩ := run46 h46 (m + 9) 48 (by decide) [.ptr h.next 0] (fun e => eqA e.n e.d n d) hv s.hs h1 (hr.grow hg1) ⟨by omega, hn.2⟩ fun N H hG x hx => by
    exact run48 h48 N h.next n d x _ H ((hG.2 _ hnx).trans g0) (Nat.lt_of_lt_of_le hnx hG.1)
  refine ⟨h2, ?_, hg1.trans k2⟩
  unfold hintI
  rw [call_F (by decide) h34 F34 rfl R34]; simp only [Try.f34, Option.getD]
  simp +contextual (maxSteps := 3000000) only [↓code_seq, ↓code_region, ↓code_ret, ↓ops_nil, ↓ops_cons, run_none, ↓run0_v, ↓run0_r, ↓seqK_normal, ↓retK_ret, put_same, put_ne, env0_at, ev_tmp, ev_const, ev_func, oc_int, o_move, o_assign, o_call, o_box, o_load, o_nilCheck, o_makeFunc, o_fieldAddr, g_none, nil_ptr, resultsOf, oneOrAll, Option.map_some, Option.getD_some, Nat.reduceEqDiff, not_false_eq_true, Nat.reduceAdd, reduceCtorEq, List.getElem?_cons_zero, List.getElem?_cons_succ, List.map_cons, List.map_nil, List.append_nil, List.nil_append, ne_eq, box_agg, fa_ptr T64 p64_6 (by decide), load_p1 T62 a62, loadc_def, ← e1, ha, k1, callV_fn (g := 46) (by decide)]
end Go.AM.X
namespace Go.AM.X
open Go Go.AM Go.Proofs Go.AM.Sx
set_option maxHeartbeats 6400000
set_option maxRecDepth 100000
set_option linter.unusedVariables false
theorem F40 : F 40 = some { body := (Try.f40.body.getD .skip), results := Try.f40.results.toList, rf := false } := by kernel_rfl
theorem sA {a b : Int} : sameV (.agg [.int .i64 a, .int .i64 b]) (.agg [.int .i64 a, .int .i64 b]) = true := by simp [sameV, sameL]
def ansB (lo hi : Int) (s o : Sn) (i j : Nat) : Bool :=
  if i = j then false
  else if s.st = 2 then eqA s.n s.d (adrN lo hi o.row o.k) (adrD o.row o.k)
  else if s.st = 1 then eqA (adrN lo hi s.row s.k) (adrD s.row s.k) (adrN lo hi o.row o.k) (adrD o.row o.k) && (decide (o.se < s.se) || (decide (s.se = o.se) && decide (i < j)))
  else false
def Ans (h : AH) (b : Bool) (r : Rs) : Prop := ∃ h2, r = some (.bool b, h2) ∧ Grow h h2
theorem run40 {I : Nat → Option (List AV → AH → Rs)} (h41 : I 41 = none) (h40 : I 40 = none) (m p i j : Nat) (lo hi : Int) (own : Nat → Nat) (sv : AV) (M : List Sm) (q o : Sm) (h : AH) (hL : LkOk h own p lo hi sv M) (hl : 1 ≤ lo ∧ lo ≤ hi ∧ hi ≤ 65279) (hq : M[i]? = some q) (ho : M[j]? = some o) (hk : 0 ≤ q.s.k ∧ q.s.k ≤ 600) (hk2 : 0 ≤ o.s.k ∧ o.s.k ≤ 600) :
    Ans h (ansB lo hi q.s o.s i j) (call F I T (m + 4) 40 [.ptr p 0, .int .i64 (i : Nat), .int .i64 (j : Nat)] h) := by
  obtain ⟨fr, g⟩ := hL.g
  obtain ⟨b, cs, bk, w1, w2, w3⟩ := loadM hL.r hq
  obtain ⟨b', cs', bk', x1, x2, x3⟩ := loadM hL.r ho
  have hSo := hL.s j o ho
  have hSq := hL.s i q hq
  have go := StOk.ptr hL ho
  obtain ⟨h1, k1, k2⟩ := run41 h41 (m + 1) p o.a lo hi fr o.s.k sv o.s.rv o.av o.hv o.s.row o.s.st o.s.k o.s.se o.s.n o.s.d h g hL.lt go hSo.lt hSo.rv hl hk2
  have hL1 := hL.grow k2
  obtain ⟨N, hN⟩ : ∃ N, N = adrN lo hi o.s.row o.s.k := ⟨_, rfl⟩
  obtain ⟨D, hD⟩ : ∃ D, D = adrD o.s.row o.s.k := ⟨_, rfl⟩
  rw [← hN, ← hD] at k1
  -- the address stands in a box
  have g1 : (h1.alloc (.cells [.int .i64 0, .int .i64 0] .own)).get h1.next = some (.cells [.int .i64 0, .int .i64 0] .own) := by rw [AH.get_alloc, if_pos rfl]
  obtain ⟨h2, e2⟩ : ∃ h2, h2 = (h1.alloc (.cells [.int .i64 0, .int .i64 0] .own)).put h1.next (.cells [.int .i64 N, .int .i64 D] .own) := ⟨_, rfl⟩
  have y1 : aStore T 35 (.ptr h1.next 0) (.agg [.int .i64 N, .int .i64 D]) (h1.alloc (.cells [.int .i64 0, .int .i64 0] .own)) = some h2 := by rw [e2]; exact st2_0 rfl rfl g1
  have y2 : h2.get h1.next = some (.cells [.int .i64 N, .int .i64 D] .own) := by rw [e2, AH.get_put, if_pos rfl]
  have hg2 : Grow h1 h2 := ⟨by rw [e2]; simp, fun c hc => by rw [e2, AH.get_put, if_neg (by omega), AH.get_alloc, if_neg (by omega)]⟩
  have hL2 := hL1.grow hg2
  obtain ⟨fr2, g2⟩ := hL2.g
  have gq2 := StOk.ptr hL2 hq
  have go2 := StOk.ptr hL2 ho
  have hgr := k2.trans hg2
  have n2 : h1.next < h2.next := by rw [e2]; simp
  unfold ansB
  rw [← hN, ← hD]
  by_cases c1 : i = j
  · have c1' : ((i : Nat) : Int) = ((j : Nat) : Int) := by rw [c1]
    rw [if_pos c1]
    rw [call_code (by decide) h40 F40 rfl]; simp only [Try.f40, Option.getD]
    simp +contextual (maxSteps := 3000000) only [↓ops_nil, ↓ops_cons, run_none, ↓run0_v, ↓seqK_normal, ev_const, oc_bool, o_assign, g_none, ↓cd_seq, ↓cd_region]
    first
    | rw [code_dr (by kernel_rfl) (by kernel_rfl)]
      simp +contextual (maxSteps := 3000000) only [aCond_bool, ↓ops_nil, ↓ops_cons, run_none, ↓run0_v, ↓seqK_normal, ↓seqK_ret, ↓retK_ret, put_same, put_ne, env0_at, ev_tmp, ev_const, oc_bool, o_move, o_assign, o_bin, o_load, o_nilCheck, o_fieldAddr, o_indexAddr, g_none, bin_eql, nil_ptr, resultsOf, oneOrAll, Option.map_some, Option.getD_some, decide_eq_true_eq, ↓reduceIte, Nat.reduceEqDiff, not_false_eq_true, Nat.reduceAdd, reduceCtorEq, List.getElem?_cons_zero, List.getElem?_cons_succ, ne_eq, ↓cd_seq, ↓cd_region, ↓cd_cond, ↓cd_ret, fa_ptr T58 p58_3 (by decide), load_p1 T56 a56, loadc_def, load_p1 T59 a59, g, w1, w2, w3, x1, x2, x3, eq_true c1']
    | skip
    exact ⟨_, rfl, Grow.refl _⟩
  have c1' : ¬ ((i : Nat) : Int) = ((j : Nat) : Int) := by omega
  rw [if_neg c1]
  by_cases c2 : q.s.st = 2
  · rw [if_pos c2]
    rw [call_code (by decide) h40 F40 rfl]; simp only [Try.f40, Option.getD]
    simp +contextual (maxSteps := 3000000) only [↓ops_nil, ↓ops_cons, run_none, ↓run0_v, ↓seqK_normal, ev_const, oc_bool, o_assign, g_none, ↓cd_seq, ↓cd_region]
    first
    | rw [code_dr (by kernel_rfl) (by kernel_rfl)]
      simp +contextual (maxSteps := 3000000) only [aCond_bool, ↓ops_nil, ↓ops_cons, run_none, ↓run0_v, ↓run0_r, ↓seqK_normal, ↓blkK_normal, ↓retK_ret, put_same, put_ne, put_none, env0_at, ev_tmp, ev_const, ev_func, oc_int, oc_bool, o_move, o_assign, o_bin, o_call, o_alloc, o_load, o_store, o_nilCheck, o_fieldAddr, o_indexAddr, g_none, bin_eql, nil_ptr, resultsOf, oneOrAll, Option.map_some, Option.getD_some, decide_eq_true_eq, ↓reduceIte, Nat.reduceEqDiff, not_false_eq_true, Nat.reduceAdd, reduceCtorEq, List.getElem?_cons_zero, List.getElem?_cons_succ, List.map_cons, List.map_nil, List.append_nil, List.nil_append, ne_eq, ↓cd_skip, ↓cd_seq, ↓cd_region, ↓cd_cond, ↓cd_block, ↓cd_ret, fa_ptr T58 p58_3 (by decide), load_p1 T56 a56, loadc_def, load_p1 T59 a59, fa_ptr T64 p64_2 (by decide), load_p1 T3 a3, alloc_t T35, z35, fa_ptr T64 p64_1 (by decide), callV_fn (g := 41) (by decide), g, w1, w2, w3, x1, x2, x3, c1']
    | skip
    simp +contextual (maxSteps := 3000000) only [aCond_bool, ↓run0_v, ↓run0_h, ↓run0_r, bin_eql, decide_eq_true_eq, ↓reduceIte, List.getElem?_cons_zero, List.getElem?_cons_succ, go, k1, y1, gq2, eq_true c2]
    first
    | rw [code_dr (by kernel_rfl) (by kernel_rfl)]
      simp +contextual (maxSteps := 3000000) only [↓ops_nil, ↓ops_cons, run_none, ↓run0_v, ↓seqK_normal, ↓seqK_ret, ↓blkK_ret, ↓retK_ret, put_same, put_ne, ev_tmp, o_move, o_assign, o_bin, o_load, o_nilCheck, o_fieldAddr, g_none, nil_ptr, resultsOf, oneOrAll, Option.map_some, ↓reduceIte, Nat.reduceEqDiff, not_false_eq_true, Nat.reduceAdd, Nat.reduceLeDiff, Nat.le_refl, ne_eq, ↓cd_ret, fa_ptr T64 p64_4 (by decide), load_pA T35 a35, s35, loadn_def, List.length_cons, List.length_nil, List.drop_zero, List.take_succ_cons, List.take_zero, List.take_nil, Nat.zero_add, List.drop_succ_cons, gq2, y2, eql35]
    | simp +contextual (maxSteps := 3000000) only [↓code_skip, ↓code_seq, ↓code_region, ↓code_cond, ↓code_block, ↓code_scope, ↓code_label, ↓code_loop, ↓code_exit, ↓code_ret, aCond_bool, ↓ops_nil, ↓ops_cons, run_none, run_someT, run_someF, run_tup, ↓run0_v, ↓run0_h, ↓run0_r, ↓seqK_normal, ↓seqK_exit, ↓seqK_ret, ↓blkK_normal, ↓blkK_ret, ↓blkK_exit, ↓retK_normal, ↓retK_ret, put_same, put_ne, put_none, env0_at, ev_tmp, ev_const, ev_func, oc_int, oc_bool, oc_str, oc_nils, oc_nilp, oc_nilf, oc_nilm, o_move, o_assign, o_pick, o_bin, o_call, o_len, o_alloc, o_box, o_build, o_buildSlice, o_load, o_store, o_nilCheck, o_un, o_convert, o_makeFunc, o_makeSlice, o_slice, o_fieldAddr, o_field, o_indexAddr, o_index, o_extract, o_append, o_min, o_max, g_none, g_some, pick_bool, bin_add, bin_sub, bin_mul, bin_quo, bin_rem, bin_eql, bin_neq, bin_or, bin_and, bin_lss, bin_leq, bin_gtr, bin_geq, bin_shr, bin_shl, str_add, str_eql, str_neq, un_not, extract_tup, nil_ptr, nil_fp, part_1, part_A, next_e0, next_one, get_e0, resultsOf, oneOrAll, Option.bind_some, Option.map_some, Option.map_none, Option.getD_some, decide_eq_true_eq, ↓reduceIte, Nat.reduceEqDiff, not_false_eq_true, not_true_eq_false, Nat.reduceAdd, Nat.reduceMul, reduceCtorEq, if_true, if_false, Nat.succ_ne_self, List.getElem?_cons_zero, List.getElem?_cons_succ, List.getElem?_toArray, Bool.false_eq_true, Bool.true_eq_false, List.map_cons, List.map_nil, List.append_nil, List.nil_append, List.cons_append, AH.get_alloc, AH.get_put, AH.next_alloc, AH.next_put, ite_self, true_and, and_true, Nat.reduceLeDiff, Nat.le_refl, gt_iff_lt, ge_iff_le, Bool.not_eq_true', Bool.not_eq_eq_eq_not, Bool.not_true, Bool.not_false, Bool.not_eq_false', Bool.not_not, beq_iff_eq, bne_iff_ne, ne_eq, decide_eq_false_iff_not, ↓cd_skip, ↓cd_seq, ↓cd_region, ↓cd_cond, ↓cd_block, ↓cd_exit, ↓cd_ret, fa_ptr T58 p58_3 (by decide), fa_fp T58 p58_3 (by decide), load_fp1 T56 a56, load_p1 T56 a56, loadc_def, ia_lst T56 d56 T59 s59, ia_sl T56 d56 T59 s59, load_fp1 T59 a59, load_p1 T59 a59, fa_ptr T64 p64_2 (by decide), fa_fp T64 p64_2 (by decide), load_fp1 T3 a3, load_p1 T3 a3, alloc_t T35, z35, fa_ptr T64 p64_1 (by decide), fa_fp T64 p64_1 (by decide), fa_ptr T64 p64_4 (by decide), fa_fp T64 p64_4 (by decide), load_fpA T35 a35, load_pA T35 a35, s35, loadn_def, fa_ptr T64 p64_3 (by decide), fa_fp T64 p64_3 (by decide), callV_fn (g := 41) (by decide), List.length_cons, List.length_nil, List.drop_zero, List.take_succ_cons, List.take_zero, List.take_nil, Nat.zero_add, Nat.add_zero, List.drop_succ_cons, gq2, y2, eql35]
    exact ⟨_, rfl, hgr⟩
  rw [if_neg c2]
  by_cases c3 : q.s.st = 1
  · obtain ⟨h3, k3, k4⟩ := run41 h41 (m + 1) p q.a lo hi fr2 q.s.k sv q.s.rv q.av q.hv q.s.row q.s.st q.s.k q.s.se q.s.n q.s.d h2 g2 hL2.lt gq2 (hL2.s i q hq).lt hSq.rv hl hk
    have hL3 := hL2.grow k4
    have gq3 := StOk.ptr hL3 hq
    have go3 := StOk.ptr hL3 ho
    have y3 := (k4.2 _ n2).trans y2
    have c6 : decide (((i : Nat) : Int) < ((j : Nat) : Int)) = decide (i < j) := by by_cases z : i < j <;> simp [z]
    rw [if_pos c3]
    rw [call_code (by decide) h40 F40 rfl]; simp only [Try.f40, Option.getD]
    simp +contextual (maxSteps := 3000000) only [↓ops_nil, ↓ops_cons, run_none, ↓run0_v, ↓seqK_normal, ev_const, oc_bool, o_assign, g_none, ↓cd_seq, ↓cd_region]
    rw [code_dr (by kernel_rfl) (by kernel_rfl)]
    simp +contextual (maxSteps := 3000000) only [aCond_bool, ↓ops_nil, ↓ops_cons, run_none, ↓run0_v, ↓run0_r, ↓seqK_normal, ↓blkK_normal, ↓retK_ret, put_same, put_ne, put_none, env0_at, ev_tmp, ev_const, ev_func, oc_int, oc_bool, o_move, o_assign, o_bin, o_call, o_alloc, o_load, o_store, o_nilCheck, o_fieldAddr, o_indexAddr, g_none, bin_eql, nil_ptr, resultsOf, oneOrAll, Option.map_some, Option.getD_some, decide_eq_true_eq, ↓reduceIte, Nat.reduceEqDiff, not_false_eq_true, Nat.reduceAdd, reduceCtorEq, List.getElem?_cons_zero, List.getElem?_cons_succ, List.map_cons, List.map_nil, List.append_nil, List.nil_append, ne_eq, ↓cd_skip, ↓cd_seq, ↓cd_region, ↓cd_cond, ↓cd_block, ↓cd_ret, fa_ptr T58 p58_3 (by decide), load_p1 T56 a56, loadc_def, load_p1 T59 a59, fa_ptr T64 p64_2 (by decide), load_p1 T3 a3, alloc_t T35, z35, fa_ptr T64 p64_1 (by decide), callV_fn (g := 41) (by decide), g, w1, w2, w3, x1, x2, x3, c1']
    simp +contextual (maxSteps := 3000000) only [aCond_bool, ↓run0_v, ↓run0_h, ↓run0_r, bin_eql, decide_eq_true_eq, ↓reduceIte, List.getElem?_cons_zero, List.getElem?_cons_succ, go, k1, y1, gq2, c2, eq_true c3]
    obtain ⟨E, hE⟩ : ∃ E, E = eqA (adrN lo hi q.s.row q.s.k) (adrD q.s.row q.s.k) N D := ⟨_, rfl⟩
    rw [← hE]
    cases E with
    | false =>
      rw [Bool.false_and]
      rw [code_soft (ss := [(7, 0, 37)]) (by kernel_rfl) (by kernel_rfl) (by simp)]
      simp +contextual (maxSteps := 3000000) only [run_none, run_someT, run_tup, ↓run0_v, ↓run0_r, ↓seqK_normal, ↓seqK_ret, ↓blkK_ret, ↓retK_ret, put_same, put_ne, env0_at, ev_tmp, ev_const, ev_func, oc_bool, o_move, o_assign, o_pick, o_bin, o_call, o_load, o_nilCheck, o_fieldAddr, g_none, g_some, pick_bool, nil_ptr, resultsOf, oneOrAll, Option.bind_some, Option.map_some, Option.getD_some, ↓reduceIte, Nat.reduceEqDiff, not_false_eq_true, Nat.reduceAdd, reduceCtorEq, List.getElem?_cons_zero, List.getElem?_cons_succ, List.getElem?_toArray, Bool.false_eq_true, List.map_cons, List.map_nil, List.append_nil, List.nil_append, List.cons_append, Nat.le_refl, ne_eq, ↓cd_ret, loadc_def, fa_ptr T64 p64_2 (by decide), load_p1 T3 a3, load_pA T35 a35, s35, loadn_def, opsTr_nil, opsTr_cons, List.length_cons, List.length_nil, List.drop_zero, List.take_succ_cons, List.take_nil, Nat.zero_add, gq2, k3, y3, eql35, ← hE, decide_true, decide_false, callV_fn (g := 41) (by decide)]
      refine soft_Q (Ans h (false)) ?_ ?_
      rotate_left
      · simp +contextual (maxSteps := 3000000) only [run_none, ↓run0_v, put_same, put_ne, ev_tmp, o_load, g_none, Option.map_some, ↓reduceIte, Nat.reduceEqDiff, not_false_eq_true, Nat.reduceAdd, List.getElem?_cons_zero, List.getElem?_cons_succ, List.getElem?_toArray, Nat.le_refl, ne_eq, load_pA T35 a35, s35, loadn_def, softOk, sameAt, stepV, Bool.and_true, List.length_cons, List.length_nil, List.drop_zero, List.take_succ_cons, List.take_nil, Nat.zero_add, y2, y3, sA]
      exact ⟨_, rfl, hgr.trans k4⟩
    | true =>
      rw [Bool.true_and]
      by_cases c4 : o.s.se < q.s.se
      · rw [decide_eq_true c4, Bool.true_or]
        rw [code_soft (ss := [(7, 0, 37)]) (by kernel_rfl) (by kernel_rfl) (by simp)]
        simp +contextual (maxSteps := 3000000) only [run_none, run_someT, run_someF, run_tup, ↓run0_v, ↓run0_r, ↓seqK_normal, ↓seqK_ret, ↓blkK_ret, ↓retK_ret, put_same, put_ne, env0_at, ev_tmp, ev_const, ev_func, oc_bool, o_move, o_assign, o_pick, o_bin, o_call, o_load, o_nilCheck, o_fieldAddr, g_none, g_some, pick_bool, bin_gtr, nil_ptr, resultsOf, oneOrAll, Option.bind_some, Option.map_some, Option.getD_some, ↓reduceIte, Nat.reduceEqDiff, not_false_eq_true, Nat.reduceAdd, reduceCtorEq, List.getElem?_cons_zero, List.getElem?_cons_succ, List.getElem?_toArray, List.map_cons, List.map_nil, List.append_nil, List.nil_append, List.cons_append, Nat.le_refl, gt_iff_lt, ne_eq, ↓cd_ret, loadc_def, fa_ptr T64 p64_2 (by decide), load_p1 T3 a3, load_pA T35 a35, s35, loadn_def, fa_ptr T64 p64_3 (by decide), opsTr_nil, opsTr_cons, List.length_cons, List.length_nil, List.drop_zero, List.take_succ_cons, List.take_nil, Nat.zero_add, gq2, k3, y3, gq3, go3, eql35, ← hE, eq_true c4, decide_true, decide_false, callV_fn (g := 41) (by decide)]
        refine soft_Q (Ans h (true)) ?_ ?_
        rotate_left
        · simp +contextual (maxSteps := 3000000) only [run_none, ↓run0_v, put_same, put_ne, ev_tmp, o_load, g_none, Option.map_some, ↓reduceIte, Nat.reduceEqDiff, not_false_eq_true, Nat.reduceAdd, List.getElem?_cons_zero, List.getElem?_cons_succ, List.getElem?_toArray, Nat.le_refl, ne_eq, load_pA T35 a35, s35, loadn_def, softOk, sameAt, stepV, Bool.and_true, List.length_cons, List.length_nil, List.drop_zero, List.take_succ_cons, List.take_nil, Nat.zero_add, y2, y3, sA]
        exact ⟨_, rfl, hgr.trans k4⟩
      · rw [decide_eq_false c4, Bool.false_or]
        by_cases c5 : q.s.se = o.s.se
        · rw [decide_eq_true c5, Bool.true_and]
          rw [code_soft (ss := [(7, 0, 37)]) (by kernel_rfl) (by kernel_rfl) (by simp)]
          simp +contextual (maxSteps := 3000000) only [run_none, run_someT, run_someF, ↓run0_v, ↓run0_r, ↓seqK_normal, ↓seqK_ret, ↓blkK_ret, ↓retK_ret, put_same, put_ne, env0_at, ev_tmp, ev_const, ev_func, oc_bool, o_move, o_assign, o_pick, o_bin, o_call, o_load, o_nilCheck, o_fieldAddr, g_none, g_some, pick_bool, bin_eql, bin_lss, bin_gtr, nil_ptr, resultsOf, oneOrAll, Option.bind_some, Option.map_some, Option.getD_some, ↓reduceIte, Nat.reduceEqDiff, not_false_eq_true, Nat.reduceAdd, reduceCtorEq, List.getElem?_cons_zero, List.getElem?_cons_succ, List.getElem?_toArray, Bool.false_eq_true, List.map_cons, List.map_nil, List.append_nil, List.nil_append, List.cons_append, Nat.le_refl, gt_iff_lt, ne_eq, ↓cd_ret, loadc_def, fa_ptr T64 p64_2 (by decide), load_p1 T3 a3, load_pA T35 a35, s35, loadn_def, fa_ptr T64 p64_3 (by decide), opsTr_nil, opsTr_cons, List.length_cons, List.length_nil, List.drop_zero, List.take_succ_cons, List.take_nil, Nat.zero_add, gq2, k3, y3, gq3, go3, eql35, c6, ← hE, c4, eq_true c5, decide_true, decide_false, callV_fn (g := 41) (by decide)]
          refine soft_Q (Ans h (decide (i < j))) ?_ ?_
          rotate_left
          · simp +contextual (maxSteps := 3000000) only [run_none, ↓run0_v, put_same, put_ne, ev_tmp, o_load, g_none, Option.map_some, ↓reduceIte, Nat.reduceEqDiff, not_false_eq_true, Nat.reduceAdd, List.getElem?_cons_zero, List.getElem?_cons_succ, List.getElem?_toArray, Nat.le_refl, ne_eq, load_pA T35 a35, s35, loadn_def, softOk, sameAt, stepV, Bool.and_true, List.length_cons, List.length_nil, List.drop_zero, List.take_succ_cons, List.take_nil, Nat.zero_add, y2, y3, sA]
          exact ⟨_, rfl, hgr.trans k4⟩
        · rw [decide_eq_false c5, Bool.false_and]
          rw [code_soft (ss := [(7, 0, 37)]) (by kernel_rfl) (by kernel_rfl) (by simp)]
          simp +contextual (maxSteps := 3000000) only [run_none, run_someT, run_someF, ↓run0_v, ↓run0_r, ↓seqK_normal, ↓seqK_ret, ↓blkK_ret, ↓retK_ret, put_same, put_ne, env0_at, ev_tmp, ev_const, ev_func, oc_bool, o_move, o_assign, o_pick, o_bin, o_call, o_load, o_nilCheck, o_fieldAddr, g_none, g_some, pick_bool, bin_eql, bin_gtr, nil_ptr, resultsOf, oneOrAll, Option.bind_some, Option.map_some, Option.getD_some, ↓reduceIte, Nat.reduceEqDiff, not_false_eq_true, Nat.reduceAdd, reduceCtorEq, List.getElem?_cons_zero, List.getElem?_cons_succ, List.getElem?_toArray, Bool.false_eq_true, List.map_cons, List.map_nil, List.append_nil, List.nil_append, List.cons_append, Nat.le_refl, gt_iff_lt, ne_eq, ↓cd_ret, loadc_def, fa_ptr T64 p64_2 (by decide), load_p1 T3 a3, load_pA T35 a35, s35, loadn_def, fa_ptr T64 p64_3 (by decide), opsTr_nil, opsTr_cons, List.length_cons, List.length_nil, List.drop_zero, List.take_succ_cons, List.take_nil, Nat.zero_add, gq2, k3, y3, gq3, go3, eql35, ← hE, c4, c5, decide_true, decide_false, callV_fn (g := 41) (by decide)]
          refine soft_Q (Ans h (false)) ?_ ?_
          rotate_left
          · simp +contextual (maxSteps := 3000000) only [run_none, ↓run0_v, put_same, put_ne, ev_tmp, o_load, g_none, Option.map_some, ↓reduceIte, Nat.reduceEqDiff, not_false_eq_true, Nat.reduceAdd, List.getElem?_cons_zero, List.getElem?_cons_succ, List.getElem?_toArray, Nat.le_refl, ne_eq, load_pA T35 a35, s35, loadn_def, softOk, sameAt, stepV, Bool.and_true, List.length_cons, List.length_nil, List.drop_zero, List.take_succ_cons, List.take_nil, Nat.zero_add, y2, y3, sA]
          exact ⟨_, rfl, hgr.trans k4⟩
  rw [if_neg c3]
  rw [call_code (by decide) h40 F40 rfl]; simp only [Try.f40, Option.getD]
  simp +contextual (maxSteps := 3000000) only [↓ops_nil, ↓ops_cons, run_none, ↓run0_v, ↓seqK_normal, ev_const, oc_bool, o_assign, g_none, ↓cd_seq, ↓cd_region]
  rw [code_dr (by kernel_rfl) (by kernel_rfl)]
  simp +contextual (maxSteps := 3000000) only [aCond_bool, ↓ops_nil, ↓ops_cons, run_none, ↓run0_v, ↓run0_r, ↓seqK_normal, ↓blkK_normal, ↓retK_ret, put_same, put_ne, put_none, env0_at, ev_tmp, ev_const, ev_func, oc_int, oc_bool, o_move, o_assign, o_bin, o_call, o_alloc, o_load, o_store, o_nilCheck, o_fieldAddr, o_indexAddr, g_none, bin_eql, nil_ptr, resultsOf, oneOrAll, Option.map_some, Option.getD_some, decide_eq_true_eq, ↓reduceIte, Nat.reduceEqDiff, not_false_eq_true, Nat.reduceAdd, reduceCtorEq, List.getElem?_cons_zero, List.getElem?_cons_succ, List.map_cons, List.map_nil, List.append_nil, List.nil_append, ne_eq, ↓cd_skip, ↓cd_seq, ↓cd_region, ↓cd_cond, ↓cd_block, ↓cd_ret, fa_ptr T58 p58_3 (by decide), load_p1 T56 a56, loadc_def, load_p1 T59 a59, fa_ptr T64 p64_2 (by decide), load_p1 T3 a3, alloc_t T35, z35, fa_ptr T64 p64_1 (by decide), callV_fn (g := 41) (by decide), g, w1, w2, w3, x1, x2, x3, c1']
  simp +contextual (maxSteps := 3000000) only [aCond_bool, ↓run0_v, ↓run0_h, ↓run0_r, bin_eql, decide_eq_true_eq, ↓reduceIte, List.getElem?_cons_zero, List.getElem?_cons_succ, go, k1, y1, gq2, c2, c3]
  exact ⟨_, rfl, hgr⟩
end Go.AM.X
namespace Go.AM.X
open Go Go.AM Go.Proofs Go.AM.Sx
set_option maxHeartbeats 6400000
set_option maxRecDepth 100000
set_option linter.unusedVariables false
theorem F53 : F 53 = some { body := (Try.f53.body.getD .skip), results := Try.f53.results.toList, rf := false } := by kernel_rfl
theorem R53 : regsOk T (Try.f53.body.getD .skip) = true := by kernel_rfl
section
variable {h h4 : AH} {own : Nat → Nat} {p i : Nat} {lo hi : Int} {sv : AV} {M : List Sm} {m : Sm}
/-- A station's hints are written in their row. -/
theorem LkOk.rowH (hL : LkOk h own p lo hi sv M) (hm : M[i]? = some m) {hs2 : List Hi} (hr : RowC 4 h4 m.hv hs2.length (fl Hi.av hs2)) (hn : h4.next = h.next) (hk : ∀ c, offRow m.hv c → h4.get c = h.get c) :
    LkOk h4 own p lo hi sv (M.set i { m with s := { m.s with hs := hs2 } }) ∧ Stf h h4 (fun c => own c = 0) (fun c => own c = 0) := by
  have hS := hL.s i m hm
  have ho : offRow m.hv m.a := fun b o l k z x e g => (hS.hx _ _ _ _ _ _ e).2 g.symm
  refine hL.upd (own2 := own) hm _ rfl (by omega) (fun c hc hoc => ⟨hk c fun b o l k z x e g => hoc (by rw [g]; exact (hS.hx _ _ _ _ _ _ e).1), rfl⟩) ?_ fun c hc => hL.nw c (by omega)
  exact { lt := by rw [hn]; exact hS.lt, oa := hS.oa, g := (hk _ ho).trans hS.g, rv := hS.rv, ra := hS.ra.keep (by omega) fun b o l k z x e => hk b (hS.ah _ _ _ _ _ _ e), rh := hr, ax := hS.ax, hx := hS.hx, ah := hS.ah }
/-- What a station asks for is written in its row. -/
theorem LkOk.rowA (hL : LkOk h own p lo hi sv M) (hm : M[i]? = some m) {as2 : List As} (hr : RowC 3 h4 m.av as2.length (fl As.av as2)) (hn : h4.next = h.next) (hk : ∀ c, offRow m.av c → h4.get c = h.get c) :
    LkOk h4 own p lo hi sv (M.set i { m with s := { m.s with qs := as2 } }) ∧ Stf h h4 (fun c => own c = 0) (fun c => own c = 0) := by
  have hS := hL.s i m hm
  have ho : offRow m.av m.a := fun b o l k z x e g => (hS.ax _ _ _ _ _ _ e).2 g.symm
  refine hL.upd (own2 := own) hm _ rfl (by omega) (fun c hc hoc => ⟨hk c fun b o l k z x e g => hoc (by rw [g]; exact (hS.ax _ _ _ _ _ _ e).1), rfl⟩) ?_ fun c hc => hL.nw c (by omega)
  exact { lt := by rw [hn]; exact hS.lt, oa := hS.oa, g := (hk _ ho).trans hS.g, rv := hS.rv, rh := hS.rh.keep (by omega) fun b o l k z x e => hk b fun b' o' l' k' z' x' e' g => hS.ah _ _ _ _ _ _ e' _ _ _ _ _ _ e g.symm, ra := hr, ax := hS.ax, hx := hS.hx, ah := hS.ah }
end
/-- A station learns where an address is. -/
def learnF (n d t : Int) (s : Sn) : Sn := if 0 ≤ hintI s n d then { s with hs := s.hs.set (hintI s n d).toNat ⟨n, d, t, 0⟩ } else { s with hs := s.hs ++ [⟨n, d, t, 0⟩] }
theorem learn_len (n d t : Int) (s : Sn) : (learnF n d t s).hs.length ≤ s.hs.length + 1 := by
  unfold learnF
  split
  · simp
  · simp
theorem store_h (h : AH) (n d t : Int) : ∃ h2, aStore T 68 (.ptr h.next 0) (.agg [.int .i64 n, .int .i64 d, .int .i64 t, .int .i64 0]) (h.alloc (.cells [.int .i64 0, .int .i64 0, .int .i64 0, .int .i64 0] .own)) = some h2 ∧ h2.next = h.next + 1 ∧ h2.get h.next = some (.cells [.int .i64 n, .int .i64 d, .int .i64 t, .int .i64 0] .own) ∧ Grow h h2 := by
  have h1 := store_n (T := T) (t := 68) (b := h.next) (o := 0) (v := .agg [.int .i64 n, .int .i64 d, .int .i64 t, .int .i64 0]) (vs := [.int .i64 n, .int .i64 d, .int .i64 t, .int .i64 0]) (h := h.alloc (.cells [.int .i64 0, .int .i64 0, .int .i64 0, .int .i64 0] .own)) (cs := [.int .i64 0, .int .i64 0, .int .i64 0, .int .i64 0]) T68 rfl (by rw [s68]; rfl) rfl (by rw [AH.get_alloc, if_pos rfl]) (by simp)
  refine ⟨_, h1, by simp, by rw [AH.get_put, if_pos rfl]; rfl, by simp, fun c hc => ?_⟩
  rw [AH.get_put, if_neg (by omega), AH.get_alloc, if_neg (by omega)]
theorem run53 {I : Nat → Option (List AV → AH → Rs)} (h46 : I 46 = none) (h34 : I 34 = none) (h53 : I 53 = none) (h48 : I 48 = none) (m p i : Nat) (n d t lo hi : Int) (own : Nat → Nat) (sv : AV) (M : List Sm) (q : Sm) (h : AH) (hL : LkOk h own p lo hi sv M) (hq : M[i]? = some q) (hn : q.s.hs.length ≤ m ∧ q.s.hs.length ≤ 1000000000) :
    ∃ h2 own2 q2, call F I T (m + 70) 53 [.ptr q.a 0, .agg [.int .i64 n, .int .i64 d], .int .i64 t] h = some (.tup [], h2) ∧ LkOk h2 own2 p lo hi sv (M.set i q2) ∧ q2.s = learnF n d t q.s ∧ q2.a = q.a ∧ Stf h h2 (fun c => own c = 0) (fun c => own2 c = 0) := by
  have gA := Grow.alloc h (.cells [.int .i64 n, .int .i64 d] .own)
  obtain ⟨h1, e1⟩ : ∃ h1, h1 = h.alloc (.cells [.int .i64 n, .int .i64 d] .own) := ⟨_, rfl⟩
  rw [← e1] at gA
  have g0 : h1.get h.next = some (.cells [.int .i64 n, .int .i64 d] .own) := by rw [e1, AH.get_alloc, if_pos rfl]
  have n1 : h1.next = h.next + 1 := by rw [e1]; simp
  obtain ⟨h2, y1, y2, y3, y4⟩ := store_h h1 n d t
  have g02 : h2.get h.next = some (.cells [.int .i64 n, .int .i64 d] .own) := (y4.2 _ (by omega)).trans g0
  have hL2 := (hL.grow gA).grow y4
  have hS2 := hL2.s i q hq
  obtain ⟨h3, k1, k2⟩ := run34 h46 h34 h48 (m + 9) q.a n d q.s.rv q.av q.hv q.s h2 hS2.g hS2.lt hS2.rh ⟨by omega, hn.2⟩
  have hL3 := hL2.grow k2
  have hS3 := hL3.s i q hq
  have gq3 := StOk.ptr hL3 hq
  have y3' : h3.get h1.next = some (.cells [.int .i64 n, .int .i64 d, .int .i64 t, .int .i64 0] .own) := (k2.2 _ (by omega)).trans y3
  have gr3 := (gA.trans y4).trans k2
  have S0 := Stf.grow (fun c => own c = 0) gr3
  by_cases c1 : 0 ≤ hintI q.s n d
  · obtain ⟨j, hj⟩ : ∃ j : Nat, hintI q.s n d = (j : Int) := ⟨(hintI q.s n d).toNat, by omega⟩
    have hjl : j < q.s.hs.length := by
      unfold hintI at hj
      rcases idx_find (fun e => eqA e.n e.d n d) q.s.hs 0 with ⟨i', h1', _, h3'⟩ | ⟨h1', _⟩
      · omega
      · omega
    obtain ⟨e, he⟩ : ∃ e, q.s.hs[j]? = some e := ⟨q.s.hs[j], List.getElem?_eq_getElem hjl⟩
    obtain ⟨b, h4, q1, q2, q3, q4, q5, _, _⟩ := storeR Hi.av 4 Hi.len T62 d62 T68 s68 ⟨n, d, t, 0⟩ hS3.rh he (Hi.one _)
    replace q2 : aStore T 68 (.ptr b (j * 4)) (.agg [.int .i64 n, .int .i64 d, .int .i64 t, .int .i64 0]) h3 = some h4 := q2
    obtain ⟨t1, t2⟩ := hL3.rowH hq (hs2 := q.s.hs.set j ⟨n, d, t, 0⟩) (by rw [List.length_set]; exact q3) q4 q5
    refine ⟨h4, own, _, ?_, t1, ?_, rfl, S0.trans t2⟩
    · rw [hj] at k1 c1
      rw [call_F (by decide) h53 F53 rfl R53]; simp only [Try.f53, Option.getD]
      simp +contextual (maxSteps := 3000000) only [↓code_seq, ↓code_region, ↓code_cond, aCond_bool, ↓ops_nil, ↓ops_cons, run_none, ↓run0_v, ↓run0_h, ↓run0_r, ↓seqK_normal, ↓retK_normal, put_same, put_ne, put_none, env0_at, ev_tmp, ev_const, ev_func, oc_int, o_move, o_assign, o_bin, o_call, o_alloc, o_box, o_build, o_load, o_store, o_nilCheck, o_fieldAddr, o_indexAddr, g_none, bin_geq, nil_ptr, resultsOf, oneOrAll, Option.map_some, Option.getD_some, decide_eq_true_eq, ↓reduceIte, Nat.reduceEqDiff, not_false_eq_true, Nat.reduceAdd, reduceCtorEq, List.getElem?_cons_zero, List.getElem?_cons_succ, List.map_cons, List.map_nil, List.append_nil, List.nil_append, List.cons_append, and_true, Nat.reduceLeDiff, Nat.le_refl, ge_iff_le, ne_eq, box_agg, load_pA T35 a35, s35, loadn_def, build_struct T68 d68, z68, parts_eq, fillA, AV.cells, AH.splice, List.take_succ_cons, List.take_zero, List.take_nil, List.drop_succ_cons, List.drop_zero, List.length_cons, List.length_nil, p68_0, p68_1, alloc_t T68, fa_ptr T64 p64_6 (by decide), load_p1 T62 a62, loadc_def, load_pA T68 a68, s68, run0_h, List.length_cons, List.length_nil, List.drop_zero, List.take_succ_cons, List.take_zero, List.take_nil, Nat.zero_add, ← e1, g0, y1, g02, k1, c1, gq3, y3', q1, q2, callV_fn (g := 34) (by decide)]
    · unfold learnF
      rw [if_pos c1, hj, Int.toNat_natCast]
  · obtain ⟨v', h4, q1, q2, q3, q4, q5⟩ := hS3.rh.push (new := [.int .i64 n, .int .i64 d, .int .i64 t, .int .i64 0]) T62 d62 T68 s68 (by decide) (by rw [b68]; decide) rfl rfl (by rw [b68]; simp [maxBytes]; omega)
    have hcs : fl Hi.av q.s.hs ++ [.int .i64 n, .int .i64 d, .int .i64 t, .int .i64 0] = fl Hi.av (q.s.hs ++ [⟨n, d, t, 0⟩]) := by rw [fl_app]; rfl
    rw [hcs, show q.s.hs.length + 1 = (q.s.hs ++ [(⟨n, d, t, 0⟩ : Hi)]).length by simp] at q2
    obtain ⟨u1, u2⟩ := q2.cells
    obtain ⟨t0, t1, t2⟩ := hL3.setH hq q2 (by omega) q4 q5
    have w1 := store_1 (T := T) T62 s62 u1 u2 t0 (show 6 + 1 < 8 by decide)
    refine ⟨_, _, _, ?_, t1, ?_, rfl, S0.trans t2⟩
    · rw [call_F (by decide) h53 F53 rfl R53]; simp only [Try.f53, Option.getD]
      simp +contextual (maxSteps := 3000000) only [↓code_seq, ↓code_region, ↓code_cond, aCond_bool, ↓ops_nil, ↓ops_cons, run_none, ↓run0_v, ↓run0_h, ↓run0_r, ↓seqK_normal, ↓retK_normal, put_same, put_ne, put_none, env0_at, ev_tmp, ev_const, ev_func, oc_int, o_move, o_assign, o_bin, o_call, o_alloc, o_box, o_build, o_buildSlice, o_load, o_store, o_nilCheck, o_fieldAddr, o_append, g_none, bin_geq, nil_ptr, resultsOf, oneOrAll, Option.bind_some, Option.map_some, Option.getD_some, decide_eq_true_eq, ↓reduceIte, Nat.reduceEqDiff, not_false_eq_true, Nat.reduceAdd, Nat.reduceMul, reduceCtorEq, List.getElem?_cons_zero, List.getElem?_cons_succ, List.map_cons, List.map_nil, List.append_nil, List.nil_append, List.cons_append, and_true, Nat.reduceLeDiff, Nat.le_refl, ge_iff_le, ne_eq, box_agg, load_pA T35 a35, s35, loadn_def, build_struct T68 d68, z68, parts_eq, fillA, AV.cells, AH.splice, List.take_succ_cons, List.take_zero, List.take_nil, List.drop_succ_cons, List.drop_zero, List.drop_nil, List.length_cons, List.length_nil, p68_0, p68_1, alloc_t T68, fa_ptr T64 p64_6 (by decide), load_p1 T62 a62, loadc_def, load_pA T68 a68, s68, buildSl T62 d62 T68 (n := 1) (by rw [s68]; decide), repl, run0_h, List.length_cons, List.length_nil, List.drop_zero, List.take_succ_cons, List.take_zero, List.take_nil, Nat.zero_add, ← e1, g0, y1, g02, k1, c1, gq3, y3', q1, w1, callV_fn (g := 34) (by decide)]
      rfl
    · unfold learnF
      rw [if_neg c1]
end Go.AM.X
