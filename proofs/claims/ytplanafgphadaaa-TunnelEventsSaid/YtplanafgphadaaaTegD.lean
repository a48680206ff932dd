/- Events of bytes: the document's walk. Own work. -/
import Derived.Test.YtplanafgphadaaaTegC
namespace Go.AM.X
open Go Go.AM Go.Proofs Go.AM.Sx
set_option maxHeartbeats 1600000
set_option maxRecDepth 100000
set_option linter.unusedVariables false
theorem F15 : F 15 = some { body := (Try.f15.body.getD .skip), results := Try.f15.results.toList, rf := false } := by kernel_rfl
theorem R15 : regsOk T (Try.f15.body.getD .skip) = true := by kernel_rfl
def getP (b : List Int) : List Ev × Int := match getE b with
  | some l => (l, 0)
  | none => ([], 3)
def bytL (b : List Int) : AV := .lst false 1 b.length (bytes b)
def GE (b : List Int) (r : Rs) : Prop := ∃ h' w, r = some (.tup [w, .int .i64 (getP b).2], h') ∧ RowC 4 h' w (getP b).1.length (fl Ev.av (getP b).1)
theorem GE.bad {b : List Int} {h' : AH} (hb : getE b = none) : GE b (some (.tup [.nils, .int .i64 3], h')) := by
  unfold GE getP; rw [hb]; exact ⟨_, _, rfl, RowC.nil _ _⟩
theorem get_bad {b : List Int} {j : Nat} {x : Ev} (hx : (chunkE b (b.length / 6))[j]? = some x) (hb : okEv x = false) : getE b = none := by
  unfold getE
  rw [if_neg]
  intro h
  have := List.all_eq_true.1 h.2 x (List.mem_of_getElem? hx)
  rw [hb] at this; cases this
theorem six {l : List Int} (h : l.length = 6) : ∃ a b c d e f, l = [a, b, c, d, e, f] := by
  match l, h with
  | [a, b, c, d, e, f], _ => exact ⟨a, b, c, d, e, f, rfl⟩
theorem byteAt {b : List Int} {i : Nat} {x : Int} (hx : b[i]? = some x) : aIndexAddr T 34 (bytL b) (.int .i64 (i : Nat)) = some (.fp (.int .u8 x :: (bytes b).drop (i + 1))) := by
  have hi := (List.getElem?_eq_some_iff.1 hx).1
  unfold bytL
  rw [ia_lst T34 d34 T5 s5, if_pos ⟨by omega, by omega⟩]
  simp only [Int.toNat_natCast, Nat.mul_one, Option.some.injEq, AV.fp.injEq]
  rw [List.drop_eq_getElem_cons (by simp [bytes]; exact hi)]
  simp [bytes, (List.getElem?_eq_some_iff.1 hx).2]
/-- A chunk's six bytes. -/
theorem chunk6 {b : List Int} (hb : ∀ x ∈ b, 0 ≤ x ∧ x ≤ 255) {j : Nat} (hj : 6 * j + 6 ≤ b.length) : ∃ a0 a1 a2 a3 a4 a5, (b.drop (6 * j)).take 6 = [a0, a1, a2, a3, a4, a5] ∧
    b[6 * j]? = some a0 ∧ b[6 * j + 1]? = some a1 ∧ b[6 * j + 2]? = some a2 ∧ b[6 * j + 3]? = some a3 ∧ b[6 * j + 4]? = some a4 ∧ b[6 * j + 5]? = some a5 ∧
    (0 ≤ a0 ∧ a0 ≤ 255) ∧ (0 ≤ a1 ∧ a1 ≤ 255) ∧ (0 ≤ a2 ∧ a2 ≤ 255) ∧ (0 ≤ a3 ∧ a3 ≤ 255) ∧ (0 ≤ a4 ∧ a4 ≤ 255) ∧ (0 ≤ a5 ∧ a5 ≤ 255) := by
  obtain ⟨a0, a1, a2, a3, a4, a5, he⟩ := six (l := (b.drop (6 * j)).take 6) (by rw [List.length_take, List.length_drop]; omega)
  have hg : ∀ k, k < 6 → b[6 * j + k]? = ([a0, a1, a2, a3, a4, a5])[k]? := fun k hk => by
    rw [← he, List.getElem?_take, if_pos hk, List.getElem?_drop]
  have h0 := hg 0 (by decide)
  have h1 := hg 1 (by decide)
  have h2 := hg 2 (by decide)
  have h3 := hg 3 (by decide)
  have h4 := hg 4 (by decide)
  have h5 := hg 5 (by decide)
  exact ⟨a0, a1, a2, a3, a4, a5, he, h0, h1, h2, h3, h4, h5, hb _ (List.mem_of_getElem? h0), hb _ (List.mem_of_getElem? h1), hb _ (List.mem_of_getElem? h2), hb _ (List.mem_of_getElem? h3), hb _ (List.mem_of_getElem? h4), hb _ (List.mem_of_getElem? h5)⟩
theorem run15 {I : Nat → Option (List AV → AH → Rs)} (h39 : I 39 = some (pureG g39)) (h15 : I 15 = none) (b : List Int) (m : Nat) (hb : ∀ x ∈ b, 0 ≤ x ∧ x ≤ 255) : GE b (call F I T (m + 110) 15 [bytL b] e0) := by
  have hlen : ∀ h, aLen T 34 (bytL b) h = some (.int .i64 (b.length : Nat)) := fun h => by simp [aLen, T34, d34, bytL]
  have ia := fun i x (hx : b[i]? = some x) => byteAt hx
  obtain ⟨VB, hVB⟩ : ∃ VB, VB = bytL b := ⟨_, rfl⟩
  rw [← hVB] at hlen ia ⊢
  rw [call_F (by decide) h15 F15 rfl R15]; simp only [Try.f15, Option.getD]
  by_cases q1 : b.length = 0
  · have q1' : (b.length : Int) = 0 := by omega
    simp +contextual (maxSteps := 3000000) only [↓code_seq, ↓code_region, ↓code_cond, ↓code_ret, aCond_bool, ↓ops_nil, ↓ops_cons, run_none, run_someF, ↓run0_v, ↓seqK_normal, ↓seqK_ret, ↓retK_ret, put_same, put_ne, env0_at, ev_tmp, ev_const, oc_int, oc_bool, oc_nils, o_move, o_assign, o_pick, o_bin, o_len, g_none, g_some, pick_bool, bin_eql, resultsOf, oneOrAll, Option.bind_some, Option.map_some, Option.getD_some, decide_eq_true_eq, ↓reduceIte, Nat.reduceEqDiff, not_false_eq_true, reduceCtorEq, List.getElem?_cons_zero, List.getElem?_cons_succ, List.getElem?_toArray, ne_eq, hlen, eq_true q1']
    exact GE.bad (by unfold getE; rw [if_neg (fun h => h.1.1 q1)])
  have q1' : ¬ (b.length : Int) = 0 := by omega
  by_cases q2 : (24 : Int) < (b.length : Int)
  · simp +contextual (maxSteps := 3000000) only [↓code_seq, ↓code_region, ↓code_cond, ↓code_ret, aCond_bool, ↓ops_nil, ↓ops_cons, run_none, run_someF, ↓run0_v, ↓seqK_normal, ↓seqK_ret, ↓retK_ret, put_same, put_ne, env0_at, ev_tmp, ev_const, oc_int, oc_bool, oc_nils, o_move, o_assign, o_pick, o_bin, o_len, g_none, g_some, pick_bool, bin_eql, bin_gtr, resultsOf, oneOrAll, Option.bind_some, Option.map_some, Option.getD_some, decide_eq_true_eq, ↓reduceIte, Nat.reduceEqDiff, not_false_eq_true, reduceCtorEq, List.getElem?_cons_zero, List.getElem?_cons_succ, List.getElem?_toArray, gt_iff_lt, ne_eq, hlen, q1', q2]
    exact GE.bad (by unfold getE; rw [if_neg (fun h => by have := h.1.2.2; omega)])
  have q3 : (b.length : Int).tmod 6 = ((b.length % 6 : Nat) : Int) := by rw [Int.tmod_eq_emod_of_nonneg (by omega)]; omega
  have q4 : IntKind.i64.wrap ((b.length % 6 : Nat) : Int) = ((b.length % 6 : Nat) : Int) := wrap_i64 (by omega) (by omega)
  by_cases q5 : b.length % 6 = 0
  rotate_left
  · have q5' : ¬ ((b.length % 6 : Nat) : Int) = 0 := by omega
    simp +contextual (maxSteps := 3000000) only [↓code_seq, ↓code_region, ↓code_cond, ↓code_ret, aCond_bool, ↓ops_nil, ↓ops_cons, run_none, run_someF, ↓run0_v, ↓seqK_normal, ↓seqK_ret, ↓retK_ret, put_same, put_ne, env0_at, ev_tmp, ev_const, oc_int, oc_bool, oc_nils, o_move, o_assign, o_pick, o_bin, o_len, g_none, g_some, pick_bool, bin_rem, bin_eql, bin_neq, bin_gtr, resultsOf, oneOrAll, Option.bind_some, Option.map_some, Option.getD_some, decide_eq_true_eq, ↓reduceIte, Nat.reduceEqDiff, not_false_eq_true, reduceCtorEq, List.getElem?_cons_zero, List.getElem?_cons_succ, List.getElem?_toArray, gt_iff_lt, Bool.not_eq_eq_eq_not, Bool.not_true, ne_eq, decide_eq_false_iff_not, hlen, q1', q2, q3, q5', (show ¬ (6 : Int) = 0 by decide)]
    exact GE.bad (by unfold getE; rw [if_neg (fun h => q5 h.1.2.1)])
  have q5' : ((b.length % 6 : Nat) : Int) = 0 := by omega
  simp +contextual (maxSteps := 3000000) only [↓code_skip, ↓code_seq, ↓code_region, ↓code_cond, ↓code_block, ↓code_loop, aCond_bool, ↓ops_nil, ↓ops_cons, run_none, run_someF, ↓run0_v, ↓seqK_normal, put_same, put_ne, env0_at, ev_tmp, ev_const, oc_int, oc_bool, oc_nils, o_move, o_assign, o_pick, o_bin, o_len, g_none, g_some, pick_bool, bin_rem, bin_eql, bin_neq, bin_gtr, Option.bind_some, Option.getD_some, decide_eq_true_eq, ↓reduceIte, Nat.reduceEqDiff, not_false_eq_true, not_true_eq_false, reduceCtorEq, List.getElem?_cons_zero, List.getElem?_cons_succ, List.getElem?_toArray, gt_iff_lt, Bool.not_eq_eq_eq_not, Bool.not_true, ne_eq, decide_eq_false_iff_not, hlen, q1', q2, q3, eq_true q5', (show ¬ (6 : Int) = 0 by decide)]
  obtain ⟨K, hK⟩ : ∃ K, K = b.length / 6 := ⟨_, rfl⟩
  have hbl : b.length = 6 * K := by omega
  refine iterL_wp (Q := fun r => GE b r) (N := K) (Inv := fun k e h' => ∃ i w, k + i = K ∧ RowC 4 h' w i (fl Ev.av ((chunkE b K).take i)) ∧ ((chunkE b K).take i).all okEv = true ∧ i ≤ K ∧ e 0 = VB ∧ e 4 = w ∧ e 5 = .int .i64 (6 * i : Nat)) ?_ ?_ (by omega)
  · rintro k e h' K' ⟨i, w, hk, hr, hall, hil, e0, e4, e5⟩ hnext hexit
    by_cases hi : i < K
    · have c1 : ((6 * i : Nat) : Int) < (b.length : Int) := by omega
      obtain ⟨m0, m1, m2, m3, m4, m5, he, x0, x1, x2, x3, x4, x5, y0, y1, y2, y3, y4, y5⟩ := chunk6 hb (j := i) (by omega)
      have i0 := ia _ _ x0
      have i1 := ia _ _ x1
      have i2 := ia _ _ x2
      have i3 := ia _ _ x3
      have i4 := ia _ _ x4
      have i5 := ia _ _ x5
      have j1 : IntKind.i64.wrap (((6 * i : Nat) : Int) + 1) = ((6 * i + 1 : Nat) : Int) := by rw [wrap_i64 (by omega) (by omega)]; omega
      have j2 : IntKind.i64.wrap (((6 * i : Nat) : Int) + 2) = ((6 * i + 2 : Nat) : Int) := by rw [wrap_i64 (by omega) (by omega)]; omega
      have j3 : IntKind.i64.wrap (((6 * i : Nat) : Int) + 3) = ((6 * i + 3 : Nat) : Int) := by rw [wrap_i64 (by omega) (by omega)]; omega
      have j4 : IntKind.i64.wrap (((6 * i : Nat) : Int) + 4) = ((6 * i + 4 : Nat) : Int) := by rw [wrap_i64 (by omega) (by omega)]; omega
      have j5 : IntKind.i64.wrap (((6 * i : Nat) : Int) + 5) = ((6 * i + 5 : Nat) : Int) := by rw [wrap_i64 (by omega) (by omega)]; omega
      have c7 : IntKind.i64.wrap (((6 * i : Nat) : Int) + 6) = ((6 * (i + 1) : Nat) : Int) := by rw [wrap_i64 (by omega) (by omega)]; omega
      have k0 : IntKind.i64.wrap m0 = m0 := wrap_i64 (by omega) (by omega)
      have k1 : IntKind.i64.wrap m1 = m1 := wrap_i64 (by omega) (by omega)
      have k2 : IntKind.i64.wrap m2 = m2 := wrap_i64 (by omega) (by omega)
      have k3 : IntKind.i64.wrap m3 = m3 := wrap_i64 (by omega) (by omega)
      have k4 : IntKind.i64.wrap m4 = m4 := wrap_i64 (by omega) (by omega)
      have k5 : IntKind.i64.wrap m5 = m5 := wrap_i64 (by omega) (by omega)
      have k6 : IntKind.i64.wrap (256 * m1) = 256 * m1 := wrap_i64 (by omega) (by omega)
      have k7 : IntKind.i64.wrap (256 * m3) = 256 * m3 := wrap_i64 (by omega) (by omega)
      have k8 : IntKind.i64.wrap (256 * m1 + m2) = 256 * m1 + m2 := wrap_i64 (by omega) (by omega)
      have k9 : IntKind.i64.wrap (256 * m3 + m4) = 256 * m3 + m4 := wrap_i64 (by omega) (by omega)
      obtain ⟨x, hx⟩ : ∃ x : Ev, x = ⟨m0, 256 * m1 + m2, 256 * m3 + m4, m5⟩ := ⟨_, rfl⟩
      have hcx : (chunkE b K)[i]? = some x := by rw [chunk_get hi, he, hx]; rfl
      obtain ⟨hZ, sa, sb, sc, sd⟩ := store_e h' x
      rw [hx] at sa sc
      cases hok : okEv x with
      | false =>
        have hb := get_bad (b := b) (by rw [← hK]; exact hcx) hok
        rw [hx] at hok
        rcases ok_not hok with c2 | ⟨c2, c3⟩ | ⟨c2, c3, c4⟩
        · exfalso
          have : m0 < 0 := c2
          omega
        · simp +contextual (maxSteps := 3000000) only [↓code_skip, ↓code_seq, ↓code_region, ↓code_cond, ↓code_block, ↓code_ret, aCond_bool, ↓ops_nil, ↓ops_cons, run_none, run_someF, ↓run0_v, ↓run0_h, ↓run0_r, ↓seqK_normal, ↓seqK_ret, ↓blkK_ret, put_same, put_ne, put_none, ev_tmp, ev_const, ev_func, oc_int, oc_bool, oc_nils, o_move, o_assign, o_pick, o_bin, o_call, o_len, o_alloc, o_build, o_load, o_store, o_un, o_convert, o_fieldAddr, o_indexAddr, g_none, g_some, pick_bool, bin_add, bin_mul, bin_lss, bin_gtr, Option.bind_some, Option.map_some, decide_eq_true_eq, ↓reduceIte, Nat.reduceEqDiff, not_false_eq_true, Nat.reduceAdd, reduceCtorEq, List.getElem?_cons_zero, List.getElem?_cons_succ, List.getElem?_toArray, List.map_cons, List.map_nil, List.append_nil, List.nil_append, List.cons_append, and_true, Nat.reduceLeDiff, Nat.le_refl, gt_iff_lt, ne_eq, load_fp1 T5 a5, loadc_def, conv_int T5 T3 d3, build_struct T90 d90, z90, parts_eq, fillA, AV.cells, AH.splice, List.take_succ_cons, List.take_zero, List.drop_succ_cons, List.drop_zero, List.drop_nil, List.length_cons, List.length_nil, p90_0, p90_1, p90_2, build_struct T92 d92, z92, p92_0, p92_1, alloc_t T92, fa_ptr T92 p92_0 (by decide), load_p1 T3 a3, fa_ptr T92 p92_1 (by decide), callV_fn (g := 39) (by decide), List.length_cons, List.length_nil, List.drop_zero, List.take_succ_cons, List.take_zero, Nat.zero_add, Nat.add_zero, e0, e5, c1, hlen, i0, i1, i2, i3, i4, i5, j1, j2, j3, j4, j5, k0, k1, k2, k3, k4, k5, k6, k7, k8, k9, sa, sc, c3]
          refine hexit _ _ _ (by simp) ?_
          simp +contextual (maxSteps := 3000000) only [↓seqK_ret, ↓blkK_ret, ↓retK_ret, put_same, put_ne, resultsOf, oneOrAll, Option.map_some, Nat.reduceEqDiff, not_false_eq_true, ne_eq]
          exact GE.bad hb
        · simp +contextual (maxSteps := 3000000) only [↓code_skip, ↓code_seq, ↓code_region, ↓code_cond, ↓code_block, ↓code_ret, aCond_bool, ↓ops_nil, ↓ops_cons, run_none, run_someF, ↓run0_v, ↓run0_h, ↓run0_r, ↓seqK_normal, ↓seqK_ret, ↓blkK_ret, put_same, put_ne, put_none, ev_tmp, ev_const, ev_func, oc_int, oc_bool, oc_nils, o_move, o_assign, o_pick, o_bin, o_call, o_len, o_alloc, o_build, o_load, o_store, o_un, o_convert, o_fieldAddr, o_indexAddr, g_none, g_some, pick_bool, bin_add, bin_mul, bin_lss, bin_gtr, un_not, Option.bind_some, Option.map_some, decide_eq_true_eq, ↓reduceIte, Nat.reduceEqDiff, not_false_eq_true, Nat.reduceAdd, reduceCtorEq, List.getElem?_cons_zero, List.getElem?_cons_succ, List.getElem?_toArray, List.map_cons, List.map_nil, List.append_nil, List.nil_append, List.cons_append, and_true, Nat.reduceLeDiff, Nat.le_refl, gt_iff_lt, Bool.not_false, ne_eq, load_fp1 T5 a5, loadc_def, conv_int T5 T3 d3, build_struct T90 d90, z90, parts_eq, fillA, AV.cells, AH.splice, List.take_succ_cons, List.take_zero, List.take_nil, List.drop_succ_cons, List.drop_zero, List.drop_nil, List.length_cons, List.length_nil, p90_0, p90_1, p90_2, build_struct T92 d92, z92, p92_0, p92_1, alloc_t T92, fa_ptr T92 p92_0 (by decide), load_p1 T3 a3, fa_ptr T92 p92_1 (by decide), load_pA T90 a90, s90, loadn_def, callV_fn (g := 39) (by decide), K39 h39, List.length_cons, List.length_nil, List.drop_zero, List.take_succ_cons, List.take_zero, List.take_nil, Nat.zero_add, Nat.add_zero, e0, e5, c1, hlen, i0, i1, i2, i3, i4, i5, j1, j2, j3, j4, j5, k0, k1, k2, k3, k4, k5, k6, k7, k8, k9, sa, sc, c3, c4]
          refine hexit _ _ _ (by simp) ?_
          simp +contextual (maxSteps := 3000000) only [↓seqK_ret, ↓blkK_ret, ↓retK_ret, put_same, put_ne, resultsOf, oneOrAll, Option.map_some, Nat.reduceEqDiff, not_false_eq_true, ne_eq]
          exact GE.bad hb
      | true =>
        have hok' := hok
        rw [hx] at hok'
        simp only [okEv, Bool.and_eq_true, decide_eq_true_eq] at hok'
        obtain ⟨⟨p1, p2⟩, c4⟩ := hok'
        have c3 : ¬ 2 < m0 := by omega
        obtain ⟨w', h2, q1', q2', _, _, _⟩ := (hr.grow sd).push (new := [.int .i64 m0, .int .i64 (256 * m1 + m2), .int .i64 (256 * m3 + m4), .int .i64 m5]) T33 d33 T92 s92 (by decide) (by rw [b92]; decide) rfl rfl (by rw [b92]; simp [maxBytes]; omega)
        have htk : fl Ev.av ((chunkE b K).take (i + 1)) = fl Ev.av ((chunkE b K).take i) ++ [.int .i64 m0, .int .i64 (256 * m1 + m2), .int .i64 (256 * m3 + m4), .int .i64 m5] := by
          rw [List.take_add_one, hcx, fl_app, hx]; simp [fl, Ev.av]
        rw [← htk] at q2'
        simp +contextual (maxSteps := 3000000) only [↓code_skip, ↓code_seq, ↓code_region, ↓code_cond, ↓code_block, aCond_bool, ↓ops_nil, ↓ops_cons, run_none, run_someF, ↓run0_v, ↓run0_h, ↓run0_r, ↓seqK_normal, ↓blkK_normal, put_same, put_ne, put_none, ev_tmp, ev_const, ev_func, oc_int, oc_bool, o_move, o_assign, o_pick, o_bin, o_call, o_len, o_alloc, o_build, o_buildSlice, o_load, o_store, o_un, o_convert, o_fieldAddr, o_indexAddr, o_append, g_none, g_some, pick_bool, bin_add, bin_mul, bin_lss, bin_gtr, un_not, Option.bind_some, Option.map_some, decide_eq_true_eq, ↓reduceIte, Nat.reduceEqDiff, not_false_eq_true, Nat.reduceAdd, Nat.reduceMul, reduceCtorEq, Nat.succ_ne_self, List.getElem?_cons_zero, List.getElem?_cons_succ, List.getElem?_toArray, Bool.false_eq_true, List.map_cons, List.map_nil, List.append_nil, List.nil_append, List.cons_append, and_true, Nat.reduceLeDiff, Nat.le_refl, gt_iff_lt, Bool.not_true, ne_eq, load_fp1 T5 a5, loadc_def, conv_int T5 T3 d3, build_struct T90 d90, z90, parts_eq, fillA, AV.cells, AH.splice, List.take_succ_cons, List.take_zero, List.take_nil, List.drop_succ_cons, List.drop_zero, List.drop_nil, List.length_cons, List.length_nil, p90_0, p90_1, p90_2, build_struct T92 d92, z92, p92_0, p92_1, alloc_t T92, fa_ptr T92 p92_0 (by decide), load_p1 T3 a3, fa_ptr T92 p92_1 (by decide), load_pA T90 a90, s90, loadn_def, load_pA T92 a92, s92, buildSl T33 d33 T92 (n := 1) (by rw [s92]; decide), repl, callV_fn (g := 39) (by decide), K39 h39, List.length_cons, List.length_nil, List.drop_zero, List.take_succ_cons, List.take_zero, List.take_nil, Nat.zero_add, Nat.add_zero, e0, e4, e5, c1, hlen, i0, i1, i2, i3, i4, i5, j1, j2, j3, j4, j5, k0, k1, k2, k3, k4, k5, k6, k7, k8, k9, sa, sc, c3, c4, q1', c7]
        refine hnext (k - 1) _ _ (by omega) ⟨i + 1, w', by omega, ?_, ?_, ?_, ?_, ?_, ?_⟩
        · exact q2'
        · (rw [List.take_add_one, hcx, List.all_append, hall]; simp [hok])
        · omega
        · simp only [put_ne, not_false_eq_true, reduceCtorEq, ne_eq, e0]
        · simp only [put_same, put_ne, Nat.reduceEqDiff, not_false_eq_true, ne_eq]
        · simp only [put_same]
    · have c1 : ¬ ((6 * i : Nat) : Int) < (b.length : Int) := by omega
      rw [List.take_of_length_le (by rw [chunk_len]; omega)] at hr hall
      have hG : getP b = (chunkE b K, 0) := by unfold getP getE; rw [← hK, if_pos ⟨⟨q1, q5, by omega⟩, hall⟩]
      simp +contextual (maxSteps := 3000000) only [↓code_seq, ↓code_region, ↓code_cond, ↓code_exit, aCond_bool, ↓ops_nil, ↓ops_cons, run_none, ↓run0_v, ↓seqK_normal, ↓seqK_exit, put_same, put_ne, ev_tmp, o_move, o_bin, o_len, g_none, bin_lss, decide_eq_true_eq, ↓reduceIte, Nat.reduceEqDiff, not_false_eq_true, reduceCtorEq, ne_eq, e0, e5, c1, hlen]
      refine hexit _ _ _ (by simp) ?_
      simp +contextual (maxSteps := 3000000) only [↓code_seq, ↓code_region, ↓code_ret, ↓ops_nil, ↓ops_cons, run_none, ↓run0_v, ↓seqK_normal, ↓blkK_exit, ↓retK_ret, put_same, put_ne, ev_tmp, ev_const, oc_int, o_move, o_assign, g_none, resultsOf, oneOrAll, Option.map_some, ↓reduceIte, Nat.reduceEqDiff, not_false_eq_true, ne_eq, e4]
      unfold GE
      rw [hG]
      refine ⟨_, _, rfl, ?_⟩
      show RowC 4 h' w (chunkE b K).length (fl Ev.av (chunkE b K))
      rw [chunk_len, show K = i by omega]
      rw [show K = i by omega] at hr
      exact hr
  · refine ⟨0, .nils, by omega, ?_, ?_, ?_, ?_, ?_, ?_⟩
    · exact RowC.nil _ _
    · rfl
    · omega
    · simp only [put_ne, env0_at, Option.getD_some, not_false_eq_true, reduceCtorEq, List.getElem?_cons_zero, ne_eq]
    · simp only [put_same, put_ne, Nat.reduceEqDiff, not_false_eq_true, ne_eq]
    · simp only [put_same, Nat.reduceMul]; rfl
end Go.AM.X
namespace Go.AM.X
open Go Go.AM Go.Proofs Go.AM.Sx
set_option maxHeartbeats 1600000
set_option maxRecDepth 100000
set_option linter.unusedVariables false
theorem F40 : F 40 = some { body := (Try.f40.body.getD .skip), results := Try.f40.results.toList, rf := false } := by kernel_rfl
theorem R40 : regsOk T (Try.f40.body.getD .skip) = true := by kernel_rfl
theorem F72 : F 72 = some { body := (Try.f72.body.getD .skip), results := Try.f72.results.toList, rf := false } := by kernel_rfl
theorem R72 : regsOk T (Try.f72.body.getD .skip) = true := by kernel_rfl
theorem K40 {I : Nat → Option (List AV → AH → Rs)} (h40 : I 40 = none) (m : Nat) (ex : Bool) (n : Nat) (cs : List AV) (h : AH) : call F I T (m + 1) 40 [.lst ex 1 n cs, .int .i64 6] h =
    some (.fn 72 [] [.ptr h.next 0, .ptr (h.next + 1) 0], (h.alloc (.cells [.lst ex 1 n cs] .own)).alloc (.cells [.int .i64 6] .own)) := by
  have c1 : ¬ (6 : Int) < 1 := by omega
  rw [call_F (by decide) h40 F40 rfl R40]; simp only [Try.f40, Option.getD]
  simp +contextual (maxSteps := 3000000) only [↓code_skip, ↓code_seq, ↓code_region, ↓code_cond, ↓code_ret, aCond_bool, ↓ops_nil, ↓ops_cons, run_none, ↓run0_v, ↓run0_r, ↓seqK_normal, ↓retK_ret, put_same, put_ne, env0_at, ev_tmp, ev_const, oc_int, oc_nilf, o_assign, o_bin, o_box, o_load, o_makeFunc, g_none, bin_lss, resultsOf, oneOrAll, Option.map_some, Option.getD_some, decide_eq_true_eq, ↓reduceIte, Nat.reduceEqDiff, not_false_eq_true, List.getElem?_cons_zero, List.getElem?_cons_succ, List.map_cons, List.map_nil, AH.get_alloc, AH.next_alloc, ne_eq, box_int, box_lst, load_p1 T3 a3, loadc_def, c1]
def chk (b : List Int) (j : Nat) : AV := .lst true 1 6 (bytes ((b.drop (6 * j)).take 6))
theorem run72 {I : Nat → Option (List AV → AH → Rs)} (h72 : I 72 = none) (b : List Int) (K m L b2 b3 : Nat) (J : Nat → AH → Prop) (E : AH → Prop) (H0 : AH) (hK : b.length = 6 * K) (hl : K ≤ 100)
    (hbox : ∀ j H, J j H → H.get b2 = some (.cells [bytL b] .own) ∧ H.get b3 = some (.cells [.int .i64 6] .own))
    (hstep : ∀ j H, j < K → J j H → ∃ H' c, call F I T (m + 1000) YLD [.yld L, chk b j] H = some (.bool c, H') ∧ if c = true then J (j + 1) H' else E H')
    (h0 : J 0 H0) : ∃ H', call F I T (m + 1001) 72 [.yld L, .ptr b2 0, .ptr b3 0] H0 = some (.tup [], H') ∧ (J K H' ∨ E H') := by
  rw [call_F (by decide) h72 F72 rfl R72]; simp only [Try.f72, Option.getD]
  simp +contextual (maxSteps := 3000000) only [↓code_seq, ↓code_region, ↓code_block, ↓code_loop, ↓ops_nil, ↓ops_cons, run_none, ↓run0_v, ↓seqK_normal, ev_const, oc_int, o_assign, g_none]
  refine iterL_wp (Q := fun r => ∃ H', r = some (.tup [], H') ∧ (J K H' ∨ E H')) (N := K) (Inv := fun k e h' => ∃ j, k + j = K ∧ j ≤ K ∧ J j h' ∧ e 0 = .yld L ∧ e 1 = .ptr b2 0 ∧ e 2 = .ptr b3 0 ∧ e 4 = .int .i64 ((6 * j : Nat) : Int)) ?_ ?_ (by omega)
  · rintro k e h' K' ⟨j, hk, hj, hJ, e0, e1, e2, e4⟩ hnext hexit
    obtain ⟨g2, g3⟩ := hbox j h' hJ
    have hlen : ∀ h, aLen T 34 (bytL b) h = some (.int .i64 (b.length : Nat)) := fun h => by simp [aLen, T34, d34, bytL]
    obtain ⟨VB, hVB⟩ : ∃ VB, VB = bytL b := ⟨_, rfl⟩
    by_cases hi : j < K
    · have c1 : ((6 * j : Nat) : Int) < (b.length : Int) := by omega
      obtain ⟨V2, hV2⟩ : ∃ V2 : AV, V2 = .lst (false && Nat.beq b.length b.length) 1 (b.length - 6 * j) (((bytes b).drop (6 * j * 1)).take ((b.length - 6 * j) * 1)) := ⟨_, rfl⟩
      have c2 : aSlice T 34 (bytL b) (some (.int .i64 ((6 * j : Nat) : Int))) none none = some V2 := by
        rw [hV2]
        exact sl_lst T34 d34 T5 s5 (by rfl) (by simp only [bnd]; rw [if_pos (by omega)]; rfl) (by omega) (Nat.le_refl _)
      have c2l : ∀ h, aLen T 34 V2 h = some (.int .i64 ((b.length - 6 * j : Nat) : Int)) := fun h => by rw [hV2]; simp [aLen, T34, d34]
      have c3 : aMin (.int .i64 6) (.int .i64 ((b.length - 6 * j : Nat) : Int)) = some (.int .i64 6) := by
        simp only [aMin]
        split <;> (simp only [Option.some.injEq, AV.int.injEq, true_and]) <;> (try omega)
      have c4 : IntKind.i64.wrap (((6 * j : Nat) : Int) + 6) = ((6 * (j + 1) : Nat) : Int) := by rw [wrap_i64 (by omega) (by omega)]; omega
      have c5 : aSlice T 34 (bytL b) (some (.int .i64 ((6 * j : Nat) : Int))) (some (.int .i64 ((6 * (j + 1) : Nat) : Int))) (some (.int .i64 ((6 * (j + 1) : Nat) : Int))) = some (chk b j) := by
        unfold bytL chk
        simp only [aSlice, T34, d34, T5, s5, bnd]
        have q1 : (0 : Int) ≤ ((6 * (j + 1) : Nat) : Int) := by omega
        have q2 : (0 : Int) ≤ ((6 * j : Nat) : Int) := by omega
        have q3 : ((6 * (j + 1) : Nat) : Int).toNat = 6 * (j + 1) := rfl
        have q4 : ((6 * j : Nat) : Int).toNat = 6 * j := rfl
        simp only [q1, q2, q3, q4, if_true]
        rw [if_pos ⟨by omega, by omega, by omega, trivial, by simp []⟩]
        have q5 : 6 * (j + 1) - 6 * j = 6 := by omega
        have q6 : Nat.beq (6 * (j + 1)) (6 * (j + 1)) = true := by simp
        simp only [Option.isSome_some, cond_true, q5, q6, Nat.mul_one]
        have q7 : ((bytes b).drop (6 * j)).take 6 = bytes ((b.drop (6 * j)).take 6) := by unfold bytes; rw [← List.map_drop, ← List.map_take]
        rw [q7]
      rw [← hVB] at g2 c2 c5 hlen
      obtain ⟨H', c, hc, hJ'⟩ := hstep j h' hi hJ
      cases c with
      | true =>
        rw [if_pos rfl] at hJ'
        obtain ⟨g4, g5⟩ := hbox (j + 1) H' hJ'
        rw [← hVB] at g4
        simp +contextual (maxSteps := 3000000) only [↓code_skip, ↓code_seq, ↓code_region, ↓code_cond, ↓code_block, aCond_bool, ↓ops_nil, ↓ops_cons, run_none, ↓run0_v, ↓run0_r, ↓seqK_normal, ↓blkK_normal, put_same, put_ne, ev_tmp, o_move, o_assign, o_bin, o_call, o_len, o_load, o_un, o_slice, o_min, g_none, bin_add, bin_lss, un_not, Option.map_some, Option.map_none, decide_eq_true_eq, ↓reduceIte, Nat.reduceEqDiff, not_false_eq_true, reduceCtorEq, List.getElem?_cons_zero, Bool.false_eq_true, List.map_cons, List.map_nil, Bool.not_true, ne_eq, load_p1 T34 a34, loadc_def, load_p1 T3 a3, e0, e1, e2, e4, g2, g3, hlen, c1, c2, c2l, c3, c4, c5, hc, callV_yld, g5]
        refine hnext (k - 1) _ _ (by omega) ⟨j + 1, by omega, ?_, ?_, ?_, ?_, ?_, ?_⟩
        · omega
        · exact hJ'
        · simp only [put_ne, not_false_eq_true, reduceCtorEq, ne_eq, e0]
        · simp only [put_ne, Nat.reduceEqDiff, not_false_eq_true, ne_eq, e1]
        · simp only [put_ne, Nat.reduceEqDiff, not_false_eq_true, ne_eq, e2]
        · simp only [put_same]; try rfl
      | false =>
        rw [if_neg (by simp)] at hJ'
        simp +contextual (maxSteps := 3000000) only [↓code_skip, ↓code_seq, ↓code_region, ↓code_cond, ↓code_block, ↓code_ret, aCond_bool, ↓ops_nil, ↓ops_cons, run_none, ↓run0_v, ↓run0_r, ↓seqK_normal, ↓seqK_ret, ↓blkK_ret, put_same, put_ne, ev_tmp, o_move, o_assign, o_bin, o_call, o_len, o_load, o_un, o_slice, o_min, g_none, bin_add, bin_lss, un_not, Option.map_some, Option.map_none, decide_eq_true_eq, ↓reduceIte, Nat.reduceEqDiff, not_false_eq_true, reduceCtorEq, List.getElem?_cons_zero, List.map_cons, List.map_nil, Bool.not_false, ne_eq, load_p1 T34 a34, loadc_def, load_p1 T3 a3, e0, e1, e2, e4, g2, g3, hlen, c1, c2, c2l, c3, c4, c5, hc, callV_yld]
        refine hexit _ _ _ (by simp) ⟨H', ?_, .inr hJ'⟩
        simp +contextual (maxSteps := 3000000) only [↓blkK_ret, ↓retK_ret, resultsOf, oneOrAll, Option.map_some]
    · have c1 : ¬ ((6 * j : Nat) : Int) < (b.length : Int) := by omega
      have hjj : j = K := by omega
      rw [← hVB] at g2 hlen
      simp +contextual (maxSteps := 3000000) only [↓code_seq, ↓code_region, ↓code_cond, ↓code_exit, aCond_bool, ↓ops_nil, ↓ops_cons, run_none, ↓run0_v, ↓seqK_normal, ↓seqK_exit, put_same, put_ne, ev_tmp, o_move, o_bin, o_len, o_load, g_none, bin_lss, decide_eq_true_eq, ↓reduceIte, Nat.reduceEqDiff, not_false_eq_true, List.getElem?_cons_zero, ne_eq, load_p1 T34 a34, loadc_def, e1, e4, g2, hlen, c1]
      refine hexit _ _ _ (by simp) ⟨h', ?_, .inl (by rw [← hjj]; exact hJ)⟩
      simp +contextual (maxSteps := 3000000) only [↓blkK_exit, ↓retK_normal, resultsOf, oneOrAll, Option.map_some, ↓reduceIte]
  · refine ⟨0, by omega, ?_, ?_, ?_, ?_, ?_, ?_⟩
    · omega
    · exact h0
    · simp only [put_ne, env0_at, Option.getD_some, not_false_eq_true, reduceCtorEq, List.getElem?_cons_zero, ne_eq]
    · simp only [put_ne, env0_at, Option.getD_some, Nat.reduceEqDiff, not_false_eq_true, List.getElem?_cons_zero, List.getElem?_cons_succ, ne_eq]
    · simp only [put_ne, env0_at, Option.getD_some, Nat.reduceEqDiff, not_false_eq_true, List.getElem?_cons_zero, List.getElem?_cons_succ, ne_eq]
    · simp only [put_same, Nat.reduceMul]; try rfl
end Go.AM.X
