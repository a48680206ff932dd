/- Ranges; numbers in two bytes. Own work. -/
import Derived.Test.YtplanafgphadaaaTegA
namespace Go.AM.X
open Go Go.AM Go.Proofs Go.AM.Sx
set_option maxHeartbeats 800000
set_option maxRecDepth 100000
set_option linter.unusedVariables false
theorem F37 : F 37 = some { body := (Try.f37.body.getD .skip), results := Try.f37.results.toList, rf := false } := by kernel_rfl
theorem R37 : regsOk T (Try.f37.body.getD .skip) = true := by kernel_rfl
theorem F39 : F 39 = some { body := (Try.f39.body.getD .skip), results := Try.f39.results.toList, rf := false } := by kernel_rfl
theorem R39 : regsOk T (Try.f39.body.getD .skip) = true := by kernel_rfl
theorem F38 : F 38 = some { body := (Try.f38.body.getD .skip), results := Try.f38.results.toList, rf := false } := by kernel_rfl
theorem R38 : regsOk T (Try.f38.body.getD .skip) = true := by kernel_rfl
theorem F41 : F 41 = some { body := (Try.f41.body.getD .skip), results := Try.f41.results.toList, rf := false } := by kernel_rfl
theorem R41 : regsOk T (Try.f41.body.getD .skip) = true := by kernel_rfl
theorem F71 : F 71 = some { body := (Try.f71.body.getD .skip), results := Try.f71.results.toList, rf := false } := by kernel_rfl
theorem R71 : regsOk T (Try.f71.body.getD .skip) = true := by kernel_rfl
def bytes (l : List Int) : List AV := l.map fun b => .int .u8 b
noncomputable def g37 : List AV → Option AV
  | [.agg [.int .i64 a, .int .i64 b, .int .i64 c]] => some (.bool (okT a b c))
  | _ => none
noncomputable def g39 : List AV → Option AV
  | [.agg [.int .i64 a, .int .i64 b, .int .i64 c]] => some (.bool (okT a b c))
  | _ => none
theorem run37 {I : Nat → Option (List AV → AH → Rs)}  (h37 : I 37 = none) (a b c : Int) : call F I T 3 37 [.agg [.int .i64 a, .int .i64 b, .int .i64 c]] e0 = some (.bool (okT a b c), e0.alloc (.cells [.int .i64 a, .int .i64 b, .int .i64 c] .own)) := by
  rw [call_F (by decide) h37 F37 rfl R37]; simp only [Try.f37, Option.getD]
  simp +contextual (maxSteps := 3000000) only [↓code_seq, ↓code_region, ↓code_ret, ↓ops_nil, ↓ops_cons, run_none, run_someT, ↓run0_v, ↓run0_r, ↓seqK_normal, ↓retK_ret, put_same, put_ne, env0_at, ev_tmp, ev_const, oc_int, oc_bool, o_move, o_assign, o_pick, o_bin, o_box, o_load, o_fieldAddr, g_none, g_some, pick_bool, bin_leq, bin_geq, next_e0, resultsOf, oneOrAll, Option.bind_some, Option.map_some, Option.getD_some, decide_eq_true_eq, ↓reduceIte, Nat.reduceEqDiff, not_false_eq_true, Nat.reduceAdd, List.getElem?_cons_zero, List.getElem?_cons_succ, List.getElem?_toArray, Bool.false_eq_true, AH.get_alloc, ge_iff_le, ne_eq, box_agg, fa_ptr T90 p90_0 (by decide), load_p1 T3 a3, loadc_def, fa_ptr T90 p90_1 (by decide), fa_ptr T90 p90_2 (by decide), okT]
  (repeat' split) <;> simp_all <;> omega
theorem run39 {I : Nat → Option (List AV → AH → Rs)}  (h39 : I 39 = none) (a b c : Int) : call F I T 3 39 [.agg [.int .i64 a, .int .i64 b, .int .i64 c]] e0 = some (.bool (okT a b c), e0.alloc (.cells [.int .i64 a, .int .i64 b, .int .i64 c] .own)) := by
  rw [call_F (by decide) h39 F39 rfl R39]; simp only [Try.f39, Option.getD]
  simp +contextual (maxSteps := 3000000) only [↓code_seq, ↓code_region, ↓code_ret, ↓ops_nil, ↓ops_cons, run_none, run_someT, ↓run0_v, ↓run0_r, ↓seqK_normal, ↓retK_ret, put_same, put_ne, env0_at, ev_tmp, ev_const, oc_int, oc_bool, o_move, o_assign, o_pick, o_bin, o_box, o_load, o_fieldAddr, g_none, g_some, pick_bool, bin_leq, bin_geq, next_e0, resultsOf, oneOrAll, Option.bind_some, Option.map_some, Option.getD_some, decide_eq_true_eq, ↓reduceIte, Nat.reduceEqDiff, not_false_eq_true, Nat.reduceAdd, List.getElem?_cons_zero, List.getElem?_cons_succ, List.getElem?_toArray, Bool.false_eq_true, AH.get_alloc, ge_iff_le, ne_eq, box_agg, fa_ptr T90 p90_0 (by decide), load_p1 T3 a3, loadc_def, fa_ptr T90 p90_1 (by decide), fa_ptr T90 p90_2 (by decide), okT]
  (repeat' split) <;> simp_all <;> omega
theorem K37 {I : Nat → Option (List AV → AH → Rs)} (h37 : I 37 = some (pureG g37)) (m : Nat) (a b c : Int) (h : AH) : call F I T (m + 1) 37 [.agg [.int .i64 a, .int .i64 b, .int .i64 c]] h = some (.bool (okT a b c), h) := by
  rw [call_I (by decide) h37]; simp [pureG, flatL, AV.flat, g37]
theorem K39 {I : Nat → Option (List AV → AH → Rs)} (h39 : I 39 = some (pureG g39)) (m : Nat) (a b c : Int) (h : AH) : call F I T (m + 1) 39 [.agg [.int .i64 a, .int .i64 b, .int .i64 c]] h = some (.bool (okT a b c), h) := by
  rw [call_I (by decide) h39]; simp [pureG, flatL, AV.flat, g39]
theorem K71 {I : Nat → Option (List AV → AH → Rs)} (h71 : I 71 = none) (m : Nat) (h : AH) : call F I T (m + 1) 71 [.int .i64 2] h = some (.bool true, h) := by
  rw [call_F (by decide) h71 F71 rfl R71]; simp only [Try.f71, Option.getD]
  simp +contextual (maxSteps := 3000000) only [↓code_seq, ↓code_region, ↓code_ret, ↓ops_nil, ↓ops_cons, run_none, run_someF, ↓run0_v, ↓seqK_normal, ↓retK_ret, put_same, put_ne, env0_at, ev_tmp, ev_const, oc_int, oc_bool, o_move, o_assign, o_pick, o_bin, g_none, g_some, pick_bool, bin_eql, resultsOf, oneOrAll, Option.bind_some, Option.map_some, Option.getD_some, decide_eq_true_eq, ↓reduceIte, Nat.reduceEqDiff, not_false_eq_true, reduceCtorEq, List.getElem?_cons_zero, List.getElem?_cons_succ, List.getElem?_toArray, ite_self, ne_eq]
theorem or64 (a c : Nat) (ha : a < 16777216) (hc : c < 256) : IntKind.i64.wrap (BitVec.ofInt IntKind.i64.bits (IntKind.i64.wrap ((a : Int) * 2 ^ min (Int.toNat 8) IntKind.i64.bits)) ||| BitVec.ofInt IntKind.i64.bits (IntKind.i64.wrap (c : Int))).toNat = ((a * 256 + c : Nat) : Int) := by
  have h0 : (2 : Int) ^ min (Int.toNat 8) IntKind.i64.bits = 256 := rfl
  have h1 : IntKind.i64.wrap ((a : Int) * 2 ^ min (Int.toNat 8) IntKind.i64.bits) = ((a * 256 : Nat) : Int) := by rw [h0, wrap_i64 (by omega) (by omega)]; omega
  have h2 : IntKind.i64.wrap (c : Int) = (c : Int) := wrap_i64 (by omega) (by omega)
  rw [h1, h2]
  have h3 : ∀ a : Nat, a < 4294967296 → (BitVec.ofInt IntKind.i64.bits (a : Int)).toNat = a := by
    intro a ha
    show (BitVec.ofInt 64 (a : Int)).toNat = a
    rw [BitVec.toNat_ofInt]
    omega
  rw [BitVec.toNat_or, h3 _ (by omega), h3 _ (by omega)]
  have h4 : a * 256 ||| c = a * 256 + c := by
    have h5 : a * 256 = 2 ^ 8 * a := by omega
    rw [h5]
    exact (Nat.two_pow_add_eq_or_of_lt (by omega) _).symm
  rw [h4, wrap_i64 (by omega) (by omega)]
theorem or_i (a c : Int) (ha : 0 ≤ a ∧ a < 65536) (hc : 0 ≤ c ∧ c < 256) : IntKind.i64.wrap (BitVec.ofInt IntKind.i64.bits (IntKind.i64.wrap (a * 2 ^ min (Int.toNat 8) IntKind.i64.bits)) ||| BitVec.ofInt IntKind.i64.bits (IntKind.i64.wrap c)).toNat = 256 * a + c := by
  obtain ⟨x, rfl⟩ : ∃ x : Nat, a = x := ⟨a.toNat, by omega⟩
  obtain ⟨y, rfl⟩ : ∃ y : Nat, c = y := ⟨c.toNat, by omega⟩
  rw [or64 x y (by omega) (by omega)]; omega
def val41 (x y : Int) : Nat → Int
  | 0 => 0
  | 1 => x
  | _ => 256 * x + y
theorem run41 {I : Nat → Option (List AV → AH → Rs)} (h71 : I 71 = none) (h41 : I 41 = none) (m : Nat) (v : AV) (p x y : Int) (h : AH) (hlen : ∀ h, aLen T 34 v h = some (.int .i64 6)) (hp : p = 1 ∨ p = 3) (hx : 0 ≤ x ∧ x ≤ 255) (hy : 0 ≤ y ∧ y ≤ 255)
    (hs : aSlice T 34 v (some (.int .i64 p)) (some (.int .i64 (p + 2))) none = some (.lst false 1 2 [.int .u8 x, .int .u8 y])) :
    call F I T (m + 10) 41 [v, .int .i64 p, .int .i64 2] h = some (.tup [.int .i64 (256 * x + y), .int .i64 (p + 2), .int .i64 0], h) := by
  have w1 : ¬ p < 0 := by omega
  have w2 : ¬ (6 : Int) < p := by omega
  have w3 : IntKind.i64.wrap (6 - p) = 6 - p := wrap_i64 (by omega) (by omega)
  have w4 : ¬ (6 - p < 2) := by omega
  have w5 : IntKind.i64.wrap (p + 2) = p + 2 := wrap_i64 (by omega) (by omega)
  obtain ⟨L, hL⟩ : ∃ L, L = AV.lst false 1 2 [.int .u8 x, .int .u8 y] := ⟨_, rfl⟩
  have hll : ∀ h, aLen T 34 L h = some (.int .i64 ((2 : Nat) : Int)) := fun h => by rw [hL]; simp [aLen, T34, d34]
  rw [← hL] at hs
  rw [call_F (by decide) h41 F41 rfl R41]; simp only [Try.f41, Option.getD]
  simp +contextual (maxSteps := 3000000) only [↓code_skip, ↓code_seq, ↓code_region, ↓code_cond, ↓code_block, ↓code_loop, aCond_bool, ↓ops_nil, ↓ops_cons, run_none, run_someF, ↓run0_v, ↓run0_r, ↓seqK_normal, ↓blkK_normal, put_same, put_ne, env0_at, ev_tmp, ev_const, ev_func, oc_int, oc_bool, o_move, o_assign, o_pick, o_bin, o_call, o_len, o_un, o_slice, g_none, g_some, pick_bool, bin_add, bin_sub, bin_lss, bin_gtr, un_not, Option.bind_some, Option.map_some, Option.map_none, Option.getD_some, decide_eq_true_eq, ↓reduceIte, Nat.reduceEqDiff, not_false_eq_true, reduceCtorEq, List.getElem?_cons_zero, List.getElem?_cons_succ, List.getElem?_toArray, Bool.false_eq_true, List.map_cons, List.map_nil, List.append_nil, List.nil_append, gt_iff_lt, Bool.not_true, ne_eq, callV_fn (g := 71) (by decide), K71 h71, hlen, hs, hll, w1, w2, w3, w4, w5]
  refine iterL_wp (Q := fun r => r = some (.tup [.int .i64 (256 * x + y), .int .i64 (p + 2), .int .i64 0], h)) (N := 2) (Inv := fun k e h' => ∃ i, k + i = 2 ∧ h' = h ∧ i ≤ 2 ∧ e 1 = .int .i64 p ∧ e 2 = .int .i64 2 ∧ e 6 = .int .i64 (val41 x y i) ∧ e 37 = L ∧ e 38 = .int .i64 ((2 : Nat) : Int) ∧ e 39 = .int .i64 (i : Nat)) ?_ ?_ (by omega)
  · rintro k e h' K' ⟨i, hk, hh, hil, e1, e2, e6, e37, e38, e39⟩ hnext hexit
    subst hh
    by_cases hi : i < 2
    · have c1 : (i : Int) < ((2 : Nat) : Int) := by omega
      obtain ⟨z, rest, hz, hia, hv⟩ : ∃ z rest, (0 ≤ z ∧ z < 256) ∧ aIndexAddr T 34 L (.int .i64 (i : Nat)) = some (.fp (.int .u8 z :: rest)) ∧ 256 * val41 x y i + z = val41 x y (i + 1) := by
        have : i = 0 ∨ i = 1 := by omega
        rcases this with rfl | rfl
        · refine ⟨x, [.int .u8 y], by omega, ?_, by simp [val41]⟩
          rw [hL, ia_lst T34 d34 T5 s5, if_pos ⟨by omega, by omega⟩]; rfl
        · refine ⟨y, [], by omega, ?_, by simp [val41]⟩
          rw [hL, ia_lst T34 d34 T5 s5, if_pos ⟨by omega, by omega⟩]; rfl
      have hvb : 0 ≤ val41 x y i ∧ val41 x y i < 65536 := by
        have : i = 0 ∨ i = 1 := by omega
        rcases this with rfl | rfl <;> simp only [val41] <;> omega
      have o1 := or_i _ z hvb hz
      rw [hv] at o1
      have c7 : IntKind.i64.wrap ((i : Int) + 1) = ((i + 1 : Nat) : Int) := by rw [wrap_i64 (by omega) (by omega)]; rfl
      simp +contextual (maxSteps := 3000000) only [↓code_skip, ↓code_seq, ↓code_region, ↓code_cond, ↓code_block, aCond_bool, ↓ops_nil, ↓ops_cons, run_none, ↓run0_v, ↓run0_r, ↓seqK_normal, ↓blkK_normal, put_same, put_ne, ev_tmp, ev_const, oc_int, o_move, o_assign, o_bin, o_load, o_convert, o_indexAddr, g_none, bin_add, bin_or, bin_lss, bin_shl, decide_eq_true_eq, ↓reduceIte, Nat.reduceEqDiff, not_false_eq_true, List.getElem?_cons_zero, ne_eq, load_fp1 T5 a5, conv_int T5 T3 d3, e6, e37, e38, e39, c1, hia, o1, c7, (show ¬ (8 : Int) < 0 by decide)]
      refine hnext (k - 1) _ _ (by omega) ⟨i + 1, by omega, ?_, ?_, ?_, ?_, ?_, ?_, ?_, ?_⟩
      · rfl
      · omega
      · simp only [put_ne, Nat.reduceEqDiff, not_false_eq_true, ne_eq, e1]
      · simp only [put_ne, Nat.reduceEqDiff, not_false_eq_true, ne_eq, e2]
      · simp only [put_same, put_ne, Nat.reduceEqDiff, not_false_eq_true, ne_eq]
      · simp only [put_ne, Nat.reduceEqDiff, not_false_eq_true, ne_eq, e37]
      · simp only [put_ne, Nat.reduceEqDiff, not_false_eq_true, ne_eq, e38]
      · simp only [put_same]
    · have c1 : ¬ (i : Int) < ((2 : Nat) : Int) := by omega
      have h2 : i = 2 := by omega
      subst h2
      simp +contextual (maxSteps := 3000000) only [↓code_seq, ↓code_region, ↓code_cond, ↓code_exit, aCond_bool, ↓ops_nil, ↓ops_cons, run_none, ↓run0_v, ↓seqK_normal, ↓seqK_exit, put_same, ev_tmp, o_bin, g_none, bin_lss, decide_eq_true_eq, ↓reduceIte, e38, e39, c1]
      refine hexit _ _ _ (by simp) ?_
      simp +contextual (maxSteps := 3000000) only [↓code_seq, ↓code_region, ↓code_ret, ↓ops_nil, ↓ops_cons, run_none, ↓run0_v, ↓seqK_normal, ↓blkK_exit, ↓retK_ret, put_same, put_ne, ev_tmp, ev_const, oc_int, o_move, o_assign, o_bin, g_none, bin_add, resultsOf, oneOrAll, Option.map_some, ↓reduceIte, Nat.reduceEqDiff, not_false_eq_true, ne_eq, e1, e2, e6, w5, val41]
  · refine ⟨0, by omega, ?_, ?_, ?_, ?_, ?_, ?_, ?_, ?_⟩
    · rfl
    · omega
    · simp only [put_ne, env0_at, Option.getD_some, Nat.reduceEqDiff, not_false_eq_true, List.getElem?_cons_zero, List.getElem?_cons_succ, ne_eq]
    · simp only [put_ne, env0_at, Option.getD_some, Nat.reduceEqDiff, not_false_eq_true, List.getElem?_cons_zero, List.getElem?_cons_succ, ne_eq]
    · simp only [put_same, put_ne, Nat.reduceEqDiff, not_false_eq_true, ne_eq]; rfl
    · simp only [put_same, put_ne, Nat.reduceEqDiff, not_false_eq_true, ne_eq]
    · simp only [put_same, put_ne, Nat.reduceEqDiff, not_false_eq_true, ne_eq]
    · simp only [put_same]; rfl
/-- Two bytes of a number. -/
theorem run38 {I : Nat → Option (List AV → AH → Rs)} (h71 : I 71 = none) (h38 : I 38 = none) (v : Int) (hv : 0 ≤ v ∧ v ≤ 65535) : ∃ h' w, call F I T 20 38 [.int .i64 2, .int .i64 v] e0 = some (.tup [w, .int .i64 0], h') ∧ RowC 1 h' w 2 [.int .u8 (v / 256), .int .u8 (v % 256)] := by
  have w1 : ¬ v < 0 := by omega
  have w2 : IntKind.i64.wrap (8 * 2) = 16 := by decide
  have w3 : IntKind.i64.wrap (1 * 2 ^ min (Int.toNat 16) IntKind.i64.bits) = 65536 := by decide
  have w4 : ¬ (65536 : Int) ≤ v := by omega
  have w5 : IntKind.i64.wrap (2 - 1) = ((1 : Nat) : Int) := by decide
  rw [call_F (by decide) h38 F38 rfl R38]; simp only [Try.f38, Option.getD]
  simp +contextual (maxSteps := 3000000) only [↓code_skip, ↓code_seq, ↓code_region, ↓code_cond, ↓code_block, ↓code_loop, aCond_bool, ↓ops_nil, ↓ops_cons, run_none, run_someF, ↓run0_v, ↓run0_r, ↓seqK_normal, put_same, put_ne, env0_at, ev_tmp, ev_const, ev_func, oc_int, oc_bool, oc_nils, o_move, o_assign, o_pick, o_bin, o_call, o_un, g_none, g_some, pick_bool, bin_sub, bin_mul, bin_lss, bin_geq, bin_shl, un_not, Option.bind_some, Option.getD_some, decide_eq_true_eq, ↓reduceIte, Nat.reduceEqDiff, not_false_eq_true, reduceCtorEq, List.getElem?_cons_zero, List.getElem?_cons_succ, List.getElem?_toArray, Bool.false_eq_true, List.map_cons, List.map_nil, List.append_nil, List.nil_append, ge_iff_le, Bool.not_true, ne_eq, callV_fn (g := 71) (by decide), K71 h71, w1, w2, w3, w4, w5, (show ¬ (16 : Int) < 0 by decide)]
  refine iterL_wp (Q := fun r => ∃ h' w, r = some (.tup [w, .int .i64 0], h') ∧ RowC 1 h' w 2 [.int .u8 (v / 256), .int .u8 (v % 256)]) (N := 2) (Inv := fun k e h' => ∃ i w, k + i = 2 ∧ RowC 1 h' w i ([.int .u8 (v / 256), .int .u8 (v % 256)].take i) ∧ i ≤ 2 ∧ e 1 = .int .i64 v ∧ e 6 = w ∧ e 7 = .int .i64 (1 - (i : Int))) ?_ ?_ (by omega)
  · rintro k e h' K' ⟨i, w, hk, hr, hil, e1, e6, e7⟩ hnext hexit
    by_cases hi : i < 2
    · have c1 : 0 ≤ 1 - (i : Int) := by omega
      obtain ⟨z, hz, hzz⟩ : ∃ z, IntKind.u8.wrap (v.fdiv (2 ^ min (8 * (1 - (i : Int))).toNat IntKind.i64.bits)) = z ∧ [AV.int .u8 (v / 256), .int .u8 (v % 256)].take (i + 1) = [AV.int .u8 (v / 256), .int .u8 (v % 256)].take i ++ [.int .u8 z] := by
        have : i = 0 ∨ i = 1 := by omega
        rcases this with rfl | rfl
        · refine ⟨v / 256, ?_, rfl⟩
          rw [show (2 : Int) ^ min (8 * (1 - ((0 : Nat) : Int))).toNat IntKind.i64.bits = 256 from rfl, Int.fdiv_eq_ediv_of_nonneg _ (by decide), wrap_u8 (by omega) (by omega)]
        · refine ⟨v % 256, ?_, rfl⟩
          rw [show (2 : Int) ^ min (8 * (1 - ((1 : Nat) : Int))).toNat IntKind.i64.bits = 1 from rfl, Int.fdiv_eq_ediv_of_nonneg _ (by decide), Int.ediv_one]
          simp only [IntKind.wrap, IntKind.bits, IntKind.signed]
          simp
      have c2 : IntKind.i64.wrap (8 * (1 - (i : Int))) = 8 * (1 - (i : Int)) := wrap_i64 (by omega) (by omega)
      have c3 : ¬ 8 * (1 - (i : Int)) < 0 := by omega
      have c7 : IntKind.i64.wrap (1 - (i : Int) - 1) = 1 - ((i + 1 : Nat) : Int) := by rw [wrap_i64 (by omega) (by omega)]; omega
      obtain ⟨w', h2, q1, q2, q3, q4, q5⟩ := hr.push (new := [.int .u8 z]) T34 d34 T5 s5 (by decide) (by rw [b5]; decide) rfl rfl (by rw [b5]; simp [maxBytes]; omega)
      rw [← hzz] at q2
      simp +contextual (maxSteps := 3000000) only [↓code_skip, ↓code_seq, ↓code_region, ↓code_cond, ↓code_block, aCond_bool, ↓ops_nil, ↓ops_cons, run_none, ↓run0_v, ↓run0_r, ↓seqK_normal, ↓blkK_normal, put_same, put_ne, ev_tmp, ev_const, oc_int, o_move, o_assign, o_bin, o_buildSlice, o_convert, o_append, g_none, bin_sub, bin_mul, bin_geq, bin_shr, Option.bind_some, decide_eq_true_eq, ↓reduceIte, Nat.reduceEqDiff, not_false_eq_true, Nat.reduceAdd, Nat.reduceMul, Nat.succ_ne_self, List.map_cons, List.map_nil, List.append_nil, List.nil_append, and_true, Nat.le_refl, ge_iff_le, ne_eq, conv_int T3 T5 d5, buildSl T34 d34 T5 (n := 1) (by rw [s5]; decide), s5, z5, parts_eq, fillA, AV.cells, AH.splice, List.take_zero, List.drop_succ_cons, List.drop_nil, List.length_cons, List.length_nil, repl, e1, e6, e7, c1, c2, c3, hz, q1, c7]
      refine hnext (k - 1) _ _ (by omega) ⟨i + 1, w', by omega, ?_, ?_, ?_, ?_, ?_⟩
      · exact q2
      · omega
      · simp only [put_ne, Nat.reduceEqDiff, not_false_eq_true, ne_eq, e1]
      · simp only [put_same, put_ne, Nat.reduceEqDiff, not_false_eq_true, ne_eq]
      · simp only [put_same]
    · have c1 : ¬ 0 ≤ 1 - (i : Int) := by omega
      have h2 : i = 2 := by omega
      subst h2
      simp +contextual (maxSteps := 3000000) only [↓code_seq, ↓code_region, ↓code_cond, ↓code_exit, aCond_bool, ↓ops_nil, ↓ops_cons, run_none, ↓run0_v, ↓seqK_normal, ↓seqK_exit, put_same, ev_tmp, ev_const, oc_int, o_move, o_bin, g_none, bin_geq, decide_eq_true_eq, ↓reduceIte, ge_iff_le, e7, c1]
      refine hexit _ _ _ (by simp) ⟨_, w, ?_, hr⟩
      simp +contextual (maxSteps := 3000000) only [↓code_seq, ↓code_region, ↓code_ret, ↓ops_nil, ↓ops_cons, run_none, ↓run0_v, ↓seqK_normal, ↓blkK_exit, ↓retK_ret, put_same, put_ne, ev_tmp, ev_const, oc_int, o_move, o_assign, g_none, resultsOf, oneOrAll, Option.map_some, ↓reduceIte, Nat.reduceEqDiff, not_false_eq_true, ne_eq, e6]
  · refine ⟨0, .nils, by omega, ?_, ?_, ?_, ?_, ?_⟩
    · exact RowC.nil _ _
    · omega
    · simp only [put_ne, env0_at, Option.getD_some, Nat.reduceEqDiff, not_false_eq_true, List.getElem?_cons_zero, List.getElem?_cons_succ, ne_eq]
    · simp only [put_same, put_ne, Nat.reduceEqDiff, not_false_eq_true, ne_eq]
    · simp only [put_same]; rfl
noncomputable def g38 : List AV → Option AV
  | [.int .i64 2, .int .i64 v] => if 0 ≤ v ∧ v ≤ 65535 then some (.tup [.lst false 1 2 [.int .u8 (v / 256), .int .u8 (v % 256)], .int .i64 0]) else none
  | _ => none
theorem K38 {I : Nat → Option (List AV → AH → Rs)} (h38 : I 38 = some (pureG g38)) (m : Nat) (v : Int) (h : AH) (hv : 0 ≤ v ∧ v ≤ 65535) : call F I T (m + 1) 38 [.int .i64 2, .int .i64 v] h = some (.tup [.lst false 1 2 [.int .u8 (v / 256), .int .u8 (v % 256)], .int .i64 0], h) := by
  rw [call_I (by decide) h38]; simp [pureG, flatL, AV.flat, g38, hv]
end Go.AM.X
namespace Go.AM.Sx
open Go Go.AM
set_option linter.unusedVariables false
def layH (n0 : Nat) (ct : Nat → List AV) : List Nat → AH → AH
  | [], h => h
  | k :: ks, h => (layH n0 ct ks h).put (n0 + k) (.cells (ct k) .own)
def layOf (all : Array Oper) (mt : List Nat) (i : Nat) : Nat → List Nat
  | 0 => []
  | k + 1 => match freeAt all k && Nat.beq (mt.getD k 0) i with
    | true => k :: layOf all mt i k
    | false => layOf all mt i k
theorem matz_lay {all : Array Oper} {n0 : Nat} {mt : List Nat} {ct : Nat → List AV} {i : Nat} {h : AH} : ∀ k, matz all n0 mt ct i k h = layH n0 ct (layOf all mt i k) h
  | 0 => rfl
  | k + 1 => by
    simp only [matz, layOf]
    cases freeAt all k && Nat.beq (mt.getD k 0) i with
    | true => simp only [layH, matz_lay k]
    | false => exact matz_lay k
def updC (ct : Nat → List AV) (i : Nat) (cs : List AV) : Nat → List AV := fun a => match Nat.beq a i with | true => cs | false => ct a
theorem updC_same {ct i cs} : updC ct i cs i = cs := by simp [updC]
def opsG (C : Cf) (T : TT) (all : Array Oper) (n0 : Nat) : List (Bool × List Nat) → List Oper → Nat → Env → AH → (Nat → List AV) → List (Env × AH) → (Env → AH → List (Env × AH) → Rs) → Rs
  | (_, L) :: _, [], i, e, h, ct, tr, K => K e (layH n0 ct L h) (tr ++ [(e, h)])
  | (true, _) :: Ls, o :: rest, i, e, h, ct, tr, K => match mkOf T o e (n0 + i) with
    | some p => opsG C T all n0 Ls rest (i + 1) (e.put o.dst p.1) h (updC ct i p.2) (tr ++ [(e, h)]) K
    | none => none
  | (false, L) :: Ls, o :: rest, i, e, h, ct, tr, K => (outOf C T o e (layH n0 ct L h)).run (guardOf all o e) (layH n0 ct L h) fun v h' => opsG C T all n0 Ls rest (i + 1) (e.put o.dst v) h' ct (tr ++ [(e, h)]) K
  | [], _, _, _, _, _, _, _ => none
def entG (all : Array Oper) (mt : List Nat) : List Oper → Nat → List (Bool × List Nat)
  | [], i => [(false, layOf all mt i i)]
  | o :: rest, i => (isFree o, layOf all mt i i) :: entG all mt rest (i + 1)
theorem opsF_G {C : Cf} {T : TT} {all : Array Oper} {n0 : Nat} {mt : List Nat} : ∀ (l : List Oper) (i : Nat) (e : Env) (h : AH) (ct : Nat → List AV) (tr : List (Env × AH)) (K : Env → AH → List (Env × AH) → Rs),
    opsF C T all n0 mt l i e h ct tr K = opsG C T all n0 (entG all mt l i) l i e h ct tr K
  | [], i, e, h, ct, tr, K => by simp only [opsF, entG, opsG, matz_lay]
  | o :: rest, i, e, h, ct, tr, K => by
    simp only [opsF, entG, matz_lay]
    cases isFree o with
    | true =>
      simp only [opsG]
      cases mkOf T o e (n0 + i) with
      | none => rfl
      | some p => exact opsF_G rest (i + 1) _ h _ _ K
    | false =>
      simp only [opsG]
      congr 1
      funext v h'
      exact opsF_G rest (i + 1) _ h' _ _ K
theorem code_F {C : Cf} {T : TT} {n : Nat} {rf : Bool} {id all e h K mt ss tb s HB} (hd : drawOk T all = false) (hF : drawOkF T all = true) (hm : mts T all = mt) (hs : softsF T all = ss) (ht : entG all mt all.toList 0 = tb) (hz : all.size = s) (hB : HB = ⟨h.next + s, h.t⟩) : code C T n rf (.region id all true) e h K =
    opsG C T all h.next tb all.toList 0 e HB (fun _ => []) [] (fun e' h' st => match softOk C T all st ss with | true => K .normal e' h' | false => none) := by
  subst hm; subst hs; subst ht; subst hz; subst hB
  simp only [code, hd, hF, opsF_G]
  rfl
theorem get_bump {h HB : AH} {s : Nat} (hB : HB = ⟨h.next + s, h.t⟩) (c : Nat) : HB.get c = h.get c := by rw [hB]; rfl
theorem next_bump {h HB : AH} {s : Nat} (hB : HB = ⟨h.next + s, h.t⟩) : HB.next = h.next + s := by rw [hB]
variable {C : Cf} {T : TT} {all : Array Oper} {n0 : Nat}
theorem opsG_nil {f L Ls i e h ct tr K} : opsG C T all n0 ((f, L) :: Ls) [] i e h ct tr K = K e (layH n0 ct L h) (tr ++ [(e, h)]) := by cases f <;> rfl
theorem opsG_t {L Ls o rest i e h ct tr K} : opsG C T all n0 ((true, L) :: Ls) (o :: rest) i e h ct tr K = (match mkOf T o e (n0 + i) with
    | some p => opsG C T all n0 Ls rest (i + 1) (e.put o.dst p.1) h (updC ct i p.2) (tr ++ [(e, h)]) K
    | none => none) := rfl
theorem opsG_f {L Ls o rest i e h ct tr K} : opsG C T all n0 ((false, L) :: Ls) (o :: rest) i e h ct tr K = (outOf C T o e (layH n0 ct L h)).run (guardOf all o e) (layH n0 ct L h) (fun v h' => opsG C T all n0 Ls rest (i + 1) (e.put o.dst v) h' ct (tr ++ [(e, h)]) K) := rfl
theorem lay_nil {ct h} : layH n0 ct [] h = h := rfl
theorem lay_one {ct k h} : layH n0 ct [k] h = h.put (n0 + k) (.cells (ct k) .own) := rfl
@[congr] theorem opsG_congr {Ls : List (Bool × List Nat)} {l : List Oper} {i : Nat} {e : Env} {h : AH} {ct : Nat → List AV} {tr : List (Env × AH)} {K : Env → AH → List (Env × AH) → Rs} : opsG C T all n0 Ls l i e h ct tr K = opsG C T all n0 Ls l i e h ct tr K := rfl
def isI : AV → Bool
  | .int _ _ => true
  | _ => false
theorem isI_int {k n} : isI (.int k n) = true := rfl
theorem mk_one {t el : Nat} {ti te : TI} {dst x type pos after e id} (ht : T t = some ti) (hd : ti.desc = .slice el) (he : T el = some te) (hs : te.size = 1) (hz : te.zero.length = 1) (hx : isI (ev e x) = true) :
    mkOf T ⟨dst, .buildSlice t 1 #[(0, x)], type, pos, after, none⟩ e id = some (.sl id 0 1 1 1 true, [ev e x]) := by
  have hp : parts e #[(0, x)] = [(0, ev e x)] := rfl
  simp only [mkOf, hp]
  generalize ev e x = w at hx ⊢
  cases w <;> simp only [isI] at hx <;> try (cases hx; done)
  obtain ⟨z0, hz0⟩ : ∃ z0, te.zero = [z0] := List.length_eq_one_iff.1 hz
  simp [aBuildSlice, ht, hd, he, hs, fillA, repl, AV.cells, hz0, AH.splice, AH.get_alloc]
end Go.AM.Sx
