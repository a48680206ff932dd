/- Sums, and groups of zones. Own work. -/
import Derived.Test.YtdehanhonfbdpaaZbkA
namespace Go.AM.X
open Go Go.AM Go.Proofs Go.AM.Sx
set_option maxHeartbeats 400000
set_option maxRecDepth 100000
set_option linter.unusedVariables false
theorem F62 : F 62 = some { body := (Try.f62.body.getD .skip), results := Try.f62.results.toList, rf := false } := by kernel_rfl
theorem R62 : regsOk T (Try.f62.body.getD .skip) = true := by kernel_rfl
theorem F64 : F 64 = some { body := (Try.f64.body.getD .skip), results := Try.f64.results.toList, rf := false } := by kernel_rfl
theorem R64 : regsOk T (Try.f64.body.getD .skip) = true := by kernel_rfl
theorem F20 : F 20 = some { body := (Try.f20.body.getD .skip), results := Try.f20.results.toList, rf := false } := by kernel_rfl
theorem R20 : regsOk T (Try.f20.body.getD .skip) = true := by kernel_rfl
theorem F21 : F 21 = some { body := (Try.f21.body.getD .skip), results := Try.f21.results.toList, rf := false } := by kernel_rfl
theorem R21 : regsOk T (Try.f21.body.getD .skip) = true := by kernel_rfl
/-- One byte more. -/
def sumStep (s : Nat) (c : UInt8) : Nat := (2 * ((s + c.toNat) % 65536)) % 65536 + ((s + c.toNat) % 65536) / 32768
def sumS (l : List UInt8) : Nat := l.foldl sumStep 0
def sumR (l : List UInt8) : Int := if sumS l = 0 then 65535 else (sumS l : Nat)
theorem sumStep_lt (s : Nat) (c : UInt8) : sumStep s c < 65536 := by unfold sumStep; omega
theorem sumS_lt (l : List UInt8) : sumS l < 65536 := by
  rcases List.eq_nil_or_concat l with rfl | ⟨a, c, rfl⟩
  · decide
  · simp only [sumS, List.concat_eq_append, List.foldl_append, List.foldl_cons, List.foldl_nil]; exact sumStep_lt _ _
theorem sumS_snoc (l : List UInt8) (c : UInt8) : sumS (l ++ [c]) = sumStep (sumS l) c := by simp [sumS]
theorem wrap_u16 {x : Int} (h1 : 0 ≤ x) : IntKind.u16.wrap x = x % 65536 := by
  simp only [IntKind.wrap, IntKind.bits, IntKind.signed]
  simp
theorem or16 (y : Nat) (hy : y < 65536) : IntKind.u16.wrap (BitVec.ofInt IntKind.u16.bits (IntKind.u16.wrap ((y : Int) * 2 ^ min (Int.toNat 1) IntKind.u16.bits)) ||| BitVec.ofInt IntKind.u16.bits ((y : Int).fdiv (2 ^ min (Int.toNat 15) IntKind.u16.bits))).toNat =
    (((2 * y) % 65536 + y / 32768 : Nat) : Int) := by
  have h1 : IntKind.u16.wrap ((y : Int) * 2 ^ min (Int.toNat 1) IntKind.u16.bits) = (((2 * y) % 65536 : Nat) : Int) := by
    have : (2 : Int) ^ min (Int.toNat 1) IntKind.u16.bits = 2 := rfl
    rw [this, wrap_u16 (by omega)]; omega
  have h2 : (y : Int).fdiv (2 ^ min (Int.toNat 15) IntKind.u16.bits) = ((y / 32768 : Nat) : Int) := by
    have : (2 : Int) ^ min (Int.toNat 15) IntKind.u16.bits = 32768 := rfl
    rw [this, Int.fdiv_eq_ediv_of_nonneg _ (by omega)]; omega
  rw [h1, h2]
  have h3 : ∀ a : Nat, a < 65536 → (BitVec.ofInt IntKind.u16.bits (a : Int)).toNat = a := by
    intro a ha
    show (BitVec.ofInt 16 (a : Int)).toNat = a
    rw [BitVec.toNat_ofInt]
    omega
  rw [BitVec.toNat_or, h3 _ (by omega), h3 _ (by omega)]
  have h4 : (2 * y) % 65536 ||| y / 32768 = (2 * y) % 65536 + y / 32768 := by
    have h5 : (2 * y) % 65536 = 2 ^ 1 * (y % 32768) := by omega
    rw [h5]
    exact (Nat.two_pow_add_eq_or_of_lt (by omega) _).symm
  rw [h4, wrap_u16 (by omega)]
  omega
noncomputable def g62 := G1 (vList vByte) fun l => if l.length < 140737488355328 then some (.int .i64 (sumR l)) else none
theorem byte_lt (c : UInt8) : c.toNat < 256 := c.toNat_lt
theorem run62 {I : Nat → Option (List AV → AH → Rs)}  (h62 : I 62 = none) (l : List UInt8) (m : Nat) (hl : l.length < 140737488355328) : ∃ h', call F I T (l.length + m + 3) 62 [.lst false 1 l.length (l.map vByte.enc)] e0 = some (.int .i64 (sumR l), h') := by
  rw [call_F (by decide) h62 F62 rfl R62]; simp only [Try.f62, Option.getD]
  simp +contextual (maxSteps := 3000000) only [↓code_seq, ↓code_region, ↓code_block, ↓code_loop, ↓ops_nil, ↓ops_cons, run_none, ↓run0_v, ↓seqK_normal, put_same, put_ne, env0_at, ev_tmp, ev_const, oc_int, o_move, o_assign, o_len, g_none, Option.getD_some, not_false_eq_true, reduceCtorEq, List.getElem?_cons_zero, ne_eq, len_lst T25 d25]
  refine iterL_wp (Q := fun r => ∃ h', r = some (.int .i64 (sumR l), h')) (N := l.length) (Inv := fun k e h' => ∃ i, k + i = l.length ∧ i ≤ l.length ∧ e 3 = .int .u16 (sumS (l.take i) : Nat) ∧ e 6 = .lst false 1 l.length (l.map vByte.enc) ∧ e 7 = .int .i64 l.length ∧ e 8 = .int .i64 (i : Nat)) ?_ ?_ (by omega)
  · rintro k e h' K' ⟨i, hk, hil, e3, e6, e7, e8⟩ hnext hexit
    have hs := sumS_lt (l.take i)
    by_cases hi : i < l.length
    · have c1 : (i : Int) < (l.length : Int) := by omega
      have c3 := drop_map_0 (f := vByte.enc) (List.getElem?_eq_getElem hi)
      have hb := byte_lt l[i]
      have c4 : vByte.enc l[i] = .int .u8 (l[i].toNat : Nat) := rfl
      have c5 : IntKind.u16.wrap ((sumS (l.take i) : Nat) + IntKind.u16.wrap ((l[i].toNat : Nat) : Int)) = ((((sumS (l.take i) + l[i].toNat) % 65536 : Nat)) : Int) := by
        rw [wrap_u16 (x := ((l[i].toNat : Nat) : Int)) (by omega), wrap_u16 (by omega)]; omega
      have c6 := or16 ((sumS (l.take i) + l[i].toNat) % 65536) (by omega)
      simp +contextual (maxSteps := 3000000) only [↓code_skip, ↓code_seq, ↓code_region, ↓code_cond, ↓code_block, aCond_bool, ↓ops_nil, ↓ops_cons, run_none, ↓run0_v, ↓run0_r, ↓seqK_normal, ↓blkK_normal, put_same, put_ne, ev_tmp, ev_const, oc_int, o_move, o_assign, o_bin, o_load, o_convert, o_indexAddr, g_none, bin_add, bin_or, bin_lss, bin_shr, bin_shl, decide_eq_true_eq, ↓reduceIte, Nat.reduceEqDiff, not_false_eq_true, and_true, ne_eq, ia_lst T25 d25 T5 s5, load_fp1 T5 a5, conv_int T5 T117 d117, e3, e6, e7, e8, c1, c3, c4, c5, c6, cast_nonneg, toNat_cast, show ¬ ((1 : Int) < 0) by decide, show ¬ ((15 : Int) < 0) by decide]
      refine hnext (k - 1) _ _ (by omega) ⟨i + 1, by omega, ?_, ?_, ?_, ?_, ?_⟩
      · omega
      · simp only [put_same, put_ne, Nat.reduceEqDiff, not_false_eq_true, ne_eq]; rw [take_snoc hi, sumS_snoc]; rfl
      · simp only [put_ne, Nat.reduceEqDiff, not_false_eq_true, Nat.succ_ne_self, ne_eq, e6]
      · simp only [put_ne, Nat.reduceEqDiff, not_false_eq_true, ne_eq, e7]
      · simp only [put_same]; rw [wrap_i64 (by omega) (by omega)]; rfl
    · have c1 : ¬ (i : Int) < (l.length : Int) := by omega
      rw [take_end (show i = l.length by omega)] at e3 hs
      have c2 : (((sumS l : Nat) : Int) = 0) = (sumS l = 0) := by simp
      have c3 : IntKind.i64.wrap ((sumS l : Nat) : Int) = (sumS l : Nat) := wrap_i64 (by omega) (by omega)
      simp +contextual (maxSteps := 3000000) only [↓code_seq, ↓code_region, ↓code_cond, ↓code_exit, aCond_bool, ↓ops_nil, ↓ops_cons, run_none, ↓run0_v, ↓seqK_normal, ↓seqK_exit, put_same, ev_tmp, o_bin, g_none, bin_lss, decide_eq_true_eq, ↓reduceIte, e7, e8, c1]
      refine hexit _ _ _ (by simp) ⟨h', ?_⟩
      simp +contextual (maxSteps := 3000000) only [↓code_skip, ↓code_seq, ↓code_region, ↓code_cond, ↓code_ret, aCond_bool, ↓ops_nil, ↓ops_cons, run_none, ↓run0_v, ↓run0_r, ↓seqK_normal, ↓seqK_ret, ↓blkK_exit, ↓retK_ret, put_same, put_ne, ev_tmp, ev_const, oc_int, o_move, o_assign, o_bin, o_convert, g_none, bin_eql, resultsOf, oneOrAll, Option.map_some, decide_eq_true_eq, ↓reduceIte, Nat.reduceEqDiff, not_false_eq_true, ne_eq, conv_int T117 T3 d3, e3, c2, c3, sumR]
      split <;> rfl
  · refine ⟨0, by omega, ?_, ?_, ?_, ?_, ?_⟩
    · omega
    · simp only [put_same, put_ne, Nat.reduceEqDiff, not_false_eq_true, ne_eq]; rfl
    · simp only [put_same, put_ne, Nat.reduceEqDiff, not_false_eq_true, ne_eq]
    · simp only [put_same, put_ne, Nat.reduceEqDiff, not_false_eq_true, ne_eq]
    · simp only [put_same]; rfl
theorem dByte_enc' (x : UInt8) : vByte.dec (vByte.enc x) = some x := dByte_enc x
theorem K62 {I : Nat → Option (List AV → AH → Rs)} (h62 : I 62 = some (pureG g62)) (m : Nat) (s : List UInt8) (ex : Bool) (h : AH) (hl : s.length < 140737488355328) : call F I T (m + 1) 62 [.lst ex 1 s.length (s.map vByte.enc)] h = some (.int .i64 (sumR s), h) := by
  rw [call_I (by decide) h62]
  refine pureG_flat (by have h1 : flatL (s.map vByte.enc) = true := flatL_map (fun _ => rfl) s; simp [flatL, AV.flat, h1]) ?_
  have := vList_dec dByte_enc' ex s
  show ((vList vByte).dec (.lst ex 1 s.length (s.map vByte.enc))).bind _ = _
  rw [this]
  simp [hl]
theorem K62s {I : Nat → Option (List AV → AH → Rs)} (h62 : I 62 = some (pureG g62)) (m : Nat) (s : List UInt8) (b : Nat) (ex : Bool) (k : BK) (h : AH) (hl : s.length < 140737488355328) (hb : h.get b = some (.cells (ofBytes s) k)) : call F I T (m + 1) 62 [.sl b 0 s.length s.length 1 ex] h = some (.int .i64 (sumR s), h) := by
  rw [call_I (by decide) h62]
  refine pureG_view (bs := [.lst (ex && true) 1 s.length (ofBytes s)]) (by simp [flatL, AV.flat]) ?_ ?_ rfl
  · exact frzMap_cons (by rw [frz_sl (k := 8) hb (by rw [ofBytes_len]; omega) (frz_bytes _)]; simp) frzMap_nil
  · have := vList_dec dByte_enc' (ex && true) s
    show ((vList vByte).dec (.lst (ex && true) 1 s.length (s.map vByte.enc))).bind _ = _
    rw [this]
    simp [hl]
noncomputable def g64 := G1 (vList vByte) fun l => if l.length < 140737488355328 then some (.int .i64 (sumR l)) else none
theorem run64 {I : Nat → Option (List AV → AH → Rs)}  (h64 : I 64 = none) (l : List UInt8) (m : Nat) (hl : l.length < 140737488355328) : ∃ h', call F I T (l.length + m + 3) 64 [.lst false 1 l.length (l.map vByte.enc)] e0 = some (.int .i64 (sumR l), h') := by
  rw [call_F (by decide) h64 F64 rfl R64]; simp only [Try.f64, Option.getD]
  simp +contextual (maxSteps := 3000000) only [↓code_seq, ↓code_region, ↓code_block, ↓code_loop, ↓ops_nil, ↓ops_cons, run_none, ↓run0_v, ↓seqK_normal, ev_const, oc_int, o_assign, g_none]
  refine iterL_wp (Q := fun r => ∃ h', r = some (.int .i64 (sumR l), h')) (N := l.length) (Inv := fun k e h' => ∃ i, k + i = l.length ∧ i ≤ l.length ∧ e 0 = .lst false 1 l.length (l.map vByte.enc) ∧ e 3 = .int .i64 (sumS (l.take i) : Nat) ∧ e 4 = .int .i64 (i : Nat)) ?_ ?_ (by omega)
  · rintro k e h' K' ⟨i, hk, hil, e0, e3, e4⟩ hnext hexit
    have hs := sumS_lt (l.take i)
    by_cases hi : i < l.length
    · have c1 : (i : Int) < (l.length : Int) := by omega
      have c3 := drop_map_0 (f := vByte.enc) (List.getElem?_eq_getElem hi)
      have hb := byte_lt l[i]
      have c4 : vByte.enc l[i] = .int .u8 (l[i].toNat : Nat) := rfl
      have w1 : IntKind.i64.wrap ((l[i].toNat : Nat) : Int) = (l[i].toNat : Nat) := wrap_i64 (by omega) (by omega)
      have w2 : IntKind.i64.wrap ((sumS (l.take i) : Nat) + ((l[i].toNat : Nat) : Int)) = ((sumS (l.take i) + l[i].toNat : Nat) : Int) := by rw [wrap_i64 (by omega) (by omega)]; omega
      have w3 : (((sumS (l.take i) + l[i].toNat : Nat) : Int)).tmod 65536 = (((sumS (l.take i) + l[i].toNat) % 65536 : Nat) : Int) := by rw [Int.tmod_eq_emod_of_nonneg (by omega)]; omega
      have w4 : IntKind.i64.wrap ((((sumS (l.take i) + l[i].toNat) % 65536 : Nat) : Int) * 2) = ((2 * ((sumS (l.take i) + l[i].toNat) % 65536) : Nat) : Int) := by rw [wrap_i64 (by omega) (by omega)]; omega
      have w5 : (((2 * ((sumS (l.take i) + l[i].toNat) % 65536) : Nat) : Int)).tmod 65536 = (((2 * ((sumS (l.take i) + l[i].toNat) % 65536)) % 65536 : Nat) : Int) := by rw [Int.tmod_eq_emod_of_nonneg (by omega)]; omega
      have w6 : IntKind.i64.wrap ((((sumS (l.take i) + l[i].toNat) % 65536 : Nat) : Int).tdiv 32768) = ((((sumS (l.take i) + l[i].toNat) % 65536) / 32768 : Nat) : Int) := by rw [Int.tdiv_eq_ediv_of_nonneg (by omega), wrap_i64 (by omega) (by omega)]; omega
      have w7 : IntKind.i64.wrap ((((2 * ((sumS (l.take i) + l[i].toNat) % 65536)) % 65536 : Nat) : Int) + ((((sumS (l.take i) + l[i].toNat) % 65536) / 32768 : Nat) : Int)) = ((sumStep (sumS (l.take i)) l[i] : Nat) : Int) := by rw [wrap_i64 (by omega) (by omega)]; unfold sumStep; omega
      simp +contextual (maxSteps := 3000000) only [↓code_skip, ↓code_seq, ↓code_region, ↓code_cond, ↓code_block, aCond_bool, ↓ops_nil, ↓ops_cons, run_none, ↓run0_v, ↓run0_r, ↓seqK_normal, ↓blkK_normal, put_same, put_ne, ev_tmp, ev_const, oc_int, o_move, o_assign, o_bin, o_len, o_load, o_convert, o_indexAddr, g_none, bin_add, bin_mul, bin_quo, bin_rem, bin_lss, decide_eq_true_eq, ↓reduceIte, Nat.reduceEqDiff, not_false_eq_true, reduceCtorEq, Nat.succ_ne_self, and_true, ne_eq, len_lst T25 d25, ia_lst T25 d25 T5 s5, load_fp1 T5 a5, conv_int T5 T3 d3, e0, e3, e4, c1, c3, c4, w1, w2, w3, w4, w5, w6, w7, cast_nonneg, toNat_cast, show ¬ ((65536 : Int) = 0) by decide, show ¬ ((32768 : Int) = 0) by decide]
      refine hnext (k - 1) _ _ (by omega) ⟨i + 1, by omega, ?_, ?_, ?_, ?_⟩
      · omega
      · simp only [put_ne, not_false_eq_true, reduceCtorEq, ne_eq, e0]
      · simp only [put_same, put_ne, Nat.reduceEqDiff, not_false_eq_true, ne_eq]; rw [take_snoc hi, sumS_snoc]
      · simp only [put_same]; rw [wrap_i64 (by omega) (by omega)]; rfl
    · have c1 : ¬ (i : Int) < (l.length : Int) := by omega
      rw [take_end (show i = l.length by omega)] at e3 hs
      have c2 : (((sumS l : Nat) : Int) = 0) = (sumS l = 0) := by simp
      simp +contextual (maxSteps := 3000000) only [↓code_seq, ↓code_region, ↓code_cond, ↓code_exit, aCond_bool, ↓ops_nil, ↓ops_cons, run_none, ↓run0_v, ↓seqK_normal, ↓seqK_exit, put_same, put_ne, ev_tmp, o_move, o_bin, o_len, g_none, bin_lss, decide_eq_true_eq, ↓reduceIte, Nat.reduceEqDiff, not_false_eq_true, reduceCtorEq, ne_eq, len_lst T25 d25, e0, e4, c1]
      refine hexit _ _ _ (by simp) ⟨h', ?_⟩
      simp +contextual (maxSteps := 3000000) only [↓code_skip, ↓code_seq, ↓code_region, ↓code_cond, ↓code_ret, aCond_bool, ↓ops_nil, ↓ops_cons, run_none, ↓run0_v, ↓seqK_normal, ↓seqK_ret, ↓blkK_exit, ↓retK_ret, put_same, put_ne, ev_tmp, ev_const, oc_int, o_move, o_assign, o_bin, g_none, bin_eql, resultsOf, oneOrAll, Option.map_some, decide_eq_true_eq, ↓reduceIte, Nat.reduceEqDiff, not_false_eq_true, ne_eq, e3, c2, sumR]
      split <;> rfl
  · refine ⟨0, by omega, ?_, ?_, ?_, ?_⟩
    · omega
    · simp only [put_ne, env0_at, Option.getD_some, not_false_eq_true, reduceCtorEq, List.getElem?_cons_zero, ne_eq]
    · simp only [put_same, put_ne, Nat.reduceEqDiff, not_false_eq_true, ne_eq]; rfl
    · simp only [put_same]; rfl
theorem K64 {I : Nat → Option (List AV → AH → Rs)} (h64 : I 64 = some (pureG g64)) (m : Nat) (s : List UInt8) (ex : Bool) (h : AH) (hl : s.length < 140737488355328) : call F I T (m + 1) 64 [.lst ex 1 s.length (s.map vByte.enc)] h = some (.int .i64 (sumR s), h) := by
  rw [call_I (by decide) h64]
  refine pureG_flat (by have h1 : flatL (s.map vByte.enc) = true := flatL_map (fun _ => rfl) s; simp [flatL, AV.flat, h1]) ?_
  have := vList_dec dByte_enc' ex s
  show ((vList vByte).dec (.lst ex 1 s.length (s.map vByte.enc))).bind _ = _
  rw [this]
  simp [hl]
theorem K64s {I : Nat → Option (List AV → AH → Rs)} (h64 : I 64 = some (pureG g64)) (m : Nat) (s : List UInt8) (b : Nat) (ex : Bool) (k : BK) (h : AH) (hl : s.length < 140737488355328) (hb : h.get b = some (.cells (ofBytes s) k)) : call F I T (m + 1) 64 [.sl b 0 s.length s.length 1 ex] h = some (.int .i64 (sumR s), h) := by
  rw [call_I (by decide) h64]
  refine pureG_view (bs := [.lst (ex && true) 1 s.length (ofBytes s)]) (by simp [flatL, AV.flat]) ?_ ?_ rfl
  · exact frzMap_cons (by rw [frz_sl (k := 8) hb (by rw [ofBytes_len]; omega) (frz_bytes _)]; simp) frzMap_nil
  · have := vList_dec dByte_enc' (ex && true) s
    show ((vList vByte).dec (.lst (ex && true) 1 s.length (s.map vByte.enc))).bind _ = _
    rw [this]
    simp [hl]
/-- Groups. -/
def group (s : List UInt8) : AV := if isZone s = true then .tup [.int .i64 ((sumR (fold s)).tmod 253), .int .i64 0] else .tup [.int .i64 0, .int .i64 2]
theorem fold_len (s : List UInt8) : (fold s).length = s.length := by simp [fold]
noncomputable def g20 := G1 vStr fun s => if s.length < 140737488355327 then some (group s) else none
theorem run20 {I : Nat → Option (List AV → AH → Rs)} (h22 : I 22 = none) (h62 : I 62 = some (pureG g62)) (h63 : I 63 = some (pureG g63)) (h20 : I 20 = none) (s : List UInt8) (m : Nat) (hl : s.length < 140737488355327) : ∃ h', call F I T (m + 3) 20 [.str s] e0 = some (group s, h') := by
  rw [call_F (by decide) h20 F20 rfl R20]; simp only [Try.f20, Option.getD]
  have hl1 : s.length < 140737488355328 := by omega
  have hl2 : (fold s).length < maxBytes := by rw [fold_len]; exact hl1
  have c1 := fun k => K62s h62 k (fold s) 0 false .byt (e0.alloc (.cells (ofBytes (fold s)) .byt)) (by rw [fold_len]; exact hl1) (by rw [AH.get_alloc]; rfl)
  simp +contextual (maxSteps := 3000000) only [↓code_skip, ↓code_seq, ↓code_region, ↓code_cond, ↓code_ret, aCond_bool, ↓ops_nil, ↓ops_cons, run_none, ↓run0_v, ↓run0_r, ↓seqK_normal, ↓seqK_ret, ↓retK_ret, put_same, put_ne, env0_at, ev_tmp, ev_const, ev_func, oc_int, o_move, o_assign, o_bin, o_call, o_un, o_convert, g_none, bin_rem, un_not, next_e0, resultsOf, oneOrAll, Option.map_some, Option.getD_some, ↓reduceIte, Nat.reduceEqDiff, not_false_eq_true, reduceCtorEq, List.getElem?_cons_zero, List.map_cons, List.map_nil, List.append_nil, List.nil_append, Bool.not_eq_eq_eq_not, Bool.not_true, Bool.not_false, ne_eq, conv_bytes T9 T25 d25 d9 T5 d5 s5, callV_fn (g := 22) (by decide), K22 h22, callV_fn (g := 62) (by decide), callV_fn (g := 63) (by decide), K63 h63, hl1, hl2, c1, show ¬ ((253 : Int) = 0) by decide]
  unfold group
  cases hz : isZone s <;> simp <;> exact ⟨_, rfl⟩
noncomputable def g21 := G1 vStr fun s => if s.length < 140737488355327 then some (group s) else none
theorem run21 {I : Nat → Option (List AV → AH → Rs)} (h23 : I 23 = none) (h64 : I 64 = some (pureG g64)) (h65 : I 65 = some (pureG g65)) (h21 : I 21 = none) (s : List UInt8) (m : Nat) (hl : s.length < 140737488355327) : ∃ h', call F I T (m + 3) 21 [.str s] e0 = some (group s, h') := by
  rw [call_F (by decide) h21 F21 rfl R21]; simp only [Try.f21, Option.getD]
  have hl2 : (fold s).length < maxBytes := by rw [fold_len]; unfold maxBytes; omega
  have c1 := fun k => K64s h64 k (fold s) 0 false .byt (e0.alloc (.cells (ofBytes (fold s)) .byt)) (by rw [fold_len]; omega) (by rw [AH.get_alloc]; rfl)
  simp +contextual (maxSteps := 3000000) only [↓code_skip, ↓code_seq, ↓code_region, ↓code_cond, ↓code_ret, aCond_bool, ↓ops_nil, ↓ops_cons, run_none, ↓run0_v, ↓run0_r, ↓seqK_normal, ↓seqK_ret, ↓retK_ret, put_same, put_ne, env0_at, ev_tmp, ev_const, ev_func, oc_int, o_move, o_assign, o_bin, o_call, o_un, o_convert, g_none, bin_rem, un_not, next_e0, resultsOf, oneOrAll, Option.map_some, Option.getD_some, ↓reduceIte, Nat.reduceEqDiff, not_false_eq_true, reduceCtorEq, List.getElem?_cons_zero, List.map_cons, List.map_nil, List.append_nil, List.nil_append, Bool.not_eq_eq_eq_not, Bool.not_true, Bool.not_false, ne_eq, conv_bytes T9 T25 d25 d9 T5 d5 s5, callV_fn (g := 23) (by decide), K23 h23, callV_fn (g := 64) (by decide), callV_fn (g := 65) (by decide), K65 h65, hl, hl2, c1, show ¬ ((253 : Int) = 0) by decide]
  unfold group
  cases hz : isZone s <;> simp <;> exact ⟨_, rfl⟩
end Go.AM.X
namespace Go.AM.X
open Go Go.AM Go.Proofs Go.AM.Sx
theorem first12 : isT (call F noI T 60 12 [] e0) = true := by kernel_rfl
end Go.AM.X
namespace Go.AM.X
open Go Go.AM Go.Proofs Go.AM.Sx
set_option maxHeartbeats 400000
set_option maxRecDepth 100000
set_option linter.unusedVariables false
noncomputable def g12 : List AV → Option AV
  | [] => some (.bool true)
  | _ => none
theorem F12 : ∃ fi, F 12 = some fi := ⟨{ body := (Try.f12.body.getD .skip), results := Try.f12.results.toList, rf := false }, by kernel_rfl⟩
noncomputable def I0 : Nat → Option (List AV → AH → Rs) := noI
theorem A0 : IAgree Try.prog I0 := noI_agree _
noncomputable def I1 := addI I0 12 (pureG g12)
theorem A1 : IAgree Try.prog I1 := by
  obtain ⟨fi, hfi⟩ := F12
  refine pure_agree hT hmix hF A0 (by decide) fi hfi fun args v hg _ => ?_
  unfold g12 at hg
  split at hg
  · cases hg
    obtain ⟨h', hc⟩ := isT_some first12
    exact ⟨[], 60, 1, h', .bool true, .bool true, WkL.refl _, hc, by simp [frzF, AV.flat], Wk.refl _⟩
  · cases hg
theorem K12 {I : Nat → Option (List AV → AH → Rs)} (h12 : I 12 = some (pureG g12)) (m : Nat) (h : AH) : call F I T (m + 1) 12 [] h = some (.bool true, h) := by
  rw [call_I (by decide) h12]; exact pureG_flat rfl rfl
noncomputable def I2 := addI I1 63 (pureG g63)
theorem A2 : IAgree Try.prog I2 := agree1 hT hmix hF A1 (by decide) F63 fun x r hs => by
  split at hs
  · rename_i hc; cases hs; exact fin (run63 rfl rfl x 0 hc) (fun h => by simp [frzF, AV.flat])
  · cases hs
noncomputable def I3 := addI I2 84 (pureG g84)
theorem A3 : IAgree Try.prog I3 := agree2 hT hmix hF A2 (by decide) F84 fun x y r hs => by
  split at hs
  · rename_i hc; cases hs; exact fin (run84 rfl rfl x y 0 hc.1 hc.2) (fun h => by simp [frzF, AV.flat])
  · cases hs
noncomputable def I4 := addI I3 86 (pureG g86)
theorem A4 : IAgree Try.prog I4 := agree2 hT hmix hF A3 (by decide) F86 fun x y r hs => by
  split at hs
  · rename_i hc; cases hs; exact fin (run86 rfl rfl rfl x y 0 hc.1 hc.2) (fun h => by simp [frzF, AV.flat])
  · cases hs
noncomputable def I5 := addI I4 65 (pureG g65)
theorem A5 : IAgree Try.prog I5 := agree1 hT hmix hF A4 (by decide) F65 fun x r hs => by
  split at hs
  · rename_i hc; cases hs; exact fin (run65 rfl rfl x 0 hc) (fun h => by simp [frzF, AV.flat])
  · cases hs
noncomputable def I6 := addI I5 62 (pureG g62)
theorem A6 : IAgree Try.prog I6 := agree1 hT hmix hF A5 (by decide) F62 fun x r hs => by
  split at hs
  · rename_i hc; cases hs; exact fin (run62  rfl x 0 hc) (fun h => by simp [frzF, AV.flat])
  · cases hs
noncomputable def I7 := addI I6 64 (pureG g64)
theorem A7 : IAgree Try.prog I7 := agree1 hT hmix hF A6 (by decide) F64 fun x r hs => by
  split at hs
  · rename_i hc; cases hs; exact fin (run64  rfl x 0 hc) (fun h => by simp [frzF, AV.flat])
  · cases hs
noncomputable def I8 := addI I7 55 (pureG g55)
theorem A8 : IAgree Try.prog I8 := agree2 hT hmix hF A7 (by decide) F55 fun x y r hs => by
  split at hs
  · rename_i hc; cases hs; exact fin (run55 rfl rfl (h101 := rfl) (h56 := rfl) (h22 := rfl) (h84 := rfl) x y 0 hc.1 hc.2) (fun h => by simp [frzF, AV.flat])
  · cases hs
noncomputable def I9 := addI I8 66 (pureG g66)
theorem A9 : IAgree Try.prog I9 := agree2 hT hmix hF A8 (by decide) F66 fun x y r hs => by
  split at hs
  · rename_i hc; cases hs; exact fin (run66 rfl rfl x y 0 hc.1 hc.2) (fun h => by simp [frzF, AV.flat])
  · cases hs
noncomputable def I10 := addI I9 67 (pureG g67)
theorem A10 : IAgree Try.prog I10 := agree2 hT hmix hF A9 (by decide) F67 fun x y r hs => by
  split at hs
  · rename_i hc; cases hs; exact fin (run67 rfl rfl x y 0 hc.1 hc.2) (fun h => by simp [frzF, AV.flat])
  · cases hs
noncomputable def I11 := addI I10 24 (pureG g24)
theorem A11 : IAgree Try.prog I11 := agree1 hT hmix hF A10 (by decide) F24 fun x r hs => by
  split at hs
  · rename_i hc; cases hs; exact fin (run24 rfl rfl rfl x 0 hc) (fun h => by simp [frzF, AV.flat])
  · cases hs
noncomputable def I12 := addI I11 25 (pureG g25)
theorem A12 : IAgree Try.prog I12 := agree1 hT hmix hF A11 (by decide) F25 fun x r hs => by
  split at hs
  · rename_i hc; cases hs; exact fin (run25 rfl rfl rfl x 0 hc) (fun h => by simp [frzF, AV.flat])
  · cases hs
noncomputable def I13 := addI I12 20 (pureG g20)
theorem frz_group (s : List UInt8) (h : AH) : frzF false 3 h (group s) = some (group s) := by
  unfold group; split <;> simp [frzF, frzMap, AV.flat]
theorem A13 : IAgree Try.prog I13 := agree1 hT hmix hF A12 (by decide) F20 fun x r hs => by
  split at hs
  · rename_i hc; cases hs; exact fin (run20 rfl rfl rfl rfl x 0 hc) (frz_group x)
  · cases hs
noncomputable def I14 := addI I13 21 (pureG g21)
theorem A14 : IAgree Try.prog I14 := agree1 hT hmix hF A13 (by decide) F21 fun x r hs => by
  split at hs
  · rename_i hc; cases hs; exact fin (run21 rfl rfl rfl rfl x 0 hc) (frz_group x)
  · cases hs
end Go.AM.X
namespace Go.AM.X
open Go Go.AM Go.Proofs Go.AM.Sx
set_option maxHeartbeats 400000
set_option maxRecDepth 100000
set_option linter.unusedVariables false
theorem F102 : F 102 = some { body := (Try.f102.body.getD .skip), results := Try.f102.results.toList, rf := false } := by kernel_rfl
theorem R102 : regsOk T (Try.f102.body.getD .skip) = true := by kernel_rfl
/-- The number that bytes are. -/
def beN (l : List UInt8) : Nat := l.foldl (fun v c => v * 256 + c.toNat) 0
theorem beN_snoc (l : List UInt8) (c : UInt8) : beN (l ++ [c]) = beN l * 256 + c.toNat := by simp [beN]
theorem foldl_lt : ∀ (l : List UInt8) (v : Nat), l.foldl (fun v c => v * 256 + c.toNat) v < (v + 1) * 256 ^ l.length
  | [], v => by simp
  | c :: l, v => by
    have ih := foldl_lt l (v * 256 + c.toNat)
    have hc := byte_lt c
    have h2 : v * 256 + c.toNat + 1 ≤ (v + 1) * 256 := by omega
    have h3 := Nat.mul_le_mul_right (256 ^ l.length) h2
    have h4 : (v + 1) * 256 * 256 ^ l.length = (v + 1) * (256 ^ l.length * 256) := by rw [Nat.mul_assoc, Nat.mul_comm 256]
    simp only [List.foldl_cons, List.length_cons, Nat.pow_succ]
    omega
theorem beN_lt (l : List UInt8) : beN l < 256 ^ l.length := by
  have := foldl_lt l 0
  simpa [beN] using this
theorem beN_small {l : List UInt8} (h : l.length ≤ 3) : beN l < 16777216 := by
  have h1 := beN_lt l
  have h2 : 256 ^ l.length ≤ 256 ^ 3 := Nat.pow_le_pow_right (by decide) h
  omega
theorem or64 (a c : Nat) (ha : a < 16777216) (hc : c < 256) : IntKind.i64.wrap (BitVec.ofInt IntKind.i64.bits (IntKind.i64.wrap ((a : Int) * 2 ^ min (Int.toNat 8) IntKind.i64.bits)) ||| BitVec.ofInt IntKind.i64.bits (IntKind.i64.wrap (c : Int))).toNat = ((a * 256 + c : Nat) : Int) := by
  have h0 : (2 : Int) ^ min (Int.toNat 8) IntKind.i64.bits = 256 := rfl
  have h1 : IntKind.i64.wrap ((a : Int) * 2 ^ min (Int.toNat 8) IntKind.i64.bits) = ((a * 256 : Nat) : Int) := by rw [h0, wrap_i64 (by omega) (by omega)]; omega
  have h2 : IntKind.i64.wrap (c : Int) = (c : Int) := wrap_i64 (by omega) (by omega)
  rw [h1, h2]
  have h3 : ∀ a : Nat, a < 4294967296 → (BitVec.ofInt IntKind.i64.bits (a : Int)).toNat = a := by
    intro a ha
    show (BitVec.ofInt 64 (a : Int)).toNat = a
    rw [BitVec.toNat_ofInt]
    omega
  rw [BitVec.toNat_or, h3 _ (by omega), h3 _ (by omega)]
  have h4 : a * 256 ||| c = a * 256 + c := by
    have h5 : a * 256 = 2 ^ 8 * a := by omega
    rw [h5]
    exact (Nat.two_pow_add_eq_or_of_lt (by omega) _).symm
  rw [h4, wrap_i64 (by omega) (by omega)]
def getS (b : List UInt8) (p n : Int) : Int × Int × Int :=
  if isWidth n = true ∧ 0 ≤ p ∧ p ≤ b.length then
    if (b.length : Int) - p < n then (0, 0, 6) else ((beN ((b.drop p.toNat).take n.toNat) : Nat), p + n, 0)
  else (0, 0, 2)
def t3 (x : Int × Int × Int) : AV := .tup [.int .i64 x.1, .int .i64 x.2.1, .int .i64 x.2.2]
theorem ok3 {x y : Int × Int × Int} {h : AH} (e : x = y) : ∃ h' : AH, (some (.tup [.int .i64 x.1, .int .i64 x.2.1, .int .i64 x.2.2], h) : Rs) = some (t3 y, h') := ⟨h, by rw [e]; rfl⟩
/-- The middle of a list. -/
theorem sl_mid {t el : Nat} {ti te : TI} {α : Type} {f : α → AV} {l : List α} {ex : Bool} {lo hi : Nat} (ht : T t = some ti) (hd : ti.desc = .slice el) (he : T el = some te) (hs : te.size = 1) (h1 : lo ≤ hi) (h2 : hi ≤ l.length) :
    aSlice T t (.lst ex 1 l.length (l.map f)) (some (.int .i64 (lo : Nat))) (some (.int .i64 (hi : Nat))) none = some (.lst (ex && Nat.beq hi l.length) 1 (hi - lo) (((l.drop lo).take (hi - lo)).map f)) := by
  rw [sl_lst ht hd he hs (u := hi) (l := lo) (by simp [bnd]) (by simp [bnd]) h1 h2]
  simp
noncomputable def g102 := G3 (vList vByte) (vInt .i64) (vInt .i64) fun b p n => if b.length < 140737488355328 ∧ 0 ≤ p ∧ p ≤ b.length then some (t3 (getS b p n)) else none
theorem width_cases {n : Int} (h : isWidth n = true) : n = 1 ∨ n = 2 ∨ n = 4 := by
  simp [isWidth] at h; omega
theorem run102 {I : Nat → Option (List AV → AH → Rs)} (h117 : I 117 = none) (h102 : I 102 = none) (b : List UInt8) (p n : Int) (m : Nat) (hl : b.length < 140737488355328) (hp : 0 ≤ p ∧ p ≤ b.length) :
    ∃ h', call F I T (b.length + m + 9) 102 [.lst false 1 b.length (b.map vByte.enc), .int .i64 p, .int .i64 n] e0 = some (t3 (getS b p n), h') := by
  obtain ⟨q, rfl⟩ : ∃ q : Nat, p = q := ⟨p.toNat, by omega⟩
  have hq : q ≤ b.length := by omega
  have c0 : ¬ ((q : Int) < 0) := by omega
  have c1 : ¬ ((b.length : Int) < (q : Int)) := by omega
  have c2 : IntKind.i64.wrap ((b.length : Int) - (q : Int)) = (b.length : Int) - (q : Int) := wrap_i64 (by omega) (by omega)
  rw [call_F (by decide) h102 F102 rfl R102]; simp only [Try.f102, Option.getD]
  cases hw : isWidth n with
  | false =>
    simp +contextual (maxSteps := 3000000) only [↓code_seq, ↓code_region, ↓code_cond, ↓code_block, ↓code_ret, aCond_bool, ↓ops_nil, ↓ops_cons, run_none, run_someF, ↓run0_v, ↓run0_r, ↓seqK_normal, ↓seqK_ret, ↓blkK_ret, ↓retK_ret, put_same, put_ne, env0_at, ev_tmp, ev_const, ev_func, oc_int, oc_bool, o_move, o_assign, o_pick, o_bin, o_call, o_len, o_un, g_none, g_some, pick_bool, un_not, resultsOf, oneOrAll, Option.bind_some, Option.map_some, Option.getD_some, ↓reduceIte, Nat.reduceEqDiff, not_false_eq_true, reduceCtorEq, List.getElem?_cons_zero, List.getElem?_cons_succ, List.getElem?_toArray, List.map_cons, List.map_nil, List.append_nil, List.nil_append, Bool.not_false, ne_eq, callV_fn (g := 117) (by decide), K117 h117, hw]
    exact ok3 (x := (0, 0, 2)) (by simp [getS, hw])
  | true =>
    have hw' := width_cases hw
    by_cases hs : (b.length : Int) - (q : Int) < n
    · simp +contextual (maxSteps := 3000000) only [↓code_seq, ↓code_region, ↓code_cond, ↓code_block, ↓code_ret, aCond_bool, ↓ops_nil, ↓ops_cons, run_none, run_someF, ↓run0_v, ↓run0_r, ↓seqK_normal, ↓seqK_ret, ↓blkK_ret, ↓retK_ret, put_same, put_ne, env0_at, ev_tmp, ev_const, ev_func, oc_int, oc_bool, o_move, o_assign, o_pick, o_bin, o_call, o_len, o_un, g_none, g_some, pick_bool, bin_sub, bin_lss, bin_gtr, un_not, resultsOf, oneOrAll, Option.bind_some, Option.map_some, Option.getD_some, decide_eq_true_eq, ↓reduceIte, Nat.reduceEqDiff, not_false_eq_true, reduceCtorEq, List.getElem?_cons_zero, List.getElem?_cons_succ, List.getElem?_toArray, Bool.false_eq_true, List.map_cons, List.map_nil, List.append_nil, List.nil_append, gt_iff_lt, Bool.not_true, ne_eq, len_lst T25 d25, callV_fn (g := 117) (by decide), K117 h117, hw, c0, c1, c2, hs]
      exact ok3 (x := (0, 0, 6)) (by simp [getS, hw, hs, hq])
    · obtain ⟨d, rfl⟩ : ∃ d : Nat, n = d := ⟨n.toNat, by omega⟩
      have hd4 : d ≤ 4 := by omega
      have c3 : IntKind.i64.wrap ((q : Int) + (d : Int)) = ((q + d : Nat) : Int) := by rw [wrap_i64 (by omega) (by omega)]; omega
      have c4 := sl_mid (f := vByte.enc) (l := b) (ex := false) (lo := q) (hi := q + d) T25 d25 T5 s5 (by omega) (by omega)
      rw [show q + d - q = d by omega] at c4
      obtain ⟨w, hw2⟩ : ∃ w, w = (b.drop q).take d := ⟨_, rfl⟩
      have hwl : w.length = d := by rw [hw2]; simp; omega
      rw [← hw2] at c4
      simp +contextual (maxSteps := 3000000) only [↓code_skip, ↓code_seq, ↓code_region, ↓code_cond, ↓code_block, ↓code_loop, aCond_bool, ↓ops_nil, ↓ops_cons, run_none, run_someF, ↓run0_v, ↓run0_r, ↓seqK_normal, ↓blkK_normal, put_same, put_ne, env0_at, ev_tmp, ev_const, ev_func, oc_int, oc_bool, o_move, o_assign, o_pick, o_bin, o_call, o_len, o_un, o_slice, g_none, g_some, pick_bool, bin_add, bin_sub, bin_lss, bin_gtr, un_not, Option.bind_some, Option.map_some, Option.map_none, Option.getD_some, decide_eq_true_eq, ↓reduceIte, Nat.reduceEqDiff, not_false_eq_true, reduceCtorEq, List.getElem?_cons_zero, List.getElem?_cons_succ, List.getElem?_toArray, Bool.false_eq_true, List.map_cons, List.map_nil, List.append_nil, List.nil_append, gt_iff_lt, Bool.not_true, ne_eq, len_lst T25 d25, callV_fn (g := 117) (by decide), K117 h117, hw, c0, c1, c2, hs, c3, c4]
      have hgo : getS b q d = ((((beN w : Nat) : Int), ((q + d : Nat) : Int), (0 : Int))) := by
        simp [getS, hw, hs, hq, ← hw2]
      rw [hgo]
      refine iterL_wp (Q := fun r => ∃ h', r = some (t3 ((((beN w : Nat) : Int), ((q + d : Nat) : Int), (0 : Int))), h')) (N := d) (Inv := fun k e h' => ∃ i, k + i = d ∧ i ≤ d ∧ e 1 = .int .i64 (q : Nat) ∧ e 2 = .int .i64 (d : Nat) ∧ e 6 = .int .i64 (beN (w.take i) : Nat) ∧ e 37 = .lst (false && Nat.beq (q + d) b.length) 1 d (w.map vByte.enc) ∧ e 38 = .int .i64 (d : Nat) ∧ e 39 = .int .i64 (i : Nat)) ?_ ?_ (by omega)
      · rintro k e h' K' ⟨i, hk, hil, e1, e2, e6, e37, e38, e39⟩ hnext hexit
        by_cases hi : i < w.length
        · have c5 : (i : Int) < (d : Int) := by omega
          have c6 := drop_map_0 (f := vByte.enc) (List.getElem?_eq_getElem hi)
          have c7 : vByte.enc w[i] = .int .u8 (w[i].toNat : Nat) := rfl
          have c8 := or64 (beN (w.take i)) w[i].toNat (beN_small (by simp; omega)) (byte_lt _)
          simp +contextual (maxSteps := 3000000) only [↓code_skip, ↓code_seq, ↓code_region, ↓code_cond, ↓code_block, aCond_bool, ↓ops_nil, ↓ops_cons, run_none, ↓run0_v, ↓run0_r, ↓seqK_normal, ↓blkK_normal, put_same, put_ne, ev_tmp, ev_const, oc_int, o_move, o_assign, o_bin, o_load, o_convert, o_indexAddr, g_none, bin_add, bin_or, bin_lss, bin_shl, decide_eq_true_eq, ↓reduceIte, Nat.reduceEqDiff, not_false_eq_true, and_true, ne_eq, ia_lst T25 d25 T5 s5, load_fp1 T5 a5, conv_int T5 T3 d3, e6, e37, e38, e39, c5, c6, c7, c8, cast_nonneg, toNat_cast, show ¬ ((8 : Int) < 0) by decide]
          refine hnext (k - 1) _ _ (by omega) ⟨i + 1, by omega, ?_, ?_, ?_, ?_, ?_, ?_, ?_⟩
          · omega
          · simp only [put_ne, Nat.reduceEqDiff, not_false_eq_true, ne_eq, e1]
          · simp only [put_ne, Nat.reduceEqDiff, not_false_eq_true, ne_eq, e2]
          · simp only [put_same, put_ne, Nat.reduceEqDiff, not_false_eq_true, ne_eq]; rw [take_snoc hi, beN_snoc]
          · simp only [put_ne, Nat.reduceEqDiff, not_false_eq_true, ne_eq, e37]
          · simp only [put_ne, Nat.reduceEqDiff, not_false_eq_true, ne_eq, e38]
          · simp only [put_same]; rw [wrap_i64 (by omega) (by omega)]; rfl
        · have c5 : ¬ (i : Int) < (d : Int) := by omega
          rw [take_end (show i = w.length by omega)] at e6
          simp +contextual (maxSteps := 3000000) only [↓code_seq, ↓code_region, ↓code_cond, ↓code_exit, aCond_bool, ↓ops_nil, ↓ops_cons, run_none, ↓run0_v, ↓seqK_normal, ↓seqK_exit, put_same, ev_tmp, o_bin, g_none, bin_lss, decide_eq_true_eq, ↓reduceIte, e38, e39, c5]
          refine hexit _ _ _ (by simp) ⟨h', ?_⟩
          simp +contextual (maxSteps := 3000000) only [↓code_seq, ↓code_region, ↓code_ret, ↓ops_nil, ↓ops_cons, run_none, ↓run0_v, ↓seqK_normal, ↓blkK_exit, ↓retK_ret, put_same, put_ne, ev_tmp, ev_const, oc_int, o_move, o_assign, o_bin, g_none, bin_add, resultsOf, oneOrAll, Option.map_some, ↓reduceIte, Nat.reduceEqDiff, not_false_eq_true, ne_eq, e1, e2, e6, c3, t3]
      · refine ⟨0, by omega, ?_, ?_, ?_, ?_, ?_, ?_, ?_⟩
        · omega
        · simp only [put_ne, env0_at, Option.getD_some, Nat.reduceEqDiff, not_false_eq_true, List.getElem?_cons_zero, List.getElem?_cons_succ, ne_eq]
        · simp only [put_ne, env0_at, Option.getD_some, Nat.reduceEqDiff, not_false_eq_true, List.getElem?_cons_zero, List.getElem?_cons_succ, ne_eq]
        · simp only [put_same, put_ne, Nat.reduceEqDiff, not_false_eq_true, ne_eq]; rfl
        · simp only [put_same, put_ne, Nat.reduceEqDiff, not_false_eq_true, ne_eq]
        · simp only [put_same, put_ne, Nat.reduceEqDiff, not_false_eq_true, ne_eq]
        · simp only [put_same]; rfl
theorem K102 {I : Nat → Option (List AV → AH → Rs)} (h102 : I 102 = some (pureG g102)) (m : Nat) (b : List UInt8) (ex : Bool) (p n : Int) (h : AH) (hl : b.length < 140737488355328) (hp : 0 ≤ p ∧ p ≤ b.length) : call F I T (m + 1) 102 [.lst ex 1 b.length (b.map vByte.enc), .int .i64 p, .int .i64 n] h = some (t3 (getS b p n), h) := by
  rw [call_I (by decide) h102]
  refine pureG_flat (by have h1 : flatL (b.map vByte.enc) = true := flatL_map (fun _ => rfl) b; simp [flatL, AV.flat, h1]) ?_
  have := vList_dec dByte_enc' ex b
  show ((vList vByte).dec (.lst ex 1 b.length (b.map vByte.enc))).bind _ = _
  rw [this]
  simp [vInt, dInt, hl, hp]
end Go.AM.X
namespace Go.AM.X
open Go Go.AM Go.Proofs Go.AM.Sx
set_option maxHeartbeats 400000
set_option maxRecDepth 100000
set_option linter.unusedVariables false
theorem F104 : F 104 = some { body := (Try.f104.body.getD .skip), results := Try.f104.results.toList, rf := false } := by kernel_rfl
theorem R104 : regsOk T (Try.f104.body.getD .skip) = true := by kernel_rfl
theorem F68 : F 68 = some { body := (Try.f68.body.getD .skip), results := Try.f68.results.toList, rf := false } := by kernel_rfl
theorem R68 : regsOk T (Try.f68.body.getD .skip) = true := by kernel_rfl
theorem F69 : F 69 = some { body := (Try.f69.body.getD .skip), results := Try.f69.results.toList, rf := false } := by kernel_rfl
theorem R69 : regsOk T (Try.f69.body.getD .skip) = true := by kernel_rfl
theorem F70 : F 70 = some { body := (Try.f70.body.getD .skip), results := Try.f70.results.toList, rf := false } := by kernel_rfl
theorem R70 : regsOk T (Try.f70.body.getD .skip) = true := by kernel_rfl
theorem F74 : F 74 = some { body := (Try.f74.body.getD .skip), results := Try.f74.results.toList, rf := false } := by kernel_rfl
theorem R74 : regsOk T (Try.f74.body.getD .skip) = true := by kernel_rfl
theorem setF_setF {α : Type} : ∀ (k : Nat) (t : PT α) (n : Nat) (x y : α), PT.setF k (PT.setF k t n x) n y = PT.setF k t n y
  | 0, _, _, _, _ => rfl
  | k + 1, .leaf, n, x, y => by
    cases h0 : Nat.beq n 0 <;> cases h1 : Nat.beq (n % 2) 1 <;> simp only [PT.setF, h0, h1, setF_setF k]
  | k + 1, .node v l r, n, x, y => by
    cases h0 : Nat.beq n 0 <;> cases h1 : Nat.beq (n % 2) 1 <;> simp only [PT.setF, h0, h1, setF_setF k]
theorem setF_self {α : Type} : ∀ (k : Nat) (t : PT α) (n : Nat) (x : α), t.get n = some x → PT.setF k t n x = t
  | 0, _, _, _, _ => rfl
  | k + 1, .leaf, n, x, h => by simp [PT.get] at h
  | k + 1, .node v l r, n, x, h => by
    cases h0 : Nat.beq n 0 with
    | true => simp only [PT.get, h0] at h; simp only [PT.setF, h0, h]
    | false =>
      cases h1 : Nat.beq (n % 2) 1 <;> simp only [PT.get, h0, h1] at h <;> simp only [PT.setF, h0, h1, setF_self k _ _ _ h]
theorem put_put (h : AH) (b : Nat) (x y : AB) : (h.put b x).put b y = h.put b y := by
  simp only [AH.put, PT.set, setF_setF]
theorem put_self {h : AH} {b : Nat} {x : AB} (hb : h.get b = some x) : h.put b x = h := by
  simp only [AH.put, PT.set, setF_self _ _ _ _ hb]
theorem st_at {h : AH} {q : Nat} {a b c v : AV} : stm (some (.cells [a, b, c] .own)) h q 1 v = some (h.put q (.cells [a, v, c] .own)) := (rfl)
theorem st_er {h : AH} {q : Nat} {a b c v : AV} : stm (some (.cells [a, b, c] .own)) h q 2 v = some (h.put q (.cells [a, b, v] .own)) := (rfl)
/-- A text in bytes. -/
def textS (b : List UInt8) (p : Int) : List UInt8 × Int × Int :=
  if 0 ≤ p ∧ p ≤ b.length then
    match b[p.toNat]? with
    | none => ([], 0, 6)
    | some c => if 31 < c.toNat then ([], 0, 3) else if b.length < p.toNat + 1 + c.toNat then ([], 0, 6) else ((b.drop (p.toNat + 1)).take c.toNat, ((p.toNat + 1 + c.toNat : Nat) : Int), 0)
  else ([], 0, 2)
def t3t (x : List UInt8 × Int × Int) : AV := .tup [.str x.1, .int .i64 x.2.1, .int .i64 x.2.2]
theorem getS_1 {b : List UInt8} {q : Nat} (hq : q < b.length) : getS b q 1 = (((b[q].toNat : Nat) : Int), ((q + 1 : Nat) : Int), 0) := by
  have h1 : (b.drop q).take 1 = [b[q]] := by rw [drop_cons hq]; rfl
  have h2 : ¬ ((b.length : Int) - (q : Int) < 1) := by omega
  have h3 : (q : Int) ≤ b.length := by omega
  simp [getS, isWidth, h2, h3, h1, beN]
theorem getS_1e {b : List UInt8} {q : Nat} (hq : q = b.length) : getS b q 1 = (0, 0, 6) := by
  subst hq
  simp [getS, isWidth]
theorem back_bytes {l : List UInt8} : bytesOf (l.map vByte.enc) = some l := bytesOf_ofBytes l
theorem K104 {I : Nat → Option (List AV → AH → Rs)} (h102 : I 102 = some (pureG g102)) (h104 : I 104 = none) (m : Nat) (b : List UInt8) (ex : Bool) (p : Int) (h : AH) (hl : b.length < 140737488355328) (hp : 0 ≤ p ∧ p ≤ b.length) :
    call F I T (m + 2) 104 [.lst ex 1 b.length (b.map vByte.enc), .int .i64 p] h = some (t3t (textS b p), h) := by
  obtain ⟨q, rfl⟩ : ∃ q : Nat, p = q := ⟨p.toNat, by omega⟩
  have hq : q ≤ b.length := by omega
  rw [call_F (by decide) h104 F104 rfl R104]; simp only [Try.f104, Option.getD]
  have k1 := fun m => K102 h102 m b ex q 1 h hl hp
  by_cases he : q < b.length
  · rw [getS_1 he] at k1
    have c0 : b[q]? = some b[q] := List.getElem?_eq_getElem he
    have hb1 := byte_lt b[q]
    by_cases c1 : (31 : Int) < (b[q].toNat : Nat)
    · simp +contextual (maxSteps := 3000000) only [↓code_skip, ↓code_seq, ↓code_region, ↓code_cond, ↓code_block, ↓code_ret, aCond_bool, ↓ops_nil, ↓ops_cons, run_none, ↓run0_v, ↓run0_r, ↓seqK_normal, ↓seqK_ret, ↓blkK_normal, ↓blkK_ret, ↓retK_ret, put_same, put_ne, env0_at, ev_tmp, ev_const, ev_func, oc_int, oc_str, o_move, o_assign, o_bin, o_call, o_len, o_convert, o_slice, o_extract, g_none, bin_add, bin_sub, bin_neq, bin_lss, bin_gtr, extract_tup, resultsOf, oneOrAll, Option.map_some, Option.map_none, Option.getD_some, ↓reduceIte, Nat.reduceEqDiff, not_false_eq_true, not_true_eq_false, reduceCtorEq, List.getElem?_cons_zero, List.getElem?_cons_succ, List.map_cons, List.map_nil, List.append_nil, List.nil_append, gt_iff_lt, Bool.not_eq_eq_eq_not, Bool.not_true, Bool.not_false, ne_eq, decide_eq_false_iff_not, len_lst T25 d25, callV_fn (g := 102) (by decide), k1, t3, c1]
      simp [textS, hq, c0, t3t, show 31 < b[q].toNat by omega]
    · have c2 : IntKind.i64.wrap ((b.length : Int) - ((q + 1 : Nat) : Int)) = (b.length : Int) - ((q + 1 : Nat) : Int) := wrap_i64 (by omega) (by omega)
      by_cases c3 : (b.length : Int) - ((q + 1 : Nat) : Int) < ((b[q].toNat : Nat) : Int)
      · simp +contextual (maxSteps := 3000000) only [↓code_seq, ↓code_region, ↓code_cond, ↓code_block, ↓code_ret, aCond_bool, ↓ops_nil, ↓ops_cons, run_none, ↓run0_v, ↓run0_r, ↓seqK_normal, ↓seqK_ret, ↓blkK_ret, ↓retK_ret, put_same, put_ne, env0_at, ev_tmp, ev_const, ev_func, oc_int, oc_str, o_move, o_assign, o_bin, o_call, o_len, o_extract, g_none, bin_sub, bin_neq, bin_lss, bin_gtr, extract_tup, resultsOf, oneOrAll, Option.map_some, Option.getD_some, decide_eq_true_eq, ↓reduceIte, Nat.reduceEqDiff, not_false_eq_true, not_true_eq_false, reduceCtorEq, List.getElem?_cons_zero, List.getElem?_cons_succ, List.map_cons, List.map_nil, List.append_nil, List.nil_append, gt_iff_lt, Bool.not_eq_eq_eq_not, Bool.not_true, ne_eq, decide_eq_false_iff_not, len_lst T25 d25, callV_fn (g := 102) (by decide), k1, t3, c1, c2, c3]
        simp [textS, hq, c0, t3t, show ¬ 31 < b[q].toNat by omega, show b.length < q + 1 + b[q].toNat by omega]
      · have c4 : IntKind.i64.wrap (((q + 1 : Nat) : Int) + ((b[q].toNat : Nat) : Int)) = ((q + 1 + b[q].toNat : Nat) : Int) := by rw [wrap_i64 (by omega) (by omega)]; omega
        have c5 := sl_mid (f := vByte.enc) (l := b) (ex := ex) (lo := q + 1) (hi := q + 1 + b[q].toNat) T25 d25 T5 s5 (by omega) (by omega)
        rw [show q + 1 + b[q].toNat - (q + 1) = b[q].toNat by omega] at c5
        simp +contextual (maxSteps := 3000000) only [↓code_skip, ↓code_seq, ↓code_region, ↓code_cond, ↓code_block, ↓code_ret, aCond_bool, ↓ops_nil, ↓ops_cons, run_none, ↓run0_v, ↓run0_r, ↓seqK_normal, ↓blkK_normal, ↓retK_ret, put_same, put_ne, env0_at, ev_tmp, ev_const, ev_func, oc_int, oc_str, o_move, o_assign, o_bin, o_call, o_len, o_convert, o_slice, o_extract, g_none, bin_add, bin_sub, bin_neq, bin_lss, bin_gtr, extract_tup, resultsOf, oneOrAll, Option.map_some, Option.map_none, Option.getD_some, decide_eq_true_eq, ↓reduceIte, Nat.reduceEqDiff, not_false_eq_true, not_true_eq_false, reduceCtorEq, List.getElem?_cons_zero, List.getElem?_cons_succ, List.map_cons, List.map_nil, List.append_nil, List.nil_append, gt_iff_lt, Bool.not_eq_eq_eq_not, Bool.not_true, ne_eq, decide_eq_false_iff_not, len_lst T25 d25, conv_back T25 T9 d9 d25 T5 d5 s5, callV_fn (g := 102) (by decide), k1, t3, c1, c2, c3, c4, c5, back_bytes]
        simp [textS, hq, c0, t3t, show ¬ 31 < b[q].toNat by omega, show ¬ b.length < q + 1 + b[q].toNat by omega]
  · rw [getS_1e (show q = b.length by omega)] at k1
    have c0 : b[q]? = none := List.getElem?_eq_none (by omega)
    simp +contextual (maxSteps := 3000000) only [↓code_skip, ↓code_seq, ↓code_region, ↓code_cond, ↓code_block, ↓code_ret, aCond_bool, ↓ops_nil, ↓ops_cons, run_none, ↓run0_v, ↓run0_r, ↓seqK_normal, ↓seqK_ret, ↓blkK_normal, ↓blkK_ret, ↓retK_ret, put_same, put_ne, env0_at, ev_tmp, ev_const, ev_func, oc_int, oc_str, o_move, o_assign, o_bin, o_call, o_len, o_convert, o_slice, o_extract, g_none, bin_add, bin_sub, bin_neq, bin_lss, bin_gtr, extract_tup, resultsOf, oneOrAll, Option.map_some, Option.map_none, Option.getD_some, decide_eq_true_eq, Nat.reduceEqDiff, not_false_eq_true, reduceCtorEq, List.getElem?_cons_zero, List.getElem?_cons_succ, List.map_cons, List.map_nil, List.append_nil, List.nil_append, gt_iff_lt, Bool.not_eq_eq_eq_not, Bool.not_true, ne_eq, decide_eq_false_iff_not, len_lst T25 d25, callV_fn (g := 102) (by decide), k1, t3]
    simp [textS, hq, c0, t3t]
/-- The block of a reader. -/
def rd (ex : Bool) (b : List UInt8) (p e : Int) : AB := .cells [.lst ex 1 b.length (b.map vByte.enc), .int .i64 p, .int .i64 e] .own
def ok (b : List UInt8) (p e : Int) : Prop := e = 0 → 0 ≤ p ∧ p ≤ b.length
def netS (b : List UInt8) (p e : Int) : Int × Int × Int :=
  if e = 0 then ((getS b p 2).1, (getS b p 2).2.1, if (getS b p 2).2.2 = 0 ∧ isNet (getS b p 2).1 = false then 3 else (getS b p 2).2.2) else (0, p, e)
def zoneS (b : List UInt8) (p e : Int) : List UInt8 × Int × Int :=
  if e = 0 then ((textS b p).1, (textS b p).2.1, if (textS b p).2.2 = 0 ∧ isZone (textS b p).1 = false then 3 else (textS b p).2.2) else ([], p, e)
def endS (b : List UInt8) (p e : Int) : Int := if e = 0 ∧ p ≠ b.length then 3 else e
theorem K70 {I : Nat → Option (List AV → AH → Rs)} (h70 : I 70 = none) (m : Nat) (b : List UInt8) (ex : Bool) (p e : Int) (q : Nat) (h : AH) (hb : h.get q = some (rd ex b p e)) :
    call F I T (m + 1) 70 [.ptr q 0] h = some (.int .i64 (endS b p e), h.put q (rd ex b p (endS b p e))) := by
  have hb' := hb
  unfold rd at hb'
  rw [call_F (by decide) h70 F70 rfl R70]; simp only [Try.f70, Option.getD]
  by_cases he : e = 0
  · by_cases hp : p = b.length
    · simp +contextual (maxSteps := 3000000) only [↓code_skip, ↓code_seq, ↓code_region, ↓code_cond, ↓code_ret, aCond_bool, ↓ops_nil, ↓ops_cons, run_none, run_someT, ↓run0_v, ↓seqK_normal, ↓retK_ret, put_same, put_ne, env0_at, ev_tmp, ev_const, oc_int, oc_bool, o_move, o_assign, o_pick, o_bin, o_len, o_load, o_nilCheck, o_fieldAddr, g_none, g_some, pick_bool, bin_eql, bin_neq, nil_ptr, resultsOf, oneOrAll, Option.bind_some, Option.map_some, Option.getD_some, decide_eq_true_eq, ↓reduceIte, Nat.reduceEqDiff, not_false_eq_true, not_true_eq_false, Nat.reduceAdd, reduceCtorEq, List.getElem?_cons_zero, List.getElem?_cons_succ, List.getElem?_toArray, Bool.not_eq_eq_eq_not, Bool.not_true, ne_eq, decide_eq_false_iff_not, fa_ptr T88 p88_2 (by decide), load_p1 T26 a26, loadc_def, fa_ptr T88 p88_1 (by decide), load_p1 T3 a3, fa_ptr T88 p88_0 (by decide), load_p1 T25 a25, len_lst T25 d25, hb', he, hp]
      simp [endS]
      subst he
      rw [← hp, put_self hb]
    · simp +contextual (maxSteps := 3000000) only [↓code_seq, ↓code_region, ↓code_cond, ↓code_ret, aCond_bool, ↓ops_nil, ↓ops_cons, run_none, run_someT, ↓run0_v, ↓run0_h, ↓seqK_normal, ↓retK_ret, put_same, put_ne, put_none, env0_at, ev_tmp, ev_const, oc_int, oc_bool, o_move, o_assign, o_pick, o_bin, o_len, o_load, o_store, o_nilCheck, o_fieldAddr, g_none, g_some, pick_bool, bin_eql, bin_neq, nil_ptr, resultsOf, oneOrAll, Option.bind_some, Option.map_some, Option.getD_some, decide_eq_true_eq, ↓reduceIte, Nat.reduceEqDiff, not_false_eq_true, Nat.reduceAdd, reduceCtorEq, List.getElem?_cons_zero, List.getElem?_cons_succ, List.getElem?_toArray, AH.get_put, Bool.not_eq_eq_eq_not, Bool.not_true, ne_eq, decide_eq_false_iff_not, fa_ptr T88 p88_2 (by decide), load_p1 T26 a26, loadc_def, fa_ptr T88 p88_1 (by decide), load_p1 T3 a3, fa_ptr T88 p88_0 (by decide), load_p1 T25 a25, len_lst T25 d25, st_int T26 s26, run0_h, st_er, hb', he, hp]
      simp [endS, hp, rd]
  · simp +contextual (maxSteps := 3000000) only [↓code_skip, ↓code_seq, ↓code_region, ↓code_cond, ↓code_ret, aCond_bool, ↓ops_nil, ↓ops_cons, run_none, run_someT, ↓run0_v, ↓seqK_normal, ↓retK_ret, put_same, put_ne, env0_at, ev_tmp, ev_const, oc_int, oc_bool, o_move, o_assign, o_pick, o_bin, o_len, o_load, o_nilCheck, o_fieldAddr, g_none, g_some, pick_bool, bin_eql, nil_ptr, resultsOf, oneOrAll, Option.bind_some, Option.map_some, Option.getD_some, decide_eq_true_eq, ↓reduceIte, Nat.reduceEqDiff, not_false_eq_true, Nat.reduceAdd, reduceCtorEq, List.getElem?_cons_zero, List.getElem?_cons_succ, List.getElem?_toArray, Bool.false_eq_true, ne_eq, fa_ptr T88 p88_2 (by decide), load_p1 T26 a26, loadc_def, hb', he]
    simp [endS, he, put_self hb]
theorem getS_2 {b : List UInt8} {p n : Int} (h : 0 ≤ p ∧ p ≤ b.length) (hn : n = 1 ∨ n = 2) : (getS b p n).2.2 = 0 → 0 ≤ (getS b p n).2.1 ∧ (getS b p n).2.1 ≤ b.length := by
  have h1 : isWidth n = true := by rcases hn with rfl | rfl <;> decide
  simp only [getS, h1, h, and_self, if_true]
  by_cases hc : (b.length : Int) - p < n
  · simp [hc]
  · rw [if_neg hc]; simp only; intro _; omega
theorem textS_ok {b : List UInt8} {p : Int} : (textS b p).2.2 = 0 → 0 ≤ (textS b p).2.1 ∧ (textS b p).2.1 ≤ b.length := by
  unfold textS
  split
  · split
    · simp
    · split
      · simp
      · split
        · simp
        · simp only; intro _; omega
  · simp
theorem le0 : ((0 : Int) ≤ 0) = True := by simp
theorem le1 : ((0 : Int) ≤ 1) = True := by simp
theorem one0 : ((1 : Int).toNat) = 1 := rfl
theorem z0 : ((0 : Int).toNat) = 0 := rfl
theorem lt0n1 : (((0 : Nat) : Int) < 1) = True := by simp
/-- The first two bytes: the second one, where, the error. -/
def beginS (c : UInt8) : List UInt8 → Int × Int × Int
  | [] => (0, 0, 6)
  | [x] => if x = c then (0, 0, 6) else (0, 0, 3)
  | x :: y :: _ => if x = c then (if 1 ≤ y.toNat ∧ y.toNat ≤ 100 then ((y.toNat : Nat), 2, 0) else (0, 2, 3)) else (0, 0, 3)
theorem K68 {I : Nat → Option (List AV → AH → Rs)} (h68 : I 68 = none) (m : Nat) (b : List UInt8) (ex : Bool) (c : UInt8) (q : Nat) (h : AH) (hb : h.get q = some (rd ex b 0 0)) :
    call F I T (m + 1) 68 [.ptr q 0, .int .u8 (c.toNat : Nat)] h = some (.int .i64 (beginS c b).1, h.put q (rd ex b (beginS c b).2.1 (beginS c b).2.2)) := by
  have hb' := hb
  unfold rd at hb'
  rw [call_F (by decide) h68 F68 rfl R68]; simp only [Try.f68, Option.getD]
  have hc : ∀ x : UInt8, (((x.toNat : Nat) : Int) = ((c.toNat : Nat) : Int)) = (x = c) := fun x => propext ⟨fun h => UInt8.toNat_inj.1 (by omega), fun h => by rw [h]⟩
  have hv : ∀ x : UInt8, vByte.enc x = .int .u8 (x.toNat : Nat) := fun _ => rfl
  rcases b with _ | ⟨x, _ | ⟨y, t⟩⟩
  · simp only [List.length_nil, List.map_nil] at hb'
    simp +contextual (maxSteps := 3000000) only [↓code_seq, ↓code_region, ↓code_cond, ↓code_ret, aCond_bool, ↓ops_nil, ↓ops_cons, run_none, ↓run0_v, ↓run0_h, ↓seqK_normal, ↓seqK_ret, ↓retK_ret, put_same, put_ne, put_none, env0_at, ev_tmp, ev_const, oc_int, o_move, o_assign, o_bin, o_len, o_load, o_store, o_nilCheck, o_fieldAddr, g_none, bin_lss, nil_ptr, resultsOf, oneOrAll, Option.map_some, Option.getD_some, decide_eq_true_eq, ↓reduceIte, not_false_eq_true, Nat.reduceAdd, reduceCtorEq, List.getElem?_cons_zero, ne_eq, fa_ptr T88 p88_0 (by decide), load_p1 T25 a25, loadc_def, len_lst T25 d25, fa_ptr T88 p88_2 (by decide), st_int T26 s26, run0_h, st_er, hb', lt0n1]
    simp [beginS, rd]
  · simp only [List.length_cons, List.length_nil, List.map_cons, List.map_nil, hv] at hb'
    obtain ⟨L, hL⟩ : ∃ L : Nat, 0 + 1 = L := ⟨1, rfl⟩
    rw [hL] at hb'
    have n1 : ¬ ((L : Int) < 1) := by omega
    have n2 : (L : Int) < 2 := by omega
    have n3 : (0 : Int) < (L : Int) := by omega
    by_cases hx : x = c
    · simp +contextual (maxSteps := 3000000) only [↓code_skip, ↓code_seq, ↓code_region, ↓code_cond, ↓code_ret, aCond_bool, ↓ops_nil, ↓ops_cons, run_none, ↓run0_v, ↓run0_h, ↓seqK_normal, ↓seqK_ret, ↓retK_ret, put_same, put_ne, put_none, env0_at, ev_tmp, ev_const, oc_int, o_move, o_assign, o_bin, o_len, o_load, o_store, o_nilCheck, o_fieldAddr, o_indexAddr, g_none, bin_neq, bin_lss, nil_ptr, resultsOf, oneOrAll, Option.map_some, Option.getD_some, decide_eq_true_eq, ↓reduceIte, Nat.reduceEqDiff, not_false_eq_true, not_true_eq_false, Nat.reduceAdd, reduceCtorEq, List.getElem?_cons_zero, List.getElem?_cons_succ, and_true, Bool.not_eq_eq_eq_not, Bool.not_true, ne_eq, decide_eq_false_iff_not, fa_ptr T88 p88_0 (by decide), load_p1 T25 a25, loadc_def, len_lst T25 d25, fa_ptr T88 p88_2 (by decide), st_int T26 s26, run0_h, ia_lst T25 d25 T5 s5, load_fp1 T5 a5, st_er, hb', hx, z0, le0, List.drop_zero, Nat.zero_mul, n1, n2, n3]
      simp [beginS, rd, hv, ← hL]
    · simp +contextual (maxSteps := 3000000) only [↓code_skip, ↓code_seq, ↓code_region, ↓code_cond, ↓code_ret, aCond_bool, ↓ops_nil, ↓ops_cons, run_none, ↓run0_v, ↓run0_h, ↓seqK_normal, ↓seqK_ret, ↓retK_ret, put_same, put_ne, put_none, env0_at, ev_tmp, ev_const, oc_int, o_move, o_assign, o_bin, o_len, o_load, o_store, o_nilCheck, o_fieldAddr, o_indexAddr, g_none, bin_neq, bin_lss, nil_ptr, resultsOf, oneOrAll, Option.map_some, Option.getD_some, decide_eq_true_eq, ↓reduceIte, Nat.reduceEqDiff, not_false_eq_true, Nat.reduceAdd, reduceCtorEq, List.getElem?_cons_zero, List.getElem?_cons_succ, and_true, Bool.not_eq_eq_eq_not, Bool.not_true, ne_eq, decide_eq_false_iff_not, fa_ptr T88 p88_0 (by decide), load_p1 T25 a25, loadc_def, len_lst T25 d25, fa_ptr T88 p88_2 (by decide), st_int T26 s26, run0_h, ia_lst T25 d25 T5 s5, load_fp1 T5 a5, st_er, hb', hc, hx, z0, le0, List.drop_zero, Nat.zero_mul, n1, n3]
      simp [beginS, hx, rd, hv, ← hL]
  · simp only [List.length_cons, List.map_cons, hv] at hb'
    have n1 : ¬ (((t.length + 1 + 1 : Nat) : Int) < 1) := by omega
    have n2 : ¬ (((t.length + 1 + 1 : Nat) : Int) < 2) := by omega
    have n3 : (0 : Int) < ((t.length + 1 + 1 : Nat) : Int) := by omega
    have n4 : (1 : Int) < ((t.length + 1 + 1 : Nat) : Int) := by omega
    by_cases hx : x = c
    · have hw : IntKind.i64.wrap ((y.toNat : Nat) : Int) = ((y.toNat : Nat) : Int) := by have := byte_lt y; exact wrap_i64 (by omega) (by omega)
      by_cases h1 : (1 : Int) ≤ ((y.toNat : Nat) : Int)
      · by_cases h2 : ((y.toNat : Nat) : Int) ≤ 100
        · simp +contextual (maxSteps := 3000000) only [↓code_skip, ↓code_seq, ↓code_region, ↓code_cond, ↓code_ret, aCond_bool, ↓ops_nil, ↓ops_cons, run_none, run_someT, ↓run0_v, ↓run0_h, ↓run0_r, ↓seqK_normal, ↓seqK_ret, ↓retK_ret, put_same, put_ne, put_none, env0_at, ev_tmp, ev_const, oc_int, oc_bool, o_move, o_assign, o_pick, o_bin, o_len, o_load, o_store, o_nilCheck, o_convert, o_fieldAddr, o_indexAddr, g_none, g_some, pick_bool, bin_neq, bin_lss, bin_leq, bin_geq, nil_ptr, resultsOf, oneOrAll, Option.bind_some, Option.map_some, Option.getD_some, decide_eq_true_eq, ↓reduceIte, Nat.reduceEqDiff, not_false_eq_true, not_true_eq_false, Nat.reduceAdd, Nat.reduceMul, reduceCtorEq, List.getElem?_cons_zero, List.getElem?_cons_succ, List.getElem?_toArray, AH.get_put, and_true, ge_iff_le, Bool.not_eq_eq_eq_not, Bool.not_true, ne_eq, decide_eq_false_iff_not, fa_ptr T88 p88_0 (by decide), load_p1 T25 a25, loadc_def, len_lst T25 d25, run0_h, ia_lst T25 d25 T5 s5, load_fp1 T5 a5, fa_ptr T88 p88_1 (by decide), st_int T3 s3, conv_int T5 T3 d3, st_at, hb', hx, one0, z0, le0, le1, List.drop_zero, List.drop_succ_cons, Nat.zero_mul, n1, n2, n3, n4, hw, h1, h2]
          simp [beginS, rd, hv, show 1 ≤ y.toNat by omega, show y.toNat ≤ 100 by omega]
        · simp +contextual (maxSteps := 3000000) only [↓code_skip, ↓code_seq, ↓code_region, ↓code_cond, ↓code_ret, aCond_bool, ↓ops_nil, ↓ops_cons, run_none, run_someT, ↓run0_v, ↓run0_h, ↓run0_r, ↓seqK_normal, ↓retK_ret, put_same, put_ne, put_none, env0_at, ev_tmp, ev_const, oc_int, oc_bool, o_move, o_assign, o_pick, o_bin, o_len, o_load, o_store, o_nilCheck, o_convert, o_fieldAddr, o_indexAddr, g_none, g_some, pick_bool, bin_neq, bin_lss, bin_leq, bin_geq, nil_ptr, resultsOf, oneOrAll, Option.bind_some, Option.map_some, Option.getD_some, decide_eq_true_eq, ↓reduceIte, Nat.reduceEqDiff, not_false_eq_true, not_true_eq_false, Nat.reduceAdd, Nat.reduceMul, reduceCtorEq, List.getElem?_cons_zero, List.getElem?_cons_succ, List.getElem?_toArray, AH.get_put, and_true, ge_iff_le, Bool.not_eq_eq_eq_not, Bool.not_true, ne_eq, decide_eq_false_iff_not, fa_ptr T88 p88_0 (by decide), load_p1 T25 a25, loadc_def, len_lst T25 d25, fa_ptr T88 p88_2 (by decide), st_int T26 s26, run0_h, ia_lst T25 d25 T5 s5, load_fp1 T5 a5, fa_ptr T88 p88_1 (by decide), st_int T3 s3, conv_int T5 T3 d3, st_at, st_er, hb', hx, one0, z0, le0, le1, List.drop_zero, List.drop_succ_cons, Nat.zero_mul, n1, n2, n3, n4, hw, h1, h2]
          simp [beginS, rd, hv, show ¬ y.toNat ≤ 100 by omega, put_put]
      · simp +contextual (maxSteps := 3000000) only [↓code_skip, ↓code_seq, ↓code_region, ↓code_cond, ↓code_ret, aCond_bool, ↓ops_nil, ↓ops_cons, run_none, run_someT, ↓run0_v, ↓run0_h, ↓run0_r, ↓seqK_normal, ↓retK_ret, put_same, put_ne, put_none, env0_at, ev_tmp, ev_const, oc_int, oc_bool, o_move, o_assign, o_pick, o_bin, o_len, o_load, o_store, o_nilCheck, o_convert, o_fieldAddr, o_indexAddr, g_none, g_some, pick_bool, bin_neq, bin_lss, bin_geq, nil_ptr, resultsOf, oneOrAll, Option.bind_some, Option.map_some, Option.getD_some, decide_eq_true_eq, ↓reduceIte, Nat.reduceEqDiff, not_false_eq_true, not_true_eq_false, Nat.reduceAdd, Nat.reduceMul, reduceCtorEq, List.getElem?_cons_zero, List.getElem?_cons_succ, List.getElem?_toArray, Bool.false_eq_true, AH.get_put, and_true, ge_iff_le, Bool.not_eq_eq_eq_not, Bool.not_true, ne_eq, decide_eq_false_iff_not, fa_ptr T88 p88_0 (by decide), load_p1 T25 a25, loadc_def, len_lst T25 d25, fa_ptr T88 p88_2 (by decide), st_int T26 s26, run0_h, ia_lst T25 d25 T5 s5, load_fp1 T5 a5, fa_ptr T88 p88_1 (by decide), st_int T3 s3, conv_int T5 T3 d3, st_at, st_er, hb', hx, one0, z0, le0, le1, List.drop_zero, List.drop_succ_cons, Nat.zero_mul, n1, n2, n3, n4, hw, h1]
        simp [beginS, rd, hv, show ¬ 1 ≤ y.toNat by omega, put_put]
    · simp +contextual (maxSteps := 3000000) only [↓code_skip, ↓code_seq, ↓code_region, ↓code_cond, ↓code_ret, aCond_bool, ↓ops_nil, ↓ops_cons, run_none, ↓run0_v, ↓run0_h, ↓seqK_normal, ↓seqK_ret, ↓retK_ret, put_same, put_ne, put_none, env0_at, ev_tmp, ev_const, oc_int, o_move, o_assign, o_bin, o_len, o_load, o_store, o_nilCheck, o_fieldAddr, o_indexAddr, g_none, bin_neq, bin_lss, nil_ptr, resultsOf, oneOrAll, Option.map_some, Option.getD_some, decide_eq_true_eq, ↓reduceIte, Nat.reduceEqDiff, not_false_eq_true, Nat.reduceAdd, reduceCtorEq, List.getElem?_cons_zero, List.getElem?_cons_succ, and_true, Bool.not_eq_eq_eq_not, Bool.not_true, ne_eq, decide_eq_false_iff_not, fa_ptr T88 p88_0 (by decide), load_p1 T25 a25, loadc_def, len_lst T25 d25, fa_ptr T88 p88_2 (by decide), st_int T26 s26, run0_h, ia_lst T25 d25 T5 s5, load_fp1 T5 a5, st_er, hb', hc, hx, z0, le0, List.drop_zero, Nat.zero_mul, n1, n3]
      simp [beginS, hx, rd, hv]
theorem K69 {I : Nat → Option (List AV → AH → Rs)} (h51 : I 51 = none) (h102 : I 102 = some (pureG g102)) (h69 : I 69 = none) (m : Nat) (b : List UInt8) (ex : Bool) (p e : Int) (q : Nat) (h : AH) (hl : b.length < 140737488355328) (ho : ok b p e) (hb : h.get q = some (rd ex b p e)) :
    call F I T (m + 2) 69 [.ptr q 0] h = some (.int .i64 (netS b p e).1, h.put q (rd ex b (netS b p e).2.1 (netS b p e).2.2)) := by
  have hb' := hb
  unfold rd at hb'
  rw [call_F (by decide) h69 F69 rfl R69]; simp only [Try.f69, Option.getD]
  by_cases he : e = 0
  · have k1 := fun m => K102 h102 m b ex p 2 h hl (ho he)
    obtain ⟨v, at', e', hg⟩ : ∃ v a' e', getS b p 2 = (v, a', e') := ⟨_, _, _, rfl⟩
    rw [hg] at k1
    by_cases h1 : e' = 0
    · cases h2 : isNet v with
      | true =>
        simp +contextual (maxSteps := 3000000) only [↓code_skip, ↓code_seq, ↓code_region, ↓code_cond, ↓code_ret, aCond_bool, ↓ops_nil, ↓ops_cons, run_none, run_someT, ↓run0_v, ↓run0_h, ↓run0_r, ↓seqK_normal, ↓retK_ret, put_same, put_ne, put_none, env0_at, ev_tmp, ev_const, ev_func, oc_int, oc_bool, o_move, o_assign, o_pick, o_bin, o_call, o_load, o_store, o_nilCheck, o_un, o_fieldAddr, o_extract, g_none, g_some, pick_bool, bin_eql, bin_neq, un_not, extract_tup, nil_ptr, resultsOf, oneOrAll, Option.bind_some, Option.map_some, Option.getD_some, decide_eq_true_eq, ↓reduceIte, Nat.reduceEqDiff, not_false_eq_true, not_true_eq_false, Nat.reduceAdd, reduceCtorEq, List.getElem?_cons_zero, List.getElem?_cons_succ, List.getElem?_toArray, Bool.false_eq_true, List.map_cons, List.map_nil, List.append_nil, List.nil_append, AH.get_put, Bool.not_eq_eq_eq_not, Bool.not_true, ne_eq, decide_eq_false_iff_not, fa_ptr T88 p88_2 (by decide), load_p1 T26 a26, loadc_def, fa_ptr T88 p88_0 (by decide), load_p1 T25 a25, fa_ptr T88 p88_1 (by decide), load_p1 T3 a3, st_int T3 s3, run0_h, st_int T26 s26, callV_fn (g := 51) (by decide), K51 h51, callV_fn (g := 102) (by decide), st_at, st_er, hb', he, k1, t3, h1, h2]
        simp [netS, hg, h1, h2, rd, put_put]
      | false =>
        simp +contextual (maxSteps := 3000000) only [↓code_skip, ↓code_seq, ↓code_region, ↓code_cond, ↓code_ret, aCond_bool, ↓ops_nil, ↓ops_cons, run_none, run_someT, ↓run0_v, ↓run0_h, ↓run0_r, ↓seqK_normal, ↓retK_ret, put_same, put_ne, put_none, env0_at, ev_tmp, ev_const, ev_func, oc_int, oc_bool, o_move, o_assign, o_pick, o_bin, o_call, o_load, o_store, o_nilCheck, o_un, o_fieldAddr, o_extract, g_none, g_some, pick_bool, bin_eql, bin_neq, un_not, extract_tup, nil_ptr, resultsOf, oneOrAll, Option.bind_some, Option.map_some, Option.getD_some, decide_eq_true_eq, ↓reduceIte, Nat.reduceEqDiff, not_false_eq_true, not_true_eq_false, Nat.reduceAdd, reduceCtorEq, List.getElem?_cons_zero, List.getElem?_cons_succ, List.getElem?_toArray, List.map_cons, List.map_nil, List.append_nil, List.nil_append, AH.get_put, Bool.not_eq_eq_eq_not, Bool.not_true, Bool.not_false, ne_eq, decide_eq_false_iff_not, fa_ptr T88 p88_2 (by decide), load_p1 T26 a26, loadc_def, fa_ptr T88 p88_0 (by decide), load_p1 T25 a25, fa_ptr T88 p88_1 (by decide), load_p1 T3 a3, st_int T3 s3, run0_h, st_int T26 s26, callV_fn (g := 51) (by decide), K51 h51, callV_fn (g := 102) (by decide), st_at, st_er, hb', he, k1, t3, h1, h2]
        simp [netS, hg, h1, h2, rd, put_put]
    · simp +contextual (maxSteps := 3000000) only [↓code_skip, ↓code_seq, ↓code_region, ↓code_cond, ↓code_ret, aCond_bool, ↓ops_nil, ↓ops_cons, run_none, run_someT, ↓run0_v, ↓run0_h, ↓run0_r, ↓seqK_normal, ↓retK_ret, put_same, put_ne, put_none, env0_at, ev_tmp, ev_const, ev_func, oc_int, oc_bool, o_move, o_assign, o_pick, o_bin, o_call, o_load, o_store, o_nilCheck, o_un, o_fieldAddr, o_extract, g_none, g_some, pick_bool, bin_eql, bin_neq, extract_tup, nil_ptr, resultsOf, oneOrAll, Option.bind_some, Option.map_some, Option.getD_some, decide_eq_true_eq, ↓reduceIte, Nat.reduceEqDiff, not_false_eq_true, not_true_eq_false, Nat.reduceAdd, reduceCtorEq, List.getElem?_cons_zero, List.getElem?_cons_succ, List.getElem?_toArray, Bool.false_eq_true, List.map_cons, List.map_nil, List.append_nil, List.nil_append, AH.get_put, Bool.not_eq_eq_eq_not, Bool.not_true, ne_eq, decide_eq_false_iff_not, fa_ptr T88 p88_2 (by decide), load_p1 T26 a26, loadc_def, fa_ptr T88 p88_0 (by decide), load_p1 T25 a25, fa_ptr T88 p88_1 (by decide), load_p1 T3 a3, st_int T3 s3, run0_h, st_int T26 s26, callV_fn (g := 51) (by decide), callV_fn (g := 102) (by decide), st_at, st_er, hb', he, k1, t3, h1]
      simp [netS, hg, h1, rd, put_put]
  · simp +contextual (maxSteps := 3000000) only [↓code_seq, ↓code_region, ↓code_cond, ↓code_ret, aCond_bool, ↓ops_nil, ↓ops_cons, run_none, ↓run0_v, ↓seqK_normal, ↓seqK_ret, ↓retK_ret, put_same, put_ne, env0_at, ev_tmp, ev_const, oc_int, o_move, o_assign, o_bin, o_load, o_nilCheck, o_fieldAddr, g_none, bin_neq, nil_ptr, resultsOf, oneOrAll, Option.map_some, Option.getD_some, ↓reduceIte, not_false_eq_true, Nat.reduceAdd, reduceCtorEq, List.getElem?_cons_zero, List.getElem?_cons_succ, Bool.not_eq_eq_eq_not, Bool.not_true, ne_eq, decide_eq_false_iff_not, fa_ptr T88 p88_2 (by decide), load_p1 T26 a26, loadc_def, hb', he]
    simp [netS, he, put_self hb]
theorem K74 {I : Nat → Option (List AV → AH → Rs)} (h22 : I 22 = none) (h102 : I 102 = some (pureG g102)) (h104 : I 104 = none) (h74 : I 74 = none) (m : Nat) (b : List UInt8) (ex : Bool) (p e : Int) (q : Nat) (h : AH) (hl : b.length < 140737488355328) (ho : ok b p e) (hb : h.get q = some (rd ex b p e)) :
    call F I T (m + 3) 74 [.ptr q 0] h = some (.str (zoneS b p e).1, h.put q (rd ex b (zoneS b p e).2.1 (zoneS b p e).2.2)) := by
  have hb' := hb
  unfold rd at hb'
  rw [call_F (by decide) h74 F74 rfl R74]; simp only [Try.f74, Option.getD]
  by_cases he : e = 0
  · have k1 := fun m => K104 h102 h104 m b ex p h hl (ho he)
    obtain ⟨v, at', e', hg⟩ : ∃ v a' e', textS b p = (v, a', e') := ⟨_, _, _, rfl⟩
    rw [hg] at k1
    by_cases h1 : e' = 0
    · cases h2 : isZone v with
      | true =>
        simp +contextual (maxSteps := 3000000) only [↓code_skip, ↓code_seq, ↓code_region, ↓code_cond, ↓code_ret, aCond_bool, ↓ops_nil, ↓ops_cons, run_none, run_someT, ↓run0_v, ↓run0_h, ↓run0_r, ↓seqK_normal, ↓retK_ret, put_same, put_ne, put_none, env0_at, ev_tmp, ev_const, ev_func, oc_int, oc_bool, oc_str, o_move, o_assign, o_pick, o_bin, o_call, o_load, o_store, o_nilCheck, o_un, o_fieldAddr, o_extract, g_none, g_some, pick_bool, bin_eql, bin_neq, un_not, extract_tup, nil_ptr, resultsOf, oneOrAll, Option.bind_some, Option.map_some, Option.getD_some, decide_eq_true_eq, ↓reduceIte, Nat.reduceEqDiff, not_false_eq_true, not_true_eq_false, Nat.reduceAdd, reduceCtorEq, List.getElem?_cons_zero, List.getElem?_cons_succ, List.getElem?_toArray, Bool.false_eq_true, List.map_cons, List.map_nil, List.append_nil, List.nil_append, AH.get_put, Bool.not_eq_eq_eq_not, Bool.not_true, ne_eq, decide_eq_false_iff_not, fa_ptr T88 p88_2 (by decide), load_p1 T26 a26, loadc_def, fa_ptr T88 p88_0 (by decide), load_p1 T25 a25, fa_ptr T88 p88_1 (by decide), load_p1 T3 a3, st_int T3 s3, run0_h, st_int T26 s26, callV_fn (g := 22) (by decide), K22 h22, callV_fn (g := 104) (by decide), st_at, st_er, hb', he, k1, t3t, h1, h2]
        simp [zoneS, hg, h1, h2, rd, put_put]
      | false =>
        simp +contextual (maxSteps := 3000000) only [↓code_skip, ↓code_seq, ↓code_region, ↓code_cond, ↓code_ret, aCond_bool, ↓ops_nil, ↓ops_cons, run_none, run_someT, ↓run0_v, ↓run0_h, ↓run0_r, ↓seqK_normal, ↓retK_ret, put_same, put_ne, put_none, env0_at, ev_tmp, ev_const, ev_func, oc_int, oc_bool, oc_str, o_move, o_assign, o_pick, o_bin, o_call, o_load, o_store, o_nilCheck, o_un, o_fieldAddr, o_extract, g_none, g_some, pick_bool, bin_eql, bin_neq, un_not, extract_tup, nil_ptr, resultsOf, oneOrAll, Option.bind_some, Option.map_some, Option.getD_some, decide_eq_true_eq, ↓reduceIte, Nat.reduceEqDiff, not_false_eq_true, not_true_eq_false, Nat.reduceAdd, reduceCtorEq, List.getElem?_cons_zero, List.getElem?_cons_succ, List.getElem?_toArray, List.map_cons, List.map_nil, List.append_nil, List.nil_append, AH.get_put, Bool.not_eq_eq_eq_not, Bool.not_true, Bool.not_false, ne_eq, decide_eq_false_iff_not, fa_ptr T88 p88_2 (by decide), load_p1 T26 a26, loadc_def, fa_ptr T88 p88_0 (by decide), load_p1 T25 a25, fa_ptr T88 p88_1 (by decide), load_p1 T3 a3, st_int T3 s3, run0_h, st_int T26 s26, callV_fn (g := 22) (by decide), K22 h22, callV_fn (g := 104) (by decide), st_at, st_er, hb', he, k1, t3t, h1, h2]
        simp [zoneS, hg, h1, h2, rd, put_put]
    · simp +contextual (maxSteps := 3000000) only [↓code_skip, ↓code_seq, ↓code_region, ↓code_cond, ↓code_ret, aCond_bool, ↓ops_nil, ↓ops_cons, run_none, run_someT, ↓run0_v, ↓run0_h, ↓run0_r, ↓seqK_normal, ↓retK_ret, put_same, put_ne, put_none, env0_at, ev_tmp, ev_const, ev_func, oc_int, oc_bool, oc_str, o_move, o_assign, o_pick, o_bin, o_call, o_load, o_store, o_nilCheck, o_un, o_fieldAddr, o_extract, g_none, g_some, pick_bool, bin_eql, bin_neq, extract_tup, nil_ptr, resultsOf, oneOrAll, Option.bind_some, Option.map_some, Option.getD_some, decide_eq_true_eq, ↓reduceIte, Nat.reduceEqDiff, not_false_eq_true, not_true_eq_false, Nat.reduceAdd, reduceCtorEq, List.getElem?_cons_zero, List.getElem?_cons_succ, List.getElem?_toArray, Bool.false_eq_true, List.map_cons, List.map_nil, List.append_nil, List.nil_append, AH.get_put, Bool.not_eq_eq_eq_not, Bool.not_true, ne_eq, decide_eq_false_iff_not, fa_ptr T88 p88_2 (by decide), load_p1 T26 a26, loadc_def, fa_ptr T88 p88_0 (by decide), load_p1 T25 a25, fa_ptr T88 p88_1 (by decide), load_p1 T3 a3, st_int T3 s3, run0_h, st_int T26 s26, callV_fn (g := 22) (by decide), callV_fn (g := 104) (by decide), st_at, st_er, hb', he, k1, t3t, h1]
      simp [zoneS, hg, h1, rd, put_put]
  · simp +contextual (maxSteps := 3000000) only [↓code_seq, ↓code_region, ↓code_cond, ↓code_ret, aCond_bool, ↓ops_nil, ↓ops_cons, run_none, ↓run0_v, ↓seqK_normal, ↓seqK_ret, ↓retK_ret, put_same, put_ne, env0_at, ev_tmp, ev_const, oc_int, oc_str, o_move, o_assign, o_bin, o_load, o_nilCheck, o_fieldAddr, g_none, bin_neq, nil_ptr, resultsOf, oneOrAll, Option.map_some, Option.getD_some, ↓reduceIte, not_false_eq_true, Nat.reduceAdd, reduceCtorEq, List.getElem?_cons_zero, List.getElem?_cons_succ, Bool.not_eq_eq_eq_not, Bool.not_true, ne_eq, decide_eq_false_iff_not, fa_ptr T88 p88_2 (by decide), load_p1 T26 a26, loadc_def, hb', he]
    simp [zoneS, he, put_self hb]
/-! the reference's reader -/
end Go.AM.X
namespace Go.AM.X
open Go Go.AM Go.Proofs Go.AM.Sx
set_option maxHeartbeats 400000
set_option maxRecDepth 100000
set_option linter.unusedVariables false
theorem F26 : F 26 = some { body := (Try.f26.body.getD .skip), results := Try.f26.results.toList, rf := false } := by kernel_rfl
theorem R26 : regsOk T (Try.f26.body.getD .skip) = true := by kernel_rfl
theorem F28 : F 28 = some { body := (Try.f28.body.getD .skip), results := Try.f28.results.toList, rf := false } := by kernel_rfl
theorem R28 : regsOk T (Try.f28.body.getD .skip) = true := by kernel_rfl
/-- Steps, as long as there is no error. -/
def gl {α : Type} (f : Int → Int → α × Int × Int) : Nat → Int → Int → List α → List α × Int × Int
  | 0, p, e, o => (o, p, e)
  | k + 1, p, e, o => if e = 0 then gl f k (f p e).2.1 (f p e).2.2 (o ++ [(f p e).1]) else (o, p, e)
theorem gl_err {α : Type} (f : Int → Int → α × Int × Int) (k : Nat) (p e : Int) (o : List α) (h : ¬ e = 0) : gl f k p e o = (o, p, e) := by
  cases k <;> simp [gl, h]
theorem frz_tup1 {k : Nat} {h : AH} {v v0 : AV} {n : Int} (hv : frzF false k h v = some v0) : frzF false (k + 1) h (.tup [v, .int .i64 n]) = some (.tup [v0, .int .i64 n]) := by
  cases k with
  | zero => simp [frzF] at hv
  | succ k =>
    show (frzMap (frzF false (k + 1) h) [v, .int .i64 n]).map AV.tup = _
    have h1 : frzF false (k + 1) h (.int .i64 n) = some (.int .i64 n) := rfl
    simp only [frzMap, hv, h1, Option.map_some]
theorem netS_ok {b : List UInt8} {p e : Int} (ho : ok b p e) : ok b (netS b p e).2.1 (netS b p e).2.2 := by
  unfold netS
  intro h
  by_cases he : e = 0
  · rw [if_pos he] at h ⊢
    simp only at h ⊢
    by_cases hc : (getS b p 2).2.2 = 0 ∧ isNet (getS b p 2).1 = false
    · rw [if_pos hc] at h; omega
    · rw [if_neg hc] at h; exact getS_2 (ho he) (by simp) h
  · rw [if_neg he] at h ⊢; exact absurd h he
theorem zoneS_ok {b : List UInt8} {p e : Int} (ho : ok b p e) : ok b (zoneS b p e).2.1 (zoneS b p e).2.2 := by
  unfold zoneS
  intro h
  by_cases he : e = 0
  · rw [if_pos he] at h ⊢
    simp only at h ⊢
    by_cases hc : (textS b p).2.2 = 0 ∧ isZone (textS b p).1 = false
    · rw [if_pos hc] at h; omega
    · rw [if_neg hc] at h; exact textS_ok h
  · rw [if_neg he] at h ⊢; exact absurd h he
theorem beginS_ok (c : UInt8) (b : List UInt8) : ok b (beginS c b).2.1 (beginS c b).2.2 ∧ 0 ≤ (beginS c b).1 ∧ (beginS c b).1 ≤ 100 := by
  rcases b with _ | ⟨x, _ | ⟨y, t⟩⟩ <;> simp only [beginS] <;> (repeat' split) <;> refine ⟨fun h => ?_, by omega, by omega⟩ <;> simp at h ⊢ <;> omega
def getQ (c : UInt8) {α : Type} (f : List UInt8 → Int → Int → α × Int × Int) (b : List UInt8) : List α × Int :=
  let s := beginS c b
  let r := gl (f b) s.1.toNat s.2.1 s.2.2 []
  let e := endS b r.2.1 r.2.2
  if e = 0 then (r.1, 0) else ([], e)
def lInt (l : List Int) : List AV := l.map (.int .i64)
def t2q (x : List Int × Int) : AV := .tup [.lst false 1 x.1.length (lInt x.1), .int .i64 x.2]
noncomputable def g26 := G1 (vList vByte) fun b => if b.length < 140737488355328 then some (t2q (getQ 1 netS b)) else none
theorem run26 {I : Nat → Option (List AV → AH → Rs)} (h68 : I 68 = none) (h51 : I 51 = none) (h102 : I 102 = some (pureG g102)) (h69 : I 69 = none) (h70 : I 70 = none) (h26 : I 26 = none) (b : List UInt8) (m : Nat) (hl : b.length < 140737488355328) :
    ∃ h' v, call F I T (m + 110) 26 [.lst false 1 b.length (b.map vByte.enc)] e0 = some (.tup [v, .int .i64 (getQ 1 netS b).2], h') ∧ Row 1 h' v (getQ 1 netS b).1.length (lInt (getQ 1 netS b).1) := by
  obtain ⟨hs1, hs2, hs3⟩ := beginS_ok 1 b
  obtain ⟨N0, p0, er0, hs⟩ : ∃ N p e, beginS 1 b = (N, p, e) := ⟨_, _, _, rfl⟩
  rw [hs] at hs1 hs2 hs3
  simp only at hs1 hs2 hs3
  obtain ⟨N, rfl⟩ : ∃ N : Nat, N0 = N := ⟨N0.toNat, by omega⟩
  obtain ⟨R, hR⟩ : ∃ R, R = gl (netS b) N p0 er0 [] := ⟨_, rfl⟩
  have hG : getQ 1 netS b = if endS b R.2.1 R.2.2 = 0 then (R.1, 0) else ([], endS b R.2.1 R.2.2) := by
    simp only [getQ, hs, hR, toNat_cast]
  rw [call_F (by decide) h26 F26 rfl R26]; simp only [Try.f26, Option.getD]
  have k1 : ∀ m, call F I T (m + 1) 68 [.ptr 0 0, .int .u8 1] (e0.alloc (rd false b 0 0)) = some (.int .i64 (N : Nat), (e0.alloc (rd false b 0 0)).put 0 (rd false b p0 er0)) := fun m => by
    have := K68 h68 m b false 1 0 (e0.alloc (rd false b 0 0)) (by rw [AH.get_alloc]; rfl)
    rw [hs] at this; exact this
  have k1' := k1
  unfold rd at k1'
  simp +contextual (maxSteps := 3000000) only [↓code_seq, ↓code_region, ↓code_block, ↓code_loop, ↓ops_nil, ↓ops_cons, run_none, ↓run0_v, ↓run0_r, ↓seqK_normal, put_same, put_ne, env0_at, ev_tmp, ev_const, ev_func, oc_int, oc_nils, o_move, o_assign, o_call, o_box, o_build, g_none, next_e0, Option.map_some, Option.getD_some, ↓reduceIte, not_false_eq_true, Nat.reduceAdd, reduceCtorEq, List.getElem?_cons_zero, List.map_cons, List.map_nil, List.append_nil, List.nil_append, List.cons_append, and_true, Nat.reduceLeDiff, ne_eq, build_struct T88 d88, z88, parts_eq, fillA, AV.cells, AH.splice, List.take_zero, List.drop_succ_cons, List.drop_zero, List.length_cons, List.length_nil, p88_0, box_agg, callV_fn (g := 68) (by decide), k1']
  refine iterL_wp (Q := fun r => ∃ h' v, r = some (.tup [v, .int .i64 (getQ 1 netS b).2], h') ∧ Row 1 h' v (getQ 1 netS b).1.length (lInt (getQ 1 netS b).1)) (N := N) (Inv := fun k e h' => ∃ i v p er o, k + i = N ∧ R = gl (netS b) (N - i) p er o ∧ o.length = i ∧ Row 1 h' v i (lInt o) ∧ h'.get 0 = some (rd false b p er) ∧ ok b p er ∧ offRow v 0 ∧ 0 < h'.next ∧ e 4 = .ptr 0 0 ∧ e 5 = .int .i64 (N : Nat) ∧ e 6 = v ∧ e 7 = .int .i64 (i : Nat)) ?_ ?_ (by omega)
  · rintro k e h' K' ⟨i, v, p, er, o, hk, hr, ho, hrow, hb, hok, hoff, hnx, e4, e5, e6, e7⟩ hnext hexit
    have hb' := hb
    unfold rd at hb'
    have hlast : gl (netS b) (N - i) p er o = (o, p, er) → getQ 1 netS b = if endS b p er = 0 then (o, 0) else ([], endS b p er) := fun hh => by
      rw [hG, hr, hh]
    by_cases hi : i < N
    · have c1 : (i : Int) < (N : Int) := by omega
      by_cases he : er = 0
      · subst he
        obtain ⟨x, p', e', hn⟩ : ∃ x p' e', netS b p 0 = (x, p', e') := ⟨_, _, _, rfl⟩
        have k2 := fun m => K69 h51 h102 h69 m b false p 0 0 h' hl hok hb
        have hok' := netS_ok hok
        rw [hn] at k2 hok'
        have hrow1 : Row 1 (h'.put 0 (rd false b p' e')) v i (lInt o) := hrow.keep (by simp) (fun bl hv => by rw [AH.get_put, if_neg (fun hq => hoff _ _ _ _ _ _ hv hq.symm)])
        obtain ⟨bb, h2, happ, hrow2, hn1, hn2, hkeep⟩ := (hrow1.alloc (.cells [.int .i64 x] .own)).app T22 d22 T3 (isSrc_sl T22 d22) s3 (by rw [b3]; decide) (m := 1) (new := [.int .i64 x])
          (x := .sl h'.next 0 1 1 1 true) (by rw [s3, src_sl]; simp [AH.loadn, AH.get_alloc]) (by omega) rfl rfl (by rw [b3]; unfold maxBytes; omega)
        simp +contextual (maxSteps := 3000000) only [↓code_skip, ↓code_seq, ↓code_region, ↓code_cond, ↓code_block, aCond_bool, ↓ops_nil, ↓ops_cons, run_none, run_someT, ↓run0_v, ↓run0_r, ↓seqK_normal, ↓blkK_normal, put_same, put_ne, ev_tmp, ev_const, ev_func, oc_int, oc_bool, o_move, o_assign, o_pick, o_bin, o_call, o_buildSlice, o_load, o_nilCheck, o_fieldAddr, o_append, g_none, g_some, pick_bool, bin_add, bin_eql, bin_lss, nil_ptr, Option.bind_some, decide_eq_true_eq, ↓reduceIte, Nat.reduceEqDiff, not_false_eq_true, Nat.reduceAdd, Nat.reduceMul, Nat.succ_ne_self, List.getElem?_cons_zero, List.getElem?_cons_succ, List.getElem?_toArray, List.map_cons, List.map_nil, List.append_nil, List.nil_append, AH.next_put, and_true, Nat.le_refl, ne_eq, parts_eq, fillA, AV.cells, AH.splice, List.take_zero, List.drop_succ_cons, List.drop_nil, List.length_cons, List.length_nil, fa_ptr T88 p88_2 (by decide), load_p1 T26 a26, loadc_def, buildSl T22 d22 T3 (n := 1) (by rw [s3]; decide), s3, z3, repl, callV_fn (g := 69) (by decide), e4, e5, e6, e7, c1, hb', k2, happ]
        refine hnext (k - 1) _ _ (by omega) ⟨i + 1, .sl bb 0 (i + 1) (i + 1) 1 false, p', e', o ++ [x], by omega, ?_, ?_, ?_, ?_, ?_, ?_, ?_, ?_, ?_, ?_, ?_⟩
        · rw [hr, show N - i = (N - (i + 1)) + 1 by omega]; simp [gl, hn]
        · simp [ho]
        · simpa [lInt] using hrow2
        · rw [hkeep 0 (by simp) hoff, AH.get_alloc, if_neg (by simp; omega), AH.get_put, if_pos rfl]
        · exact hok'
        · (intro b1 o1 l1 k1 z1 x1 hv; cases hv; simp at hn2; omega)
        · (simp at hn1; omega)
        · simp only [put_ne, Nat.reduceEqDiff, not_false_eq_true, ne_eq, e4]
        · simp only [put_ne, Nat.reduceEqDiff, not_false_eq_true, ne_eq, e5]
        · simp only [put_same, put_ne, Nat.reduceEqDiff, not_false_eq_true, ne_eq]
        · simp only [put_same]; rw [wrap_i64 (by omega) (by omega)]; rfl
      · have hlst := hlast (gl_err _ _ _ _ _ he)
        have k3 := fun m => K70 h70 m b false p er 0 h' hb
        simp +contextual (maxSteps := 3000000) only [↓code_seq, ↓code_region, ↓code_cond, ↓code_exit, aCond_bool, ↓ops_nil, ↓ops_cons, run_none, run_someT, ↓run0_v, ↓seqK_normal, ↓seqK_exit, put_same, put_ne, ev_tmp, ev_const, oc_int, oc_bool, o_move, o_pick, o_bin, o_load, o_nilCheck, o_fieldAddr, g_none, g_some, pick_bool, bin_eql, bin_lss, nil_ptr, Option.bind_some, decide_eq_true_eq, ↓reduceIte, Nat.reduceEqDiff, not_false_eq_true, Nat.reduceAdd, List.getElem?_cons_zero, List.getElem?_cons_succ, List.getElem?_toArray, ne_eq, fa_ptr T88 p88_2 (by decide), load_p1 T26 a26, loadc_def, e4, e5, e7, c1, hb', he]
        refine hexit _ _ _ (by simp) ?_
        have hE : ¬ endS b p er = 0 := by simp [endS, he]
        refine ⟨h'.put 0 (rd false b p (endS b p er)), .nils, ?_, ?_⟩
        · simp +contextual (maxSteps := 3000000) only [↓code_seq, ↓code_region, ↓code_cond, ↓code_ret, aCond_bool, ↓ops_nil, ↓ops_cons, run_none, ↓run0_v, ↓run0_r, ↓seqK_normal, ↓seqK_ret, ↓blkK_exit, ↓retK_ret, put_same, put_ne, ev_tmp, ev_const, ev_func, oc_int, oc_nils, o_move, o_assign, o_bin, o_call, o_load, o_nilCheck, o_fieldAddr, g_none, bin_neq, nil_ptr, resultsOf, oneOrAll, Option.map_some, ↓reduceIte, Nat.reduceEqDiff, not_false_eq_true, Nat.reduceAdd, List.getElem?_cons_zero, List.getElem?_cons_succ, List.map_cons, List.map_nil, List.append_nil, List.nil_append, AH.get_put, Bool.not_eq_eq_eq_not, Bool.not_true, ne_eq, decide_eq_false_iff_not, fa_ptr T88 p88_2 (by decide), load_p1 T26 a26, loadc_def, callV_fn (g := 70) (by decide), e4, k3, rd, hE, hlst]
        · rw [hlst, if_neg hE]; exact Row.nil _ _
    · have c1 : ¬ (i : Int) < (N : Int) := by omega
      have hlst := hlast (by rw [show N - i = 0 by omega]; rfl)
      have k3 := fun m => K70 h70 m b false p er 0 h' hb
      simp +contextual (maxSteps := 3000000) only [↓code_seq, ↓code_region, ↓code_cond, ↓code_exit, aCond_bool, ↓ops_nil, ↓ops_cons, run_none, run_someT, ↓run0_v, ↓seqK_normal, ↓seqK_exit, put_same, put_ne, ev_tmp, ev_const, oc_int, oc_bool, o_move, o_pick, o_bin, o_load, o_nilCheck, o_fieldAddr, g_none, g_some, pick_bool, bin_lss, Option.bind_some, decide_eq_true_eq, ↓reduceIte, Nat.reduceEqDiff, not_false_eq_true, List.getElem?_cons_zero, List.getElem?_cons_succ, List.getElem?_toArray, Bool.false_eq_true, ne_eq, e4, e5, e7, c1]
      refine hexit _ _ _ (by simp) ?_
      by_cases hE : endS b p er = 0
      · refine ⟨h'.put 0 (rd false b p (endS b p er)), v, ?_, ?_⟩
        · simp +contextual (maxSteps := 3000000) only [↓code_skip, ↓code_seq, ↓code_region, ↓code_cond, ↓code_ret, aCond_bool, ↓ops_nil, ↓ops_cons, run_none, ↓run0_v, ↓run0_r, ↓seqK_normal, ↓blkK_exit, ↓retK_ret, put_same, put_ne, ev_tmp, ev_const, ev_func, oc_int, o_move, o_assign, o_bin, o_call, g_none, bin_neq, resultsOf, oneOrAll, Option.map_some, ↓reduceIte, Nat.reduceEqDiff, not_false_eq_true, not_true_eq_false, List.map_cons, List.map_nil, List.append_nil, List.nil_append, Bool.not_eq_eq_eq_not, Bool.not_true, ne_eq, decide_eq_false_iff_not, callV_fn (g := 70) (by decide), e4, e6, k3, rd, hE, hlst]
        · rw [hlst, if_pos hE, ho]
          exact hrow.keep (by simp) (fun bl hv => by rw [AH.get_put, if_neg (fun hq => hoff _ _ _ _ _ _ hv hq.symm)])
      · refine ⟨h'.put 0 (rd false b p (endS b p er)), .nils, ?_, ?_⟩
        · simp +contextual (maxSteps := 3000000) only [↓code_seq, ↓code_region, ↓code_cond, ↓code_ret, aCond_bool, ↓ops_nil, ↓ops_cons, run_none, ↓run0_v, ↓run0_r, ↓seqK_normal, ↓seqK_ret, ↓blkK_exit, ↓retK_ret, put_same, put_ne, ev_tmp, ev_const, ev_func, oc_int, oc_nils, o_move, o_assign, o_bin, o_call, o_load, o_nilCheck, o_fieldAddr, g_none, bin_neq, nil_ptr, resultsOf, oneOrAll, Option.map_some, ↓reduceIte, Nat.reduceEqDiff, not_false_eq_true, Nat.reduceAdd, List.getElem?_cons_zero, List.getElem?_cons_succ, List.map_cons, List.map_nil, List.append_nil, List.nil_append, AH.get_put, Bool.not_eq_eq_eq_not, Bool.not_true, ne_eq, decide_eq_false_iff_not, fa_ptr T88 p88_2 (by decide), load_p1 T26 a26, loadc_def, callV_fn (g := 70) (by decide), e4, k3, rd, hE, hlst]
        · rw [hlst, if_neg hE]; exact Row.nil _ _
  · refine ⟨0, .nils, p0, er0, [], by omega, ?_, ?_, ?_, ?_, ?_, ?_, ?_, ?_, ?_, ?_, ?_⟩
    · exact hR
    · rfl
    · exact Row.nil _ _
    · rw [AH.get_put, if_pos rfl]; rfl
    · exact hs1
    · (intro b1 o1 l1 k1 z1 x1 hv; cases hv)
    · simp
    · simp only [put_same, put_ne, Nat.reduceEqDiff, not_false_eq_true, ne_eq]
    · simp only [put_same, put_ne, Nat.reduceEqDiff, not_false_eq_true, ne_eq]
    · simp only [put_same, put_ne, Nat.reduceEqDiff, not_false_eq_true, ne_eq]
    · simp only [put_same]; rfl
end Go.AM.X
namespace Go.AM.X
open Go Go.AM Go.Proofs Go.AM.Sx
set_option maxHeartbeats 400000
set_option linter.unusedVariables false
/-- One step behind the other. -/
def two {α β : Type} (f : Int → Int → α × Int × Int) (g : Int → Int → β × Int × Int) (p e : Int) : (α × β) × Int × Int :=
  (((f p e).1, (g (f p e).2.1 (f p e).2.2).1), (g (f p e).2.1 (f p e).2.2).2.1, (g (f p e).2.1 (f p e).2.2).2.2)
end Go.AM.X
