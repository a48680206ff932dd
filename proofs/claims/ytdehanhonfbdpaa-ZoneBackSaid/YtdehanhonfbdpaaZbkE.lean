/- Lists of bytes compared. Own work. -/
import Derived.Test.YtdehanhonfbdpaaZbkD
namespace Go.AM.X
open Go Go.AM Go.Proofs Go.AM.Sx
set_option maxHeartbeats 400000
set_option maxRecDepth 100000
set_option linter.unusedVariables false
theorem F19 : F 19 = some { body := (Try.f19.body.getD .skip), results := Try.f19.results.toList, rf := false } := by kernel_rfl
theorem R19 : regsOk T (Try.f19.body.getD .skip) = true := by kernel_rfl
def vB : View (List UInt8) := vList vByte
noncomputable def g19 := G2 (vList vB) (vList vB) fun a c => if a.length < 140737488355328 ∧ c.length < 140737488355328 then some (.bool (decide (a = c))) else none
theorem run19 {I : Nat → Option (List AV → AH → Rs)}  (h19 : I 19 = none) (a c : List (List UInt8)) (m : Nat) (hl : a.length < 140737488355328) (hl2 : c.length < 140737488355328) :
    ∃ h', call F I T (a.length + m + 3) 19 [.lst false 1 a.length (a.map vB.enc), .lst false 1 c.length (c.map vB.enc)] e0 = some (.bool (decide (a = c)), h') := by
  have hv : ∀ b : List UInt8, vB.enc b = .lst false 1 b.length (b.map vByte.enc) := fun _ => rfl
  rw [call_F (by decide) h19 F19 rfl R19]; simp only [Try.f19, Option.getD]
  by_cases hne : (a.length : Int) = (c.length : Int)
  · have hac : a.length = c.length := by omega
    simp +contextual (maxSteps := 3000000) only [↓code_skip, ↓code_seq, ↓code_region, ↓code_cond, ↓code_block, ↓code_loop, aCond_bool, ↓ops_nil, ↓ops_cons, run_none, ↓run0_v, ↓seqK_normal, put_same, put_ne, env0_at, ev_tmp, ev_const, oc_int, oc_bool, o_move, o_assign, o_bin, o_len, g_none, bin_neq, Option.getD_some, ↓reduceIte, Nat.reduceEqDiff, not_false_eq_true, not_true_eq_false, reduceCtorEq, List.getElem?_cons_zero, List.getElem?_cons_succ, Bool.not_eq_eq_eq_not, Bool.not_true, ne_eq, decide_eq_false_iff_not, len_lst T30 d30, hne]
    refine iterL_wp (Q := fun r => ∃ h', r = some (.bool (decide (a = c)), h')) (N := a.length) (Inv := fun k e h' => ∃ i, k + i = a.length ∧ a.take i = c.take i ∧ e 0 = .lst false 1 a.length (a.map vB.enc) ∧ e 1 = .lst false 1 c.length (c.map vB.enc) ∧ e 5 = .int .i64 (i : Nat)) ?_ ?_ (by omega)
    · rintro k e h' K' ⟨i, hk, ht, e0, e1, e5⟩ hnext hexit
      by_cases hi : i < a.length
      · have hi2 : i < c.length := by omega
        have c1 : (i : Int) < (a.length : Int) := by omega
        have c2 : (i : Int) < (c.length : Int) := by omega
        have c3 := drop_map_0 (f := vB.enc) (List.getElem?_eq_getElem hi)
        have c4 := drop_map_0 (f := vB.enc) (List.getElem?_eq_getElem hi2)
        by_cases hx : a[i] = c[i]
        · simp +contextual (maxSteps := 3000000) only [↓code_skip, ↓code_seq, ↓code_region, ↓code_cond, ↓code_block, aCond_bool, ↓ops_nil, ↓ops_cons, run_none, ↓run0_v, ↓run0_r, ↓seqK_normal, ↓blkK_normal, put_same, put_ne, ev_tmp, ev_const, oc_int, o_move, o_assign, o_bin, o_len, o_load, o_convert, o_indexAddr, g_none, bin_add, bin_lss, str_neq, Option.map_some, decide_eq_true_eq, ↓reduceIte, Nat.reduceEqDiff, not_false_eq_true, not_true_eq_false, reduceCtorEq, and_true, Bool.not_eq_eq_eq_not, Bool.not_true, ne_eq, decide_eq_false_iff_not, len_lst T30 d30, ia_lst T30 d30 T25 s25, load_fp1 T25 a25, conv_back T25 T9 d9 d25 T5 d5 s5, e0, e1, e5, c1, c2, c3, c4, hv, back_bytes, cast_nonneg, toNat_cast, hx]
          refine hnext (k - 1) _ _ (by omega) ⟨i + 1, by omega, ?_, ?_, ?_, ?_⟩
          · rw [take_snoc hi, take_snoc hi2, ht, hx]
          · simp only [put_ne, not_false_eq_true, reduceCtorEq, ne_eq, e0]
          · simp only [put_ne, Nat.reduceEqDiff, not_false_eq_true, ne_eq, e1]
          · simp only [put_same]; rw [wrap_i64 (by omega) (by omega)]; rfl
        · have hx' : ¬ a = c := fun h => hx (by simp only [h])
          simp +contextual (maxSteps := 3000000) only [↓code_skip, ↓code_seq, ↓code_region, ↓code_cond, ↓code_block, ↓code_ret, aCond_bool, ↓ops_nil, ↓ops_cons, run_none, ↓run0_v, ↓run0_r, ↓seqK_normal, ↓seqK_ret, ↓blkK_ret, put_same, put_ne, ev_tmp, ev_const, oc_bool, o_move, o_assign, o_bin, o_len, o_load, o_convert, o_indexAddr, g_none, bin_lss, str_neq, Option.map_some, decide_eq_true_eq, ↓reduceIte, Nat.reduceEqDiff, not_false_eq_true, reduceCtorEq, and_true, Bool.not_eq_eq_eq_not, Bool.not_true, ne_eq, decide_eq_false_iff_not, len_lst T30 d30, ia_lst T30 d30 T25 s25, load_fp1 T25 a25, conv_back T25 T9 d9 d25 T5 d5 s5, e0, e1, e5, c1, c2, c3, c4, hv, back_bytes, cast_nonneg, toNat_cast, hx]
          refine hexit _ _ _ (by simp) ⟨h', ?_⟩
          simp +contextual (maxSteps := 3000000) only [↓seqK_ret, ↓blkK_ret, ↓retK_ret, put_same, resultsOf, oneOrAll, Option.map_some, Bool.not_false, hx', decide_false]
      · have c1 : ¬ (i : Int) < (a.length : Int) := by omega
        have hx : a = c := by rw [take_end (show i = a.length by omega), take_end (show i = c.length by omega)] at ht; exact ht
        simp +contextual (maxSteps := 3000000) only [↓code_seq, ↓code_region, ↓code_cond, ↓code_exit, aCond_bool, ↓ops_nil, ↓ops_cons, run_none, ↓run0_v, ↓seqK_normal, ↓seqK_exit, put_same, put_ne, ev_tmp, o_move, o_bin, o_len, g_none, bin_lss, decide_eq_true_eq, ↓reduceIte, Nat.reduceEqDiff, not_false_eq_true, reduceCtorEq, ne_eq, len_lst T30 d30, e0, e5, c1]
        refine hexit _ _ _ (by simp) ⟨h', ?_⟩
        simp +contextual (maxSteps := 3000000) only [↓code_seq, ↓code_region, ↓code_ret, ↓ops_nil, ↓ops_cons, run_none, ↓run0_v, ↓seqK_normal, ↓blkK_exit, ↓retK_ret, put_same, ev_const, oc_bool, o_assign, g_none, resultsOf, oneOrAll, Option.map_some, ↓reduceIte, hx, decide_true]
    · refine ⟨0, by omega, ?_, ?_, ?_, ?_⟩
      · rfl
      · simp only [put_ne, env0_at, Option.getD_some, not_false_eq_true, reduceCtorEq, List.getElem?_cons_zero, ne_eq]
      · simp only [put_ne, env0_at, Option.getD_some, Nat.reduceEqDiff, not_false_eq_true, List.getElem?_cons_zero, List.getElem?_cons_succ, ne_eq]
      · simp only [put_same]; rfl
  · have hne' : ¬ a = c := fun h => hne (by rw [h])
    simp +contextual (maxSteps := 3000000) only [↓code_seq, ↓code_region, ↓code_cond, ↓code_ret, aCond_bool, ↓ops_nil, ↓ops_cons, run_none, ↓run0_v, ↓seqK_normal, ↓seqK_ret, ↓retK_ret, put_same, put_ne, env0_at, ev_tmp, ev_const, oc_bool, o_move, o_assign, o_bin, o_len, g_none, bin_neq, resultsOf, oneOrAll, Option.map_some, Option.getD_some, ↓reduceIte, Nat.reduceEqDiff, not_false_eq_true, reduceCtorEq, List.getElem?_cons_zero, List.getElem?_cons_succ, Bool.not_eq_eq_eq_not, Bool.not_true, ne_eq, decide_eq_false_iff_not, len_lst T30 d30, hne]
    exact ok_of (by simp [hne'])
end Go.AM.X
namespace Go.AM.X
open Go Go.AM Go.Proofs Go.AM.Sx
set_option maxHeartbeats 400000
set_option maxRecDepth 100000
set_option linter.unusedVariables false
/-- A list of numbers, however it lies. -/
structure RdI (h : AH) (v : AV) (l : List Int) : Prop where
  len : ∀ h', aLen T 22 v h' = some (.int .i64 (l.length : Nat))
  at_ : ∀ i (hi : i < l.length), ∃ p, aIndexAddr T 22 v (.int .i64 (i : Nat)) = some p ∧ ∀ h', (∀ c, c < h.next → h'.get c = h.get c) → aLoad T 3 p h' = some (.int .i64 l[i])
/-- New bytes, all else as it was. -/
def New57 (h h' : AH) (v : AV) (b : List UInt8) : Prop :=
  RowE 1 h' v b.length (ofBytes b) ∧ h.next ≤ h'.next ∧ (∀ c, c < h.next → h'.get c = h.get c) ∧ (∀ b o l k z x, v = .sl b o l k z x → h.next ≤ b)
theorem run57h {I : Nat → Option (List AV → AH → Rs)} (h52 : I 52 = some (pureG g52)) (h81 : I 81 = some (pureG g81)) (h57 : I 57 = none) (kd : UInt8) (many : Int) (l : List (Int × List UInt8)) (nv : AV) (ex : Bool) (h : AH) (m : Nat) (hm : 0 ≤ many ∧ many ≤ 200) (hl : okP l) (hrd : RdI h nv (l.map Prod.fst)) :
    ∃ h' v, call F I T (m + 210) 57 [.int .u8 (kd.toNat : Nat), .int .i64 many, nv, .lst ex 1 l.length (lSnd l)] h = some (v, h') ∧ New57 h h' v (rep kd many l) := by
  obtain ⟨l2, hall⟩ := hl
  have c1 : IntKind.u8.wrap many = many := wrap_u8 (by omega) (by omega)
  have hhd : ofBytes (head2 kd many.toNat) = [.int .u8 (kd.toNat : Nat), .int .u8 many] := by
    have h2 : (UInt8.ofNat many.toNat).toNat = many.toNat := toNat_ofNat (by omega)
    have h3 : ((many.toNat : Nat) : Int) = many := by omega
    simp only [head2, ofBytes, List.map_cons, List.map_nil, h2, h3]
  have hlen : ∀ h, aLen T 22 nv h = some (.int .i64 (l.length : Nat)) := fun h => by have := hrd.len h; rwa [List.length_map] at this
  rw [call_F (by decide) h57 F57 rfl R57]; simp only [Try.f57, Option.getD]
  simp +contextual (maxSteps := 3000000) only [↓code_seq, ↓code_region, ↓code_block, ↓code_loop, ↓ops_nil, ↓ops_cons, run_none, ↓run0_v, ↓run0_r, ↓seqK_normal, put_same, put_ne, env0_at, ev_tmp, ev_const, oc_int, oc_nils, o_move, o_assign, o_len, o_buildSlice, o_convert, g_none, Option.bind_some, Option.getD_some, ↓reduceIte, Nat.reduceEqDiff, not_false_eq_true, Nat.reduceAdd, Nat.reduceMul, reduceCtorEq, List.getElem?_cons_zero, List.getElem?_cons_succ, List.map_cons, List.map_nil, List.append_nil, List.nil_append, List.cons_append, and_true, Nat.reduceLeDiff, Nat.le_refl, ne_eq, conv_int T3 T5 d5, buildSl T25 d25 T5 (n := 2) (by rw [s5]; decide), s5, z5, parts_eq, fillA, AV.cells, AH.splice, List.take_succ_cons, List.take_zero, List.drop_succ_cons, List.drop_zero, List.drop_nil, List.length_cons, List.length_nil, repl, c1, hlen]
  refine iterL_wp (Q := fun r => ∃ h' v, r = some (v, h') ∧ New57 h h' v (rep kd many l)) (N := l.length) (Inv := fun k e h' => ∃ i v, k + i = l.length ∧ New57 h h' v (rep kd many (l.take i)) ∧ i ≤ l.length ∧ e 3 = .lst ex 1 l.length (lSnd l) ∧ e 9 = v ∧ e 18 = nv ∧ e 19 = .int .i64 l.length ∧ e 20 = .int .i64 (i : Nat)) ?_ ?_ (by omega)
  · rintro k e h' K' ⟨i, v, hk, hnew, hil, e3, e9, e18, e19, e20⟩ hnext hexit
    obtain ⟨hrow, hle, hkp, hnw⟩ := hnew
    by_cases hi : i < l.length
    · have c2 : (i : Int) < (l.length : Int) := by omega
      obtain ⟨p, c3, c3b⟩ := hrd.at_ i (by simpa using hi)
      have c3c := c3b h' hkp
      rw [List.getElem_map] at c3c
      have c4 := drop_map_0 (f := fun x : Int × List UInt8 => AV.str x.2) (List.getElem?_eq_getElem hi)
      obtain ⟨c5, c6⟩ := hall l[i] (List.getElem_mem hi)
      have zz := zone_len c6
      have hplen := pr_len (l := l.take i) (fun x hx => hall x (List.mem_of_mem_take hx))
      have hrl : (rep kd many (l.take i)).length ≤ 2 + 34 * i := by
        simp only [rep, List.length_append, head2, List.length_cons, List.length_nil]
        rw [List.length_take] at hplen
        omega
      obtain ⟨bb, h2, happ, hrow2, hn1, hn2, hkeep⟩ := hrow.app T25 d25 T5 (isSrc_sl T25 d25) s5 (by rw [b5]; decide) (m := 2) (new := ofBytes (be2 l[i].1)) (x := .lst false 1 2 (ofBytes (be2 l[i].1)))
        (by rw [s5]; exact src_lst1) (by omega) rfl (ofBytes_one _) (by rw [b5]; unfold maxBytes; omega)
      have hpl : (putT l[i].2).length = l[i].2.length + 1 := by simp [putT]
      obtain ⟨cc, h3, happ3, hrow3, hm1, hm2, hkeep3⟩ := hrow2.app T25 d25 T5 (isSrc_sl T25 d25) s5 (by rw [b5]; decide) (m := (putT l[i].2).length) (new := ofBytes (putT l[i].2)) (x := .lst false 1 (putT l[i].2).length (ofBytes (putT l[i].2)))
        (by rw [s5]; exact src_lst1) (by omega) (by simp [ofBytes]) (ofBytes_one _) (by rw [b5]; unfold maxBytes; omega)
      have hrep : rep kd many (l.take (i + 1)) = rep kd many (l.take i) ++ be2 l[i].1 ++ putT l[i].2 := by
        unfold rep
        rw [take_snoc hi, List.flatMap_append, List.flatMap_singleton]
        simp only [pr, List.append_assoc]
      have hrow4 : RowE 1 h3 (.sl cc 0 ((rep kd many (l.take i)).length + 2 + (putT l[i].2).length) ((rep kd many (l.take i)).length + 2 + (putT l[i].2).length) 1 false) (rep kd many (l.take (i + 1))).length (ofBytes (rep kd many (l.take (i + 1)))) := by
        have : (rep kd many (l.take (i + 1))).length = (rep kd many (l.take i)).length + 2 + (putT l[i].2).length := by rw [hrep, List.length_append, List.length_append]; rfl
        rw [this, hrep, ← ofBytes_app, ← ofBytes_app]
        exact .inl hrow3
      have hkp4 : ∀ c, c < h.next → h3.get c = h.get c := fun c hc => by
        rw [hkeep3 c (by omega) (fun b1 o1 l1 k1 z1 x1 hv => by cases hv; omega), hkeep c (by omega) (fun b1 o1 l1 k1 z1 x1 hv => by have := hnw _ _ _ _ _ _ hv; omega), hkp c hc]
      simp only [lSnd] at e3
      simp +contextual (maxSteps := 3000000) only [↓code_skip, ↓code_seq, ↓code_region, ↓code_cond, ↓code_block, aCond_bool, ↓ops_nil, ↓ops_cons, run_none, ↓run0_v, ↓run0_r, ↓seqK_normal, ↓blkK_normal, put_same, put_ne, ev_tmp, ev_const, ev_func, oc_int, o_move, o_assign, o_bin, o_call, o_load, o_indexAddr, o_extract, o_append, g_none, bin_add, bin_lss, extract_tup, decide_eq_true_eq, ↓reduceIte, Nat.reduceEqDiff, not_false_eq_true, List.getElem?_cons_zero, List.getElem?_cons_succ, List.map_cons, List.map_nil, List.append_nil, List.nil_append, and_true, ne_eq, ia_lst T23 d23 T9 s9, load_fp1 T9 a9, callV_fn (g := 52) (by decide), K52 h52, callV_fn (g := 81) (by decide), K81 h81, e3, e9, e18, e19, e20, c2, c3, c3c, c4, c5, c6, happ, happ3, cast_nonneg, toNat_cast]
      refine hnext (k - 1) _ _ (by omega) ⟨i + 1, .sl cc 0 ((rep kd many (l.take i)).length + 2 + (putT l[i].2).length) ((rep kd many (l.take i)).length + 2 + (putT l[i].2).length) 1 false, by omega, ?_, ?_, ?_, ?_, ?_, ?_, ?_⟩
      · exact ⟨hrow4, by omega, hkp4, fun b1 o1 l1 k1 z1 x1 hv => by cases hv; omega⟩
      · omega
      · simp only [put_ne, Nat.reduceEqDiff, not_false_eq_true, ne_eq, e3]; rfl
      · simp only [put_same, put_ne, Nat.reduceEqDiff, not_false_eq_true, ne_eq]
      · simp only [put_ne, Nat.reduceEqDiff, not_false_eq_true, ne_eq, e18]
      · simp only [put_ne, Nat.reduceEqDiff, not_false_eq_true, ne_eq, e19]
      · simp only [put_same]; rw [wrap_i64 (by omega) (by omega)]; rfl
    · have c2 : ¬ (i : Int) < (l.length : Int) := by omega
      rw [take_end (show i = l.length by omega)] at hrow
      simp only [lSnd] at e3
      simp +contextual (maxSteps := 3000000) only [↓code_seq, ↓code_region, ↓code_cond, ↓code_exit, aCond_bool, ↓ops_nil, ↓ops_cons, run_none, ↓run0_v, ↓seqK_normal, ↓seqK_exit, put_same, ev_tmp, o_bin, g_none, bin_lss, decide_eq_true_eq, ↓reduceIte, e19, e20, c2]
      refine hexit _ _ _ (by simp) ⟨h', v, ?_, hrow, hle, hkp, hnw⟩
      simp +contextual (maxSteps := 3000000) only [↓code_seq, ↓code_region, ↓code_ret, ↓ops_nil, ↓ops_cons, run_none, ↓run0_v, ↓seqK_normal, ↓blkK_exit, ↓retK_ret, put_same, put_ne, ev_tmp, o_move, o_assign, g_none, resultsOf, oneOrAll, Option.map_some, ↓reduceIte, Nat.reduceEqDiff, not_false_eq_true, ne_eq, e9]
  · refine ⟨0, .sl h.next 0 2 2 1 true, by omega, ?_, ?_, ?_, ?_, ?_, ?_, ?_⟩
    · (refine ⟨?_, by simp, fun c hc => by rw [AH.get_alloc, if_neg (by omega)], fun b1 o1 l1 k1 z1 x1 hv => by cases hv; omega⟩; simp only [List.take_zero, rep, List.flatMap_nil, List.append_nil, hhd]; exact RowE.lit (h := h) (by decide) rfl)
    · omega
    · simp only [put_ne, env0_at, Option.getD_some, Nat.reduceEqDiff, not_false_eq_true, List.getElem?_cons_zero, List.getElem?_cons_succ, ne_eq]
    · simp only [put_same, put_ne, Nat.reduceEqDiff, not_false_eq_true, ne_eq]
    · simp only [put_same, put_ne, Nat.reduceEqDiff, not_false_eq_true, ne_eq]
    · simp only [put_same, put_ne, Nat.reduceEqDiff, not_false_eq_true, ne_eq]
    · simp only [put_same]; rfl
theorem run58h {I : Nat → Option (List AV → AH → Rs)}  (h58 : I 58 = none) (l : List (Int × List UInt8)) (nv : AV) (ex : Bool) (h : AH) (m : Nat) (hl : okP l) (hrd : RdI h nv (l.map Prod.fst)) :
    ∃ h' v, call F I T (m + 210) 58 [nv, .lst ex 1 l.length (lSnd l)] h = some (v, h') ∧ New57 h h' v (prs l) := by
  obtain ⟨l2, hall⟩ := hl
  have hlen : ∀ h, aLen T 22 nv h = some (.int .i64 (l.length : Nat)) := fun h => by have := hrd.len h; rwa [List.length_map] at this
  rw [call_F (by decide) h58 F58 rfl R58]; simp only [Try.f58, Option.getD]
  simp +contextual (maxSteps := 3000000) only [↓code_seq, ↓code_region, ↓code_block, ↓code_loop, ↓ops_nil, ↓ops_cons, run_none, ↓run0_v, ↓seqK_normal, ev_const, oc_int, oc_nils, o_assign, g_none]
  refine iterL_wp (Q := fun r => ∃ h' v, r = some (v, h') ∧ New57 h h' v (prs l)) (N := l.length) (Inv := fun k e h' => ∃ i v, k + i = l.length ∧ New57 h h' v (prs (l.take i)) ∧ i ≤ l.length ∧ e 0 = nv ∧ e 1 = .lst ex 1 l.length (lSnd l) ∧ e 5 = v ∧ e 6 = .int .i64 (i : Nat)) ?_ ?_ (by omega)
  · rintro k e h' K' ⟨i, v, hk, hnew, hil, e0, e1, e5, e6⟩ hnext hexit
    obtain ⟨hrow, hle, hkp, hnw⟩ := hnew
    by_cases hi : i < l.length
    · have c2 : (i : Int) < (l.length : Int) := by omega
      obtain ⟨p, c3, c3b⟩ := hrd.at_ i (by simpa using hi)
      have c3c := c3b h' hkp
      rw [List.getElem_map] at c3c
      have c4 := drop_map_0 (f := fun x : Int × List UInt8 => AV.str x.2) (List.getElem?_eq_getElem hi)
      obtain ⟨c5, c6⟩ := hall l[i] (List.getElem_mem hi)
      have zz := zone_len c6
      have zn := net_lt c5
      have w1 : IntKind.u8.wrap (IntKind.i64.wrap (l[i].1.tdiv 256)) = ((l[i].1.toNat / 256 : Nat) : Int) := by
        rw [Int.tdiv_eq_ediv_of_nonneg (by omega), wrap_i64 (by omega) (by omega), wrap_u8 (by omega) (by omega)]; omega
      have w2 : IntKind.u8.wrap (l[i].1.tmod 256) = ((l[i].1.toNat % 256 : Nat) : Int) := by
        rw [Int.tmod_eq_emod_of_nonneg (by omega), wrap_u8 (by omega) (by omega)]; omega
      have w3 : IntKind.u8.wrap (l[i].2.length : Int) = (l[i].2.length : Int) := wrap_u8 (by omega) (by omega)
      have hplen := pr_len (l := l.take i) (fun x hx => hall x (List.mem_of_mem_take hx))
      have hrl : (prs (l.take i)).length ≤ 34 * i := by
        unfold prs
        rw [List.length_take] at hplen
        omega
      obtain ⟨bb, h2, happ, hrow2, hn1, hn2, hkeep⟩ := (allocE hrow (.cells [.int .u8 ((l[i].1.toNat / 256 : Nat) : Int), .int .u8 ((l[i].1.toNat % 256 : Nat) : Int), .int .u8 (l[i].2.length : Int)] .own)).app T25 d25 T5 (isSrc_sl T25 d25) s5 (by rw [b5]; decide) (m := 3)
        (new := [.int .u8 ((l[i].1.toNat / 256 : Nat) : Int), .int .u8 ((l[i].1.toNat % 256 : Nat) : Int), .int .u8 (l[i].2.length : Int)]) (x := .sl h'.next 0 3 3 1 true)
        (by rw [s5, src_sl]; simp [AH.loadn, AH.get_alloc]) (by omega) rfl rfl (by rw [b5]; unfold maxBytes; omega)
      obtain ⟨cc, h3, happ3, hrow3, hm1, hm2, hkeep3⟩ := (allocE (.inl hrow2) (.cells (ofBytes l[i].2) .byt)).app T25 d25 T5 (isSrc_sl T25 d25) s5 (by rw [b5]; decide) (m := l[i].2.length) (new := ofBytes l[i].2) (x := .sl h2.next 0 l[i].2.length l[i].2.length 1 false)
        (by rw [s5, src_sl]; simp [AH.loadn, AH.get_alloc, ofBytes]; exact List.take_of_length_le (by simp)) (by omega) (by simp [ofBytes]) (ofBytes_one _) (by rw [b5]; unfold maxBytes; omega)
      have hmx : l[i].2.length < maxBytes := by unfold maxBytes; omega
      have hrow4 : RowE 1 h3 (.sl cc 0 ((prs (l.take i)).length + 3 + l[i].2.length) ((prs (l.take i)).length + 3 + l[i].2.length) 1 false) (prs (l.take (i + 1))).length (ofBytes (prs (l.take (i + 1)))) := by
        have h1 : prs (l.take (i + 1)) = prs (l.take i) ++ (be2 l[i].1 ++ putT l[i].2) := by
          unfold prs
          rw [take_snoc hi, List.flatMap_append, List.flatMap_singleton]
          rfl
        have h2 : (prs (l.take (i + 1))).length = (prs (l.take i)).length + 3 + l[i].2.length := by rw [h1]; simp only [List.length_append, be2, putT, List.length_cons, List.length_nil]; omega
        rw [h2, h1, ← ofBytes_app, ← ofBytes_app, be2_eq c5, putT_eq c6]
        have := hrow3
        rw [List.append_assoc] at this
        exact .inl this
      have x1 : h'.next + 1 ≤ h2.next := by simpa using hn1
      have x2 : h'.next + 1 ≤ bb := by simpa using hn2
      have x3 : h2.next + 1 ≤ h3.next := by simpa using hm1
      have x4 : h2.next + 1 ≤ cc := by simpa using hm2
      have hkp4 : ∀ c, c < h.next → h3.get c = h.get c := fun c hc => by
        rw [hkeep3 c (by simp; omega) (fun b1 o1 l1 k1 z1 y1 hv => by cases hv; omega), AH.get_alloc, if_neg (by omega), hkeep c (by simp; omega) (fun b1 o1 l1 k1 z1 y1 hv => by have := hnw _ _ _ _ _ _ hv; omega), AH.get_alloc, if_neg (by omega), hkp c hc]
      simp only [lSnd] at e1
      simp +contextual (maxSteps := 3000000) only [↓code_skip, ↓code_seq, ↓code_region, ↓code_cond, ↓code_block, aCond_bool, ↓ops_nil, ↓ops_cons, run_none, ↓run0_v, ↓run0_r, ↓seqK_normal, ↓blkK_normal, put_same, put_ne, ev_tmp, ev_const, oc_int, o_move, o_assign, o_bin, o_len, o_buildSlice, o_load, o_convert, o_indexAddr, o_append, g_none, bin_add, bin_quo, bin_rem, bin_lss, Option.bind_some, decide_eq_true_eq, ↓reduceIte, Nat.reduceEqDiff, not_false_eq_true, Nat.reduceAdd, Nat.reduceMul, reduceCtorEq, Nat.succ_ne_self, List.map_cons, List.map_nil, List.append_nil, List.nil_append, List.cons_append, and_true, Nat.reduceLeDiff, Nat.le_refl, ne_eq, conv_int T3 T5 d5, ia_lst T23 d23 T9 s9, load_fp1 T9 a9, len_str T9 d9, buildSl T25 d25 T5 (n := 3) (by rw [s5]; decide), s5, z5, parts_eq, fillA, AV.cells, AH.splice, List.take_succ_cons, List.take_zero, List.drop_succ_cons, List.drop_zero, List.drop_nil, List.length_cons, List.length_nil, repl, conv_bytes T9 T25 d25 d9 T5 d5 s5, e0, e1, e5, e6, hlen, c2, c3, c3c, c4, w1, w2, w3, happ, happ3, hmx, cast_nonneg, toNat_cast, show ¬ ((256 : Int) = 0) by decide]
      refine hnext (k - 1) _ _ (by omega) ⟨i + 1, .sl cc 0 ((prs (l.take i)).length + 3 + l[i].2.length) ((prs (l.take i)).length + 3 + l[i].2.length) 1 false, by omega, ?_, ?_, ?_, ?_, ?_, ?_⟩
      · exact ⟨hrow4, by omega, hkp4, fun b1 o1 l1 k1 z1 y1 hv => by cases hv; omega⟩
      · omega
      · simp only [put_ne, not_false_eq_true, reduceCtorEq, ne_eq, e0]
      · simp only [put_ne, Nat.reduceEqDiff, not_false_eq_true, ne_eq, e1]; rfl
      · simp only [put_same, put_ne, Nat.reduceEqDiff, not_false_eq_true, ne_eq]
      · simp only [put_same]; rw [wrap_i64 (by omega) (by omega)]; rfl
    · have c2 : ¬ (i : Int) < (l.length : Int) := by omega
      rw [take_end (show i = l.length by omega)] at hrow
      simp only [lSnd] at e1
      simp +contextual (maxSteps := 3000000) only [↓code_seq, ↓code_region, ↓code_cond, ↓code_exit, aCond_bool, ↓ops_nil, ↓ops_cons, run_none, ↓run0_v, ↓seqK_normal, ↓seqK_exit, put_same, put_ne, ev_tmp, o_move, o_bin, o_len, g_none, bin_lss, decide_eq_true_eq, ↓reduceIte, Nat.reduceEqDiff, not_false_eq_true, reduceCtorEq, ne_eq, e0, e6, hlen, c2]
      refine hexit _ _ _ (by simp) ⟨h', v, ?_, hrow, hle, hkp, hnw⟩
      simp +contextual (maxSteps := 3000000) only [↓code_seq, ↓code_region, ↓code_ret, ↓ops_nil, ↓ops_cons, run_none, ↓run0_v, ↓seqK_normal, ↓blkK_exit, ↓retK_ret, put_same, put_ne, ev_tmp, o_move, o_assign, g_none, resultsOf, oneOrAll, Option.map_some, ↓reduceIte, Nat.reduceEqDiff, not_false_eq_true, ne_eq, e5]
  · refine ⟨0, .nils, by omega, ?_, ?_, ?_, ?_, ?_, ?_⟩
    · (exact ⟨.inl (Row.nil _ _), Nat.le_refl _, fun _ _ => rfl, fun b1 o1 l1 k1 z1 x1 hv => by cases hv⟩)
    · omega
    · simp only [put_ne, env0_at, Option.getD_some, not_false_eq_true, reduceCtorEq, List.getElem?_cons_zero, ne_eq]
    · simp only [put_ne, env0_at, Option.getD_some, Nat.reduceEqDiff, not_false_eq_true, List.getElem?_cons_zero, List.getElem?_cons_succ, ne_eq]
    · simp only [put_same, put_ne, Nat.reduceEqDiff, not_false_eq_true, ne_eq]
    · simp only [put_same]; rfl
end Go.AM.X
namespace Go.AM.X
open Go Go.AM Go.Proofs Go.AM.Sx
set_option maxHeartbeats 800000
set_option maxRecDepth 100000
set_option linter.unusedVariables false
theorem F18 : F 18 = some { body := (Try.f18.body.getD .skip), results := Try.f18.results.toList, rf := false } := by kernel_rfl
theorem R18 : regsOk T (Try.f18.body.getD .skip) = true := by kernel_rfl
theorem RdI.sl {h : AH} {b n : Nat} {x : Bool} {l : List Int} {kd : BK} (hn : n = l.length) (hb : b < h.next) (hg : h.get b = some (.cells (l.map (.int .i64)) kd)) : RdI h (.sl b 0 n n 1 x) l where
  len h' := by subst hn; exact len_sl T22 d22
  at_ i hi := by
    refine ⟨.ptr b (0 + i * 1), ?_, fun h' hk => ?_⟩
    · rw [ia_sl T22 d22 T3 s3]
      rw [if_pos ⟨by omega, by omega⟩]
      rfl
    · rw [load_p1 T3 a3]
      simp only [loadc_def, hk b hb, hg]
      simp [hi]
theorem RdI.lst {h : AH} {n : Nat} {x : Bool} {l : List Int} (hn : n = l.length) : RdI h (.lst x 1 n (l.map (.int .i64))) l where
  len h' := by subst hn; exact len_lst T22 d22
  at_ i hi := by
    refine ⟨.fp ((l.map (AV.int .i64)).drop (i * 1)), ?_, fun h' hk => ?_⟩
    · rw [ia_lst T22 d22 T3 s3]
      rw [if_pos ⟨by omega, by omega⟩]
      rfl
    · rw [load_fp1 T3 a3]
      simp [hi]
/-- What such bytes read as, when they are appended. -/
theorem RowE.src {h : AH} {v : AV} {n : Nat} {cs : List AV} (hr : RowE 1 h v n cs) : aSource 1 v h = some (n, cs) := by
  rcases hr with (⟨rfl, rfl, rfl⟩ | ⟨b, rfl, h1, h2, h3, h4⟩) | ⟨b, rfl, h1, h2, h3, h4⟩
  · exact src_nils
  all_goals
    rw [src_sl]
    have : h.loadn b 0 (n * 1) = some cs := by
      simp only [AH.loadn, h4]
      rw [if_pos (by omega), List.drop_zero, List.take_of_length_le (by omega)]
    rw [this]
    rfl
def pairsOf (net : Int) (l : List (List UInt8)) : List (Int × List UInt8) := l.map fun z => (net, z)
def piece (net : Int) (tot : Nat) (l : List (List UInt8)) : List UInt8 := head2 8 tot ++ prs (pairsOf net l)
theorem keepTo {h h2 : AH} {v : AV} {n : Nat} {cs : List AV} (hr : RowE 1 h v n cs) (hn : h.next ≤ h2.next) (hk : ∀ b, b < h.next → h2.get b = h.get b) : RowE 1 h2 v n cs := by
  rcases hr with hr | ⟨b, rfl, h1, h2', h3, h4⟩
  · refine .inl (hr.keep hn fun b hv => hk b ?_)
    rcases hr with ⟨rfl, _⟩ | ⟨b', rfl, _, _, h3, _⟩
    · cases hv
    · cases hv; exact h3
  · exact .inr ⟨b, rfl, h1, h2', by omega, by rw [hk b h3]; exact h4⟩
/-- The elements of a row of rows of bytes. -/
def Els (h : AH) (v : AV) (es : List AV) (ls : List (List UInt8)) : Prop :=
  es.length = ls.length ∧ ∀ (q : Nat) (e : AV) (b : List UInt8), es[q]? = some e → ls[q]? = some b → RowE 1 h e b.length (ofBytes b) ∧ (∀ b1 o l k z x, e = .sl b1 o l k z x → offRow v b1)
def pieces (net : Int) (l : List (List UInt8)) (j : Nat) : List (List UInt8) := (List.range j).map fun q => piece net l.length ((l.drop (3 * q)).take 3)
theorem pieces_succ (net : Int) (l : List (List UInt8)) (j : Nat) : pieces net l (j + 1) = pieces net l j ++ [piece net l.length ((l.drop (3 * j)).take 3)] := by
  simp [pieces, List.range_succ]
theorem piece_snoc {net : Int} {tot : Nat} {l : List (List UInt8)} {a q : Nat} (h : a + q < l.length) : piece net tot ((l.drop a).take (q + 1)) = piece net tot ((l.drop a).take q) ++ prs [(net, l[a + q])] := by
  have h1 : q < (l.drop a).length := by simp; omega
  rw [take_snoc h1]
  have h2 : (l.drop a)[q] = l[a + q] := by simp
  rw [h2]
  simp only [piece, pairsOf, prs, List.map_append, List.map_cons, List.map_nil, List.flatMap_append, List.append_assoc]
end Go.AM.X
namespace Go.AM.X
open Go Go.AM Go.Proofs Go.AM.Sx
set_option maxHeartbeats 800000
set_option maxRecDepth 100000
set_option linter.unusedVariables false
theorem keepE {h h2 : AH} {v : AV} {n : Nat} {cs : List AV} (hr : RowE 1 h v n cs) (hn : h.next ≤ h2.next) (hk : ∀ b o l k z x, v = .sl b o l k z x → h2.get b = h.get b) : RowE 1 h2 v n cs := by
  rcases hr with hr | ⟨b, rfl, h1, h2', h3, h4⟩
  · exact .inl (hr.keep hn fun b hv => hk _ _ _ _ _ _ hv)
  · exact .inr ⟨b, rfl, h1, h2', by omega, by rw [hk _ _ _ _ _ _ rfl]; exact h4⟩
theorem ltE {h : AH} {v : AV} {n : Nat} {cs : List AV} (hr : RowE 1 h v n cs) {b o l k z : Nat} {x : Bool} (hv : v = .sl b o l k z x) : b < h.next := by
  rcases hr with hr | ⟨b', rfl, h1, h2', h3, h4⟩
  · exact hr.lt hv
  · cases hv; exact h3
theorem oneE {h : AH} {v : AV} {n : Nat} {cs : List AV} (hr : RowE 1 h v n cs) : v.one = true := by
  rcases hr with (⟨rfl, _, _⟩ | ⟨b, rfl, _⟩) | ⟨b, rfl, _⟩ <;> rfl
theorem cellsE {h : AH} {v : AV} {n : Nat} {cs : List AV} (hr : RowE 1 h v n cs) : v.cells = some [v] := by
  rcases hr with (⟨rfl, _, _⟩ | ⟨b, rfl, _⟩) | ⟨b, rfl, _⟩ <;> rfl
theorem okFrom_mem : ∀ {l pre : List (List UInt8)}, okFrom pre l = true → ∀ x ∈ l, isZone x = true
  | [], _, _, x, hx => by cases hx
  | y :: l, pre, h, x, hx => by
    simp only [okFrom, Bool.and_eq_true] at h
    rcases List.mem_cons.1 hx with rfl | hx
    · exact h.1.1
    · exact okFrom_mem h.2 x hx
theorem isList_mem {l : List (List UInt8)} (h : isList l = true) : 1 ≤ l.length ∧ l.length ≤ 40 ∧ ∀ x ∈ l, isZone x = true := by
  simp only [isList, Bool.and_eq_true, decide_eq_true_eq] at h
  exact ⟨h.1.1, h.1.2, okFrom_mem h.2⟩
def P18 (net : Int) (l : List (List UInt8)) (r : Rs) : Prop :=
  if isNet net = true ∧ isList l = true then ∃ h' v es, r = some (.tup [v, .int .i64 0], h') ∧ Row 1 h' v ((l.length + 2) / 3) es ∧ Els h' v es (pieces net l ((l.length + 2) / 3))
  else ∃ h', r = some (.tup [.nils, .int .i64 2], h')
theorem run18 {I : Nat → Option (List AV → AH → Rs)} (h25 : I 25 = some (pureG g25)) (h58 : I 58 = none) (h61 : I 61 = none) (h18 : I 18 = none) (net : Int) (l : List (List UInt8)) (m : Nat) (hl : small l) :
    P18 net l (call F I T (m + 300) 18 [.int .i64 net, .lst false 1 l.length (l.map .str)] e0) := by
  unfold P18
  rw [call_F (by decide) h18 F18 rfl R18]; simp only [Try.f18, Option.getD]
  cases q1 : isNet net with
  | false =>
    rw [if_neg (by simp)]
    simp +contextual (maxSteps := 3000000) only [↓code_seq, ↓code_region, ↓code_cond, ↓code_ret, aCond_bool, ↓ops_nil, ↓ops_cons, run_none, run_someF, ↓run0_v, ↓run0_r, ↓seqK_normal, ↓seqK_ret, ↓retK_ret, put_same, put_ne, env0_at, ev_tmp, ev_const, ev_func, oc_int, oc_bool, oc_nils, o_move, o_assign, o_pick, o_call, o_un, g_none, g_some, pick_bool, un_not, resultsOf, oneOrAll, Option.bind_some, Option.map_some, Option.getD_some, ↓reduceIte, Nat.reduceEqDiff, not_false_eq_true, reduceCtorEq, List.getElem?_cons_zero, List.getElem?_cons_succ, List.getElem?_toArray, List.map_cons, List.map_nil, List.append_nil, List.nil_append, Bool.not_false, ne_eq, callV_fn (g := 25) (by decide), callV_fn (g := 61) (by decide), K61 h61, q1]
    exact ⟨_, rfl⟩
  | true =>
    cases q2 : isList l with
    | false =>
      rw [if_neg (by simp)]
      simp +contextual (maxSteps := 3000000) only [↓code_seq, ↓code_region, ↓code_cond, ↓code_ret, aCond_bool, ↓ops_nil, ↓ops_cons, run_none, run_someF, ↓run0_v, ↓run0_r, ↓seqK_normal, ↓seqK_ret, ↓retK_ret, put_same, put_ne, env0_at, ev_tmp, ev_const, ev_func, oc_int, oc_bool, oc_nils, o_move, o_assign, o_pick, o_call, o_un, g_none, g_some, pick_bool, un_not, resultsOf, oneOrAll, Option.bind_some, Option.map_some, Option.getD_some, ↓reduceIte, Nat.reduceEqDiff, not_false_eq_true, reduceCtorEq, List.getElem?_cons_zero, List.getElem?_cons_succ, List.getElem?_toArray, Bool.false_eq_true, List.map_cons, List.map_nil, List.append_nil, List.nil_append, Bool.not_true, Bool.not_false, ne_eq, callV_fn (g := 25) (by decide), K25 h25, callV_fn (g := 61) (by decide), K61 h61, q1, q2, hl]
      exact ⟨_, rfl⟩
    | true =>
      rw [if_pos ⟨rfl, rfl⟩]
      obtain ⟨l1, l2, hall⟩ := isList_mem q2
      have c1 : IntKind.u8.wrap (l.length : Int) = (l.length : Int) := wrap_u8 (by omega) (by omega)
      have hhd : ofBytes (head2 8 l.length) = [.int .u8 8, .int .u8 (l.length : Int)] := by
        have : (UInt8.ofNat l.length).toNat = l.length := toNat_ofNat (by omega)
        simp only [head2, ofBytes, List.map_cons, List.map_nil, this]
        rfl
      simp +contextual (maxSteps := 3000000) only [↓code_skip, ↓code_seq, ↓code_region, ↓code_cond, ↓code_block, ↓code_loop, aCond_bool, ↓ops_nil, ↓ops_cons, run_none, run_someF, ↓run0_v, ↓run0_r, ↓seqK_normal, put_same, put_ne, env0_at, ev_tmp, ev_const, ev_func, oc_int, oc_bool, oc_nils, o_move, o_assign, o_pick, o_call, o_un, g_none, g_some, pick_bool, un_not, Option.bind_some, Option.getD_some, ↓reduceIte, Nat.reduceEqDiff, not_false_eq_true, reduceCtorEq, List.getElem?_cons_zero, List.getElem?_cons_succ, List.getElem?_toArray, Bool.false_eq_true, List.map_cons, List.map_nil, List.append_nil, List.nil_append, Bool.not_true, ne_eq, callV_fn (g := 25) (by decide), K25 h25, callV_fn (g := 61) (by decide), K61 h61, q1, q2, hl]
      refine iterL_wp (Q := fun r => ∃ h' v es, r = some (.tup [v, .int .i64 0], h') ∧ Row 1 h' v ((l.length + 2) / 3) es ∧ Els h' v es (pieces net l ((l.length + 2) / 3))) (N := (l.length + 2) / 3) (Inv := fun k e h' => ∃ j v es, k + j = (l.length + 2) / 3 ∧ j ≤ (l.length + 2) / 3 ∧ Row 1 h' v j es ∧ Els h' v es (pieces net l j) ∧ e 0 = .int .i64 net ∧ e 1 = .lst false 1 l.length (l.map .str) ∧ e 6 = v ∧ e 7 = .int .i64 ((3 * j : Nat) : Int)) ?_ ?_ (by omega)
      · rintro k e h' K' ⟨j, v, es, hk, hj, hrow, hels, e0, e1, e6, e7⟩ hnext hexit
        by_cases hi : 3 * j < l.length
        · have c2 : ((3 * j : Nat) : Int) < (l.length : Int) := by omega
          have c3 : IntKind.i64.wrap (((3 * j : Nat) : Int) + 3) = ((3 * j + 3 : Nat) : Int) := by rw [wrap_i64 (by omega) (by omega)]; omega
          simp +contextual (maxSteps := 3000000) only [↓code_skip, ↓code_seq, ↓code_region, ↓code_cond, ↓code_block, ↓code_loop, aCond_bool, ↓ops_nil, ↓ops_cons, run_none, ↓run0_v, ↓run0_r, ↓seqK_normal, put_same, put_ne, ev_tmp, ev_const, oc_int, o_move, o_assign, o_bin, o_len, o_buildSlice, o_convert, g_none, bin_lss, Option.bind_some, decide_eq_true_eq, ↓reduceIte, Nat.reduceEqDiff, not_false_eq_true, Nat.reduceAdd, Nat.reduceMul, List.map_cons, List.map_nil, List.append_nil, List.nil_append, List.cons_append, and_true, Nat.reduceLeDiff, Nat.le_refl, ne_eq, len_lst T23 d23, conv_int T3 T5 d5, buildSl T25 d25 T5 (n := 2) (by rw [s5]; decide), s5, z5, parts_eq, fillA, AV.cells, AH.splice, List.take_succ_cons, List.take_zero, List.drop_succ_cons, List.drop_zero, List.drop_nil, List.length_cons, List.length_nil, repl, e1, e7, c1, c2]
          have hnext0 := hnext
          have hexit0 := hexit
          obtain ⟨k0, hk0⟩ : ∃ k0, k0 = k := ⟨k, rfl⟩
          rename AH => H
          refine iterL_wp (Q := fun r => ∃ h' v es, r = some (.tup [v, .int .i64 0], h') ∧ Row 1 h' v ((l.length + 2) / 3) es ∧ Els h' v es (pieces net l ((l.length + 2) / 3))) (N := min 3 (l.length - 3 * j)) (Inv := fun k e h' => ∃ q u, k + q = min 3 (l.length - 3 * j) ∧ New57 H h' u (piece net l.length ((l.drop (3 * j)).take q)) ∧ q ≤ 3 ∧ e 0 = .int .i64 net ∧ e 1 = .lst false 1 l.length (l.map .str) ∧ e 6 = v ∧ e 7 = .int .i64 ((3 * j : Nat) : Int) ∧ e 8 = u ∧ e 9 = .int .i64 ((3 * j + q : Nat) : Int)) ?_ ?_ (by omega)
          · rintro k e h' K' ⟨q, u, hk, hnew, hq3, e0, e1, e6, e7, e8, e9⟩ hnext hexit
            obtain ⟨hrw, hle, hkp, hnw⟩ := hnew
            by_cases hq : q < 3 ∧ 3 * j + q < l.length
            · obtain ⟨hqa, hqb⟩ := hq
              have d1 : ((3 * j + q : Nat) : Int) < ((3 * j + 3 : Nat) : Int) := by omega
              have d2 : ((3 * j + q : Nat) : Int) < (l.length : Int) := by omega
              obtain ⟨z, hz⟩ : ∃ z, z = l[3 * j + q] := ⟨_, rfl⟩
              have hzz : isZone z = true := by rw [hz]; exact hall _ (List.getElem_mem hqb)
              have c5 : aSlice T 23 (.lst false 1 l.length (l.map .str)) (some (.int .i64 ((3 * j + q : Nat) : Int))) (some (.int .i64 ((3 * j + q + 1 : Nat) : Int))) none = some (.lst false 1 1 [.str z]) := by
                have := sl_mid (f := AV.str) (l := l) (ex := false) (lo := 3 * j + q) (hi := 3 * j + q + 1) T23 d23 T9 s9 (by omega) (by omega)
                rw [show 3 * j + q + 1 - (3 * j + q) = 1 by omega, drop_cons hqb, ← hz] at this
                exact this
              have c6 : IntKind.i64.wrap (((3 * j + q : Nat) : Int) + 1) = ((3 * j + q + 1 : Nat) : Int) := by rw [wrap_i64 (by omega) (by omega)]; omega
              have hrd : RdI (h'.alloc (.cells [.int .i64 net] .own)) (.sl h'.next 0 1 1 1 true) ([(net, z)].map Prod.fst) := RdI.sl (kd := .own) rfl (by simp) (by rw [AH.get_alloc, if_pos rfl]; rfl)
              have ho : okP [(net, z)] := ⟨by simp, by intro x hx; simp at hx; subst hx; exact ⟨q1, hzz⟩⟩
              obtain ⟨h2, v2, hc2, hw2, hl2, hk2, hn2⟩ := run58h h58 [(net, z)] (.sl h'.next 0 1 1 1 true) false (h'.alloc (.cells [.int .i64 net] .own)) (m + 89) ho hrd
              have hc3 : call F I T (m + 299) 58 [.sl h'.next 0 1 1 1 true, .lst false 1 1 [.str z]] (h'.alloc (.cells [.int .i64 net] .own)) = some (v2, h2) := hc2
              have hl2' : h'.next + 1 ≤ h2.next := by simpa using hl2
              have hk2' : ∀ c, c < h'.next → h2.get c = h'.get c := fun c hc => by rw [hk2 c (by simp; omega), AH.get_alloc, if_neg (by omega)]
              have hpl : (prs [(net, z)]).length ≤ 34 := by have := pr_len ho.2; simpa [prs] using this
              have hpp : 0 < (prs [(net, z)]).length := by simp [prs, pr, be2]
              have hpb : (piece net l.length ((l.drop (3 * j)).take q)).length ≤ 200 := by
                have h1 := pr_len (l := pairsOf net ((l.drop (3 * j)).take q)) (fun x hx => by
                  simp only [pairsOf, List.mem_map] at hx
                  obtain ⟨y, hy, rfl⟩ := hx
                  exact ⟨q1, hall y (List.mem_of_mem_drop (List.mem_of_mem_take hy))⟩)
                have h2 : (pairsOf net ((l.drop (3 * j)).take q)).length ≤ q := by simp [pairsOf]; omega
                simp only [piece, prs, head2, List.length_append, List.length_cons, List.length_nil]
                omega
              obtain ⟨bb, h3, happ, hrow3, hm1, hm2, hkeep3⟩ := (keepTo hrw (by omega) hk2').app T25 d25 T5 (isSrc_sl T25 d25) s5 (by rw [b5]; decide) (m := (prs [(net, z)]).length) (new := ofBytes (prs [(net, z)])) (x := v2)
                (by rw [s5]; exact RowE.src hw2) hpp (by simp [ofBytes]) (ofBytes_one _) (by rw [b5]; unfold maxBytes; omega)
              have hnew4 : New57 H h3 (.sl bb 0 ((piece net l.length ((l.drop (3 * j)).take q)).length + (prs [(net, z)]).length) ((piece net l.length ((l.drop (3 * j)).take q)).length + (prs [(net, z)]).length) 1 false) (piece net l.length ((l.drop (3 * j)).take (q + 1))) := by
                rw [piece_snoc hqb, ← hz]
                refine ⟨?_, by omega, fun c hc => ?_, fun b1 o1 l1 k1 z1 x1 hv => by cases hv; omega⟩
                · rw [List.length_append, ← ofBytes_app]; exact .inl hrow3
                · rw [hkeep3 c (by omega) (fun b1 o1 l1 k1 z1 x1 hv => by have := hnw _ _ _ _ _ _ hv; omega), hk2' c (by omega), hkp c hc]
              simp +contextual (maxSteps := 3000000) only [↓code_skip, ↓code_seq, ↓code_region, ↓code_cond, ↓code_block, aCond_bool, ↓ops_nil, ↓ops_cons, run_none, run_someT, ↓run0_v, ↓run0_r, ↓seqK_normal, ↓blkK_normal, put_same, put_ne, ev_tmp, ev_const, ev_func, oc_int, oc_bool, o_move, o_assign, o_pick, o_bin, o_call, o_len, o_buildSlice, o_slice, o_append, g_none, g_some, pick_bool, bin_add, bin_lss, Option.bind_some, Option.map_some, Option.map_none, decide_eq_true_eq, ↓reduceIte, Nat.reduceEqDiff, not_false_eq_true, Nat.reduceAdd, Nat.reduceMul, reduceCtorEq, Nat.succ_ne_self, List.getElem?_cons_zero, List.getElem?_cons_succ, List.getElem?_toArray, List.map_cons, List.map_nil, List.append_nil, List.nil_append, and_true, Nat.le_refl, ne_eq, len_lst T23 d23, parts_eq, fillA, AV.cells, AH.splice, List.take_zero, List.drop_succ_cons, List.drop_nil, List.length_cons, List.length_nil, repl, buildSl T22 d22 T3 (n := 1) (by rw [s3]; decide), s3, z3, callV_fn (g := 58) (by decide), e0, e1, e7, e8, e9, c3, d1, d2, c5, c6, hc3, happ]
              refine hnext (k - 1) _ _ (by omega) ⟨q + 1, .sl bb 0 ((piece net l.length ((l.drop (3 * j)).take q)).length + (prs [(net, z)]).length) ((piece net l.length ((l.drop (3 * j)).take q)).length + (prs [(net, z)]).length) 1 false, by omega, ?_, ?_, ?_, ?_, ?_, ?_, ?_, ?_⟩
              · exact hnew4
              · omega
              · simp only [put_ne, not_false_eq_true, reduceCtorEq, ne_eq, e0]
              · simp only [put_ne, Nat.reduceEqDiff, not_false_eq_true, ne_eq, e1]
              · simp only [put_ne, Nat.reduceEqDiff, not_false_eq_true, ne_eq, e6]
              · simp only [put_ne, Nat.reduceEqDiff, not_false_eq_true, ne_eq, e7]
              · simp only [put_same, put_ne, Nat.reduceEqDiff, not_false_eq_true, ne_eq]
              · simp only [put_same]; rfl
            · have htk : (l.drop (3 * j)).take q = (l.drop (3 * j)).take 3 := by
                by_cases h3 : q = 3
                · rw [h3]
                · rw [List.take_of_length_le (by simp; omega), List.take_of_length_le (by simp; omega)]
              rw [htk] at hrw
              have hrow1 : Row 1 h' v j es := hrow.keep hle (fun b hv => hkp b (hrow.lt hv))
              obtain ⟨v', h4, happ, hv', hn', hb', hk'⟩ := hrow1.push T30 d30 T25 s25 (by rw [b25]; decide) (x := u) (oneE hrw) (by rw [b25]; unfold maxBytes; omega)
              have hels' : Els h4 v' (es ++ [u]) (pieces net l (j + 1)) := by
                rw [pieces_succ]
                refine ⟨by simp [hels.1], fun q' e' b' hq1 hq2 => ?_⟩
                by_cases hlt : q' < es.length
                · rw [List.getElem?_append_left hlt] at hq1
                  rw [List.getElem?_append_left (by rw [← hels.1]; exact hlt)] at hq2
                  obtain ⟨g1, g2⟩ := hels.2 q' e' b' hq1 hq2
                  refine ⟨keepE g1 (by omega) (fun b1 o1 l1 k1 z1 x1 hv => ?_), fun b1 o1 l1 k1 z1 x1 hv b2 o2 l2 k2 z2 x2 hw => ?_⟩
                  · have g3 := ltE g1 hv
                    rw [hk' b1 (by omega) (g2 _ _ _ _ _ _ hv), hkp b1 g3]
                  · have g3 := ltE g1 hv
                    have g4 := hb' _ _ _ _ _ _ hw
                    omega
                · rw [List.getElem?_append_right (by omega)] at hq1
                  rw [List.getElem?_append_right (by rw [← hels.1]; omega), ← hels.1] at hq2
                  have hq0 : q' - es.length = 0 := by
                    have := (List.getElem?_eq_some_iff.1 hq1).1
                    simp at this; omega
                  rw [hq0] at hq1 hq2
                  simp at hq1 hq2
                  subst hq1 hq2
                  refine ⟨keepE hrw (by omega) (fun b1 o1 l1 k1 z1 x1 hv => ?_), fun b1 o1 l1 k1 z1 x1 hv b2 o2 l2 k2 z2 x2 hw => ?_⟩
                  · have g3 := ltE hrw hv
                    have g5 := hnw _ _ _ _ _ _ hv
                    exact hk' b1 g3 (fun b2 o2 l2 k2 z2 x2 hw => by have := hrow.lt hw; omega)
                  · have g3 := ltE hrw hv
                    have g4 := hb' _ _ _ _ _ _ hw
                    omega
              have hcu := cellsE hrw
              by_cases d1 : ((3 * j + q : Nat) : Int) < ((3 * j + 3 : Nat) : Int)
              · have d2 : ¬ ((3 * j + q : Nat) : Int) < (l.length : Int) := by omega
                simp +contextual (maxSteps := 3000000) only [↓code_seq, ↓code_region, ↓code_cond, ↓code_exit, aCond_bool, ↓ops_nil, ↓ops_cons, run_none, run_someT, ↓run0_v, ↓seqK_normal, ↓seqK_exit, put_same, put_ne, ev_tmp, ev_const, oc_int, oc_bool, o_move, o_pick, o_bin, o_len, g_none, g_some, pick_bool, bin_add, bin_lss, Option.bind_some, decide_eq_true_eq, ↓reduceIte, Nat.reduceEqDiff, not_false_eq_true, List.getElem?_cons_zero, List.getElem?_cons_succ, List.getElem?_toArray, ne_eq, len_lst T23 d23, e1, e7, e9, c3, d1, d2]
                refine hexit _ _ _ (by simp) ?_
                simp +contextual (maxSteps := 3000000) only [↓code_region, ↓ops_nil, ↓ops_cons, run_none, ↓run0_v, ↓run0_r, ↓seqK_normal, ↓blkK_normal, ↓blkK_exit, put_same, put_ne, ev_tmp, ev_const, oc_int, o_move, o_assign, o_bin, o_buildSlice, o_append, g_none, bin_add, Option.bind_some, ↓reduceIte, Nat.reduceEqDiff, not_false_eq_true, Nat.reduceAdd, Nat.reduceMul, Nat.succ_ne_self, List.map_cons, List.map_nil, List.append_nil, List.nil_append, and_true, Nat.le_refl, ne_eq, parts_eq, fillA, AH.splice, List.take_zero, List.drop_succ_cons, List.drop_nil, List.length_cons, List.length_nil, repl, buildSl T30 d30 T25 (n := 1) (by rw [s25]; decide), s25, z25, e6, e7, e8, c3, hcu, happ]
                refine hnext0 (k0 - 1) _ _ (by omega) ⟨j + 1, v', es ++ [u], by omega, by omega, hv', hels', ?_, ?_, ?_, ?_⟩
                · simp only [put_ne, not_false_eq_true, reduceCtorEq, ne_eq, e0]
                · simp only [put_ne, Nat.reduceEqDiff, not_false_eq_true, ne_eq, e1]
                · simp only [put_same, put_ne, Nat.reduceEqDiff, not_false_eq_true, ne_eq]
                · simp only [put_same]; rfl
              · simp +contextual (maxSteps := 3000000) only [↓code_seq, ↓code_region, ↓code_cond, ↓code_exit, aCond_bool, ↓ops_nil, ↓ops_cons, run_none, run_someT, ↓run0_v, ↓seqK_normal, ↓seqK_exit, put_same, put_ne, ev_tmp, ev_const, oc_int, oc_bool, o_move, o_pick, o_bin, o_len, g_none, g_some, pick_bool, bin_add, bin_lss, Option.bind_some, decide_eq_true_eq, ↓reduceIte, Nat.reduceEqDiff, not_false_eq_true, List.getElem?_cons_zero, List.getElem?_cons_succ, List.getElem?_toArray, Bool.false_eq_true, ne_eq, e1, e7, e9, c3, d1]
                refine hexit _ _ _ (by simp) ?_
                simp +contextual (maxSteps := 3000000) only [↓code_region, ↓ops_nil, ↓ops_cons, run_none, ↓run0_v, ↓run0_r, ↓seqK_normal, ↓blkK_normal, ↓blkK_exit, put_same, put_ne, ev_tmp, ev_const, oc_int, o_move, o_assign, o_bin, o_buildSlice, o_append, g_none, bin_add, Option.bind_some, ↓reduceIte, Nat.reduceEqDiff, not_false_eq_true, Nat.reduceAdd, Nat.reduceMul, Nat.succ_ne_self, List.map_cons, List.map_nil, List.append_nil, List.nil_append, and_true, Nat.le_refl, ne_eq, parts_eq, fillA, AH.splice, List.take_zero, List.drop_succ_cons, List.drop_nil, List.length_cons, List.length_nil, repl, buildSl T30 d30 T25 (n := 1) (by rw [s25]; decide), s25, z25, e6, e7, e8, c3, hcu, happ]
                refine hnext0 (k0 - 1) _ _ (by omega) ⟨j + 1, v', es ++ [u], by omega, by omega, hv', hels', ?_, ?_, ?_, ?_⟩
                · simp only [put_ne, not_false_eq_true, reduceCtorEq, ne_eq, e0]
                · simp only [put_ne, Nat.reduceEqDiff, not_false_eq_true, ne_eq, e1]
                · simp only [put_same, put_ne, Nat.reduceEqDiff, not_false_eq_true, ne_eq]
                · simp only [put_same]; rfl
          · refine ⟨0, .sl H.next 0 2 2 1 true, by omega, ?_, ?_, ?_, ?_, ?_, ?_, ?_, ?_⟩
            · (refine ⟨?_, by simp, fun c hc => by rw [AH.get_alloc, if_neg (by omega)], fun b1 o1 l1 k1 z1 x1 hv => by cases hv; omega⟩; simp only [List.take_zero, piece, pairsOf, prs, List.map_nil, List.flatMap_nil, List.append_nil, hhd]; exact RowE.lit (h := H) (by decide) rfl)
            · omega
            · simp only [put_ne, not_false_eq_true, reduceCtorEq, ne_eq, e0]
            · simp only [put_ne, Nat.reduceEqDiff, not_false_eq_true, ne_eq, e1]
            · simp only [put_ne, Nat.reduceEqDiff, not_false_eq_true, ne_eq, e6]
            · simp only [put_ne, Nat.reduceEqDiff, not_false_eq_true, ne_eq, e7]
            · simp only [put_same, put_ne, Nat.reduceEqDiff, not_false_eq_true, ne_eq]
            · simp only [put_same]; rfl
        · have c2 : ¬ ((3 * j : Nat) : Int) < (l.length : Int) := by omega
          have hjj : j = (l.length + 2) / 3 := by omega
          simp +contextual (maxSteps := 3000000) only [↓code_seq, ↓code_region, ↓code_cond, ↓code_exit, aCond_bool, ↓ops_nil, ↓ops_cons, run_none, ↓run0_v, ↓seqK_normal, ↓seqK_exit, put_same, put_ne, ev_tmp, o_move, o_bin, o_len, g_none, bin_lss, decide_eq_true_eq, ↓reduceIte, Nat.reduceEqDiff, not_false_eq_true, ne_eq, len_lst T23 d23, e1, e7, c2]
          refine hexit _ _ _ (by simp) ⟨h', v, es, ?_, by rw [← hjj]; exact hrow, by rw [← hjj]; exact hels⟩
          simp +contextual (maxSteps := 3000000) only [↓code_seq, ↓code_region, ↓code_ret, ↓ops_nil, ↓ops_cons, run_none, ↓run0_v, ↓seqK_normal, ↓blkK_exit, ↓retK_ret, put_same, put_ne, ev_tmp, ev_const, oc_int, o_move, o_assign, g_none, resultsOf, oneOrAll, Option.map_some, ↓reduceIte, Nat.reduceEqDiff, not_false_eq_true, ne_eq, e6]
      · refine ⟨0, .nils, [], by omega, ?_, ?_, ?_, ?_, ?_, ?_, ?_⟩
        · omega
        · exact Row.nil _ _
        · (refine ⟨rfl, fun q e b hq => by simp at hq⟩)
        · simp only [put_ne, env0_at, Option.getD_some, not_false_eq_true, reduceCtorEq, List.getElem?_cons_zero, ne_eq]
        · simp only [put_ne, env0_at, Option.getD_some, Nat.reduceEqDiff, not_false_eq_true, List.getElem?_cons_zero, List.getElem?_cons_succ, ne_eq]
        · simp only [put_same, put_ne, Nat.reduceEqDiff, not_false_eq_true, ne_eq]
        · simp only [put_same, Nat.reduceMul]; rfl
end Go.AM.X
