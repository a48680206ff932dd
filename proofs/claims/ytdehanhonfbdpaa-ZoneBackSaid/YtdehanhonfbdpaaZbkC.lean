/- Lists compared. Own work. -/
import Derived.Test.YtdehanhonfbdpaaZbkB
namespace Go.AM.X
open Go Go.AM Go.Proofs Go.AM.Sx
set_option maxHeartbeats 400000
set_option maxRecDepth 100000
set_option linter.unusedVariables false
theorem F30 : F 30 = some { body := (Try.f30.body.getD .skip), results := Try.f30.results.toList, rf := false } := by kernel_rfl
theorem R30 : regsOk T (Try.f30.body.getD .skip) = true := by kernel_rfl
theorem F31 : F 31 = some { body := (Try.f31.body.getD .skip), results := Try.f31.results.toList, rf := false } := by kernel_rfl
theorem R31 : regsOk T (Try.f31.body.getD .skip) = true := by kernel_rfl
theorem dInt_enc (x : Int) : (vInt .i64).dec ((vInt .i64).enc x) = some x := by simp [vInt, dInt]
noncomputable def g30 := G2 (vList (vInt .i64)) (vList (vInt .i64)) fun a c => if a.length < 140737488355328 ∧ c.length < 140737488355328 then some (.bool (decide (a = c))) else none
theorem run30 {I : Nat → Option (List AV → AH → Rs)}  (h30 : I 30 = none) (a c : List Int) (m : Nat) (hl : a.length < 140737488355328) (hl2 : c.length < 140737488355328) :
    ∃ h', call F I T (a.length + m + 3) 30 [.lst false 1 a.length (a.map (AV.int .i64)), .lst false 1 c.length (c.map (AV.int .i64))] e0 = some (.bool (decide (a = c)), h') := by
  rw [call_F (by decide) h30 F30 rfl R30]; simp only [Try.f30, Option.getD]
  by_cases hne : (a.length : Int) = (c.length : Int)
  · have hac : a.length = c.length := by omega
    simp +contextual (maxSteps := 3000000) only [↓code_skip, ↓code_seq, ↓code_region, ↓code_cond, ↓code_block, ↓code_loop, aCond_bool, ↓ops_nil, ↓ops_cons, run_none, ↓run0_v, ↓seqK_normal, put_same, put_ne, env0_at, ev_tmp, ev_const, oc_int, oc_bool, o_move, o_assign, o_bin, o_len, g_none, bin_neq, Option.getD_some, ↓reduceIte, Nat.reduceEqDiff, not_false_eq_true, not_true_eq_false, reduceCtorEq, List.getElem?_cons_zero, List.getElem?_cons_succ, Bool.not_eq_eq_eq_not, Bool.not_true, ne_eq, decide_eq_false_iff_not, len_lst T22 d22, hne]
    refine iterL_wp (Q := fun r => ∃ h', r = some (.bool (decide (a = c)), h')) (N := a.length) (Inv := fun k e h' => ∃ i, k + i = a.length ∧ a.take i = c.take i ∧ e 0 = .lst false 1 a.length (a.map (AV.int .i64)) ∧ e 1 = .lst false 1 c.length (c.map (AV.int .i64)) ∧ e 5 = .int .i64 (i : Nat)) ?_ ?_ (by omega)
    · rintro k e h' K' ⟨i, hk, ht, e0, e1, e5⟩ hnext hexit
      by_cases hi : i < a.length
      · have hi2 : i < c.length := by omega
        have c1 : (i : Int) < (a.length : Int) := by omega
        have c2 : (i : Int) < (c.length : Int) := by omega
        have c3 := drop_map_0 (f := AV.int .i64) (List.getElem?_eq_getElem hi)
        have c4 := drop_map_0 (f := AV.int .i64) (List.getElem?_eq_getElem hi2)
        by_cases hx : a[i] = c[i]
        · simp +contextual (maxSteps := 3000000) only [↓code_skip, ↓code_seq, ↓code_region, ↓code_cond, ↓code_block, aCond_bool, ↓ops_nil, ↓ops_cons, run_none, ↓run0_v, ↓seqK_normal, ↓blkK_normal, put_same, put_ne, ev_tmp, ev_const, oc_int, o_move, o_assign, o_bin, o_len, o_load, o_indexAddr, g_none, bin_add, bin_neq, bin_lss, decide_eq_true_eq, ↓reduceIte, Nat.reduceEqDiff, not_false_eq_true, not_true_eq_false, reduceCtorEq, and_true, Bool.not_eq_eq_eq_not, Bool.not_true, ne_eq, decide_eq_false_iff_not, len_lst T22 d22, ia_lst T22 d22 T3 s3, load_fp1 T3 a3, e0, e1, e5, c1, c2, c3, c4, cast_nonneg, toNat_cast, hx]
          refine hnext (k - 1) _ _ (by omega) ⟨i + 1, by omega, ?_, ?_, ?_, ?_⟩
          · rw [take_snoc hi, take_snoc hi2, ht, hx]
          · simp only [put_ne, not_false_eq_true, reduceCtorEq, ne_eq, e0]
          · simp only [put_ne, Nat.reduceEqDiff, not_false_eq_true, ne_eq, e1]
          · simp only [put_same]; rw [wrap_i64 (by omega) (by omega)]; rfl
        · have hx' : ¬ a = c := fun h => hx (by simp only [h])
          simp +contextual (maxSteps := 3000000) only [↓code_skip, ↓code_seq, ↓code_region, ↓code_cond, ↓code_block, ↓code_ret, aCond_bool, ↓ops_nil, ↓ops_cons, run_none, ↓run0_v, ↓seqK_normal, ↓seqK_ret, ↓blkK_ret, put_same, put_ne, ev_tmp, ev_const, oc_bool, o_move, o_assign, o_bin, o_len, o_load, o_indexAddr, g_none, bin_neq, bin_lss, decide_eq_true_eq, ↓reduceIte, Nat.reduceEqDiff, not_false_eq_true, reduceCtorEq, and_true, Bool.not_eq_eq_eq_not, Bool.not_true, ne_eq, decide_eq_false_iff_not, len_lst T22 d22, ia_lst T22 d22 T3 s3, load_fp1 T3 a3, e0, e1, e5, c1, c2, c3, c4, cast_nonneg, toNat_cast, hx]
          refine hexit _ _ _ (by simp) ⟨h', ?_⟩
          simp +contextual (maxSteps := 3000000) only [↓seqK_ret, ↓blkK_ret, ↓retK_ret, put_same, resultsOf, oneOrAll, Option.map_some, Bool.not_false, hx', decide_false]
      · have c1 : ¬ (i : Int) < (a.length : Int) := by omega
        have hx : a = c := by rw [take_end (show i = a.length by omega), take_end (show i = c.length by omega)] at ht; exact ht
        simp +contextual (maxSteps := 3000000) only [↓code_seq, ↓code_region, ↓code_cond, ↓code_exit, aCond_bool, ↓ops_nil, ↓ops_cons, run_none, ↓run0_v, ↓seqK_normal, ↓seqK_exit, put_same, put_ne, ev_tmp, o_move, o_bin, o_len, g_none, bin_lss, decide_eq_true_eq, ↓reduceIte, Nat.reduceEqDiff, not_false_eq_true, reduceCtorEq, ne_eq, len_lst T22 d22, e0, e5, c1]
        refine hexit _ _ _ (by simp) ⟨h', ?_⟩
        simp +contextual (maxSteps := 3000000) only [↓code_seq, ↓code_region, ↓code_ret, ↓ops_nil, ↓ops_cons, run_none, ↓run0_v, ↓seqK_normal, ↓blkK_exit, ↓retK_ret, put_same, ev_const, oc_bool, o_assign, g_none, resultsOf, oneOrAll, Option.map_some, ↓reduceIte, hx, decide_true]
    · refine ⟨0, by omega, ?_, ?_, ?_, ?_⟩
      · rfl
      · simp only [put_ne, env0_at, Option.getD_some, not_false_eq_true, reduceCtorEq, List.getElem?_cons_zero, ne_eq]
      · simp only [put_ne, env0_at, Option.getD_some, Nat.reduceEqDiff, not_false_eq_true, List.getElem?_cons_zero, List.getElem?_cons_succ, ne_eq]
      · simp only [put_same]; rfl
  · have hne' : ¬ a = c := fun h => hne (by rw [h])
    simp +contextual (maxSteps := 3000000) only [↓code_seq, ↓code_region, ↓code_cond, ↓code_ret, aCond_bool, ↓ops_nil, ↓ops_cons, run_none, ↓run0_v, ↓seqK_normal, ↓seqK_ret, ↓retK_ret, put_same, put_ne, env0_at, ev_tmp, ev_const, oc_bool, o_move, o_assign, o_bin, o_len, g_none, bin_neq, resultsOf, oneOrAll, Option.map_some, Option.getD_some, ↓reduceIte, Nat.reduceEqDiff, not_false_eq_true, reduceCtorEq, List.getElem?_cons_zero, List.getElem?_cons_succ, Bool.not_eq_eq_eq_not, Bool.not_true, ne_eq, decide_eq_false_iff_not, len_lst T22 d22, hne]
    exact ok_of (by simp [hne'])
theorem K30 {I : Nat → Option (List AV → AH → Rs)} (h30 : I 30 = some (pureG g30)) (m : Nat) (a c : List Int) (ex ex2 : Bool) (h : AH) (hl : a.length < 140737488355328) (hl2 : c.length < 140737488355328) :
    call F I T (m + 1) 30 [.lst ex 1 a.length (a.map (AV.int .i64)), .lst ex2 1 c.length (c.map (AV.int .i64))] h = some (.bool (decide (a = c)), h) := by
  rw [call_I (by decide) h30]
  refine pureG_flat (by have h1 : ∀ l : List Int, flatL (l.map (AV.int .i64)) = true := flatL_map (fun _ => rfl); simp [flatL, AV.flat, h1]) ?_
  have h1 := vList_dec (v := (vInt .i64)) dInt_enc ex a
  have h2 := vList_dec (v := (vInt .i64)) dInt_enc ex2 c
  show ((vList (vInt .i64)).dec (.lst ex 1 a.length (a.map (vInt .i64).enc))).bind _ = _
  rw [h1]
  show ((vList (vInt .i64)).dec (.lst ex2 1 c.length (c.map (vInt .i64).enc))).bind _ = _
  rw [h2]
  simp [hl, hl2]
noncomputable def g31 := G2 (vList vStr) (vList vStr) fun a c => if a.length < 140737488355328 ∧ c.length < 140737488355328 then some (.bool (decide (a = c))) else none
theorem run31 {I : Nat → Option (List AV → AH → Rs)}  (h31 : I 31 = none) (a c : List (List UInt8)) (m : Nat) (hl : a.length < 140737488355328) (hl2 : c.length < 140737488355328) :
    ∃ h', call F I T (a.length + m + 3) 31 [.lst false 1 a.length (a.map (AV.str)), .lst false 1 c.length (c.map (AV.str))] e0 = some (.bool (decide (a = c)), h') := by
  rw [call_F (by decide) h31 F31 rfl R31]; simp only [Try.f31, Option.getD]
  by_cases hne : (a.length : Int) = (c.length : Int)
  · have hac : a.length = c.length := by omega
    simp +contextual (maxSteps := 3000000) only [↓code_skip, ↓code_seq, ↓code_region, ↓code_cond, ↓code_block, ↓code_loop, aCond_bool, ↓ops_nil, ↓ops_cons, run_none, ↓run0_v, ↓seqK_normal, put_same, put_ne, env0_at, ev_tmp, ev_const, oc_int, oc_bool, o_move, o_assign, o_bin, o_len, g_none, bin_neq, Option.getD_some, ↓reduceIte, Nat.reduceEqDiff, not_false_eq_true, not_true_eq_false, reduceCtorEq, List.getElem?_cons_zero, List.getElem?_cons_succ, Bool.not_eq_eq_eq_not, Bool.not_true, ne_eq, decide_eq_false_iff_not, len_lst T23 d23, hne]
    refine iterL_wp (Q := fun r => ∃ h', r = some (.bool (decide (a = c)), h')) (N := a.length) (Inv := fun k e h' => ∃ i, k + i = a.length ∧ a.take i = c.take i ∧ e 0 = .lst false 1 a.length (a.map (AV.str)) ∧ e 1 = .lst false 1 c.length (c.map (AV.str)) ∧ e 5 = .int .i64 (i : Nat)) ?_ ?_ (by omega)
    · rintro k e h' K' ⟨i, hk, ht, e0, e1, e5⟩ hnext hexit
      by_cases hi : i < a.length
      · have hi2 : i < c.length := by omega
        have c1 : (i : Int) < (a.length : Int) := by omega
        have c2 : (i : Int) < (c.length : Int) := by omega
        have c3 := drop_map_0 (f := AV.str) (List.getElem?_eq_getElem hi)
        have c4 := drop_map_0 (f := AV.str) (List.getElem?_eq_getElem hi2)
        by_cases hx : a[i] = c[i]
        · simp +contextual (maxSteps := 3000000) only [↓code_skip, ↓code_seq, ↓code_region, ↓code_cond, ↓code_block, aCond_bool, ↓ops_nil, ↓ops_cons, run_none, ↓run0_v, ↓seqK_normal, ↓blkK_normal, put_same, put_ne, ev_tmp, ev_const, oc_int, o_move, o_assign, o_bin, o_len, o_load, o_indexAddr, g_none, bin_add, bin_lss, str_neq, decide_eq_true_eq, ↓reduceIte, Nat.reduceEqDiff, not_false_eq_true, not_true_eq_false, reduceCtorEq, and_true, Bool.not_eq_eq_eq_not, Bool.not_true, ne_eq, decide_eq_false_iff_not, len_lst T23 d23, ia_lst T23 d23 T9 s9, load_fp1 T9 a9, e0, e1, e5, c1, c2, c3, c4, cast_nonneg, toNat_cast, hx]
          refine hnext (k - 1) _ _ (by omega) ⟨i + 1, by omega, ?_, ?_, ?_, ?_⟩
          · rw [take_snoc hi, take_snoc hi2, ht, hx]
          · simp only [put_ne, not_false_eq_true, reduceCtorEq, ne_eq, e0]
          · simp only [put_ne, Nat.reduceEqDiff, not_false_eq_true, ne_eq, e1]
          · simp only [put_same]; rw [wrap_i64 (by omega) (by omega)]; rfl
        · have hx' : ¬ a = c := fun h => hx (by simp only [h])
          simp +contextual (maxSteps := 3000000) only [↓code_skip, ↓code_seq, ↓code_region, ↓code_cond, ↓code_block, ↓code_ret, aCond_bool, ↓ops_nil, ↓ops_cons, run_none, ↓run0_v, ↓seqK_normal, ↓seqK_ret, ↓blkK_ret, put_same, put_ne, ev_tmp, ev_const, oc_bool, o_move, o_assign, o_bin, o_len, o_load, o_indexAddr, g_none, bin_lss, str_neq, decide_eq_true_eq, ↓reduceIte, Nat.reduceEqDiff, not_false_eq_true, reduceCtorEq, and_true, Bool.not_eq_eq_eq_not, Bool.not_true, ne_eq, decide_eq_false_iff_not, len_lst T23 d23, ia_lst T23 d23 T9 s9, load_fp1 T9 a9, e0, e1, e5, c1, c2, c3, c4, cast_nonneg, toNat_cast, hx]
          refine hexit _ _ _ (by simp) ⟨h', ?_⟩
          simp +contextual (maxSteps := 3000000) only [↓seqK_ret, ↓blkK_ret, ↓retK_ret, put_same, resultsOf, oneOrAll, Option.map_some, Bool.not_false, hx', decide_false]
      · have c1 : ¬ (i : Int) < (a.length : Int) := by omega
        have hx : a = c := by rw [take_end (show i = a.length by omega), take_end (show i = c.length by omega)] at ht; exact ht
        simp +contextual (maxSteps := 3000000) only [↓code_seq, ↓code_region, ↓code_cond, ↓code_exit, aCond_bool, ↓ops_nil, ↓ops_cons, run_none, ↓run0_v, ↓seqK_normal, ↓seqK_exit, put_same, put_ne, ev_tmp, o_move, o_bin, o_len, g_none, bin_lss, decide_eq_true_eq, ↓reduceIte, Nat.reduceEqDiff, not_false_eq_true, reduceCtorEq, ne_eq, len_lst T23 d23, e0, e5, c1]
        refine hexit _ _ _ (by simp) ⟨h', ?_⟩
        simp +contextual (maxSteps := 3000000) only [↓code_seq, ↓code_region, ↓code_ret, ↓ops_nil, ↓ops_cons, run_none, ↓run0_v, ↓seqK_normal, ↓blkK_exit, ↓retK_ret, put_same, ev_const, oc_bool, o_assign, g_none, resultsOf, oneOrAll, Option.map_some, ↓reduceIte, hx, decide_true]
    · refine ⟨0, by omega, ?_, ?_, ?_, ?_⟩
      · rfl
      · simp only [put_ne, env0_at, Option.getD_some, not_false_eq_true, reduceCtorEq, List.getElem?_cons_zero, ne_eq]
      · simp only [put_ne, env0_at, Option.getD_some, Nat.reduceEqDiff, not_false_eq_true, List.getElem?_cons_zero, List.getElem?_cons_succ, ne_eq]
      · simp only [put_same]; rfl
  · have hne' : ¬ a = c := fun h => hne (by rw [h])
    simp +contextual (maxSteps := 3000000) only [↓code_seq, ↓code_region, ↓code_cond, ↓code_ret, aCond_bool, ↓ops_nil, ↓ops_cons, run_none, ↓run0_v, ↓seqK_normal, ↓seqK_ret, ↓retK_ret, put_same, put_ne, env0_at, ev_tmp, ev_const, oc_bool, o_move, o_assign, o_bin, o_len, g_none, bin_neq, resultsOf, oneOrAll, Option.map_some, Option.getD_some, ↓reduceIte, Nat.reduceEqDiff, not_false_eq_true, reduceCtorEq, List.getElem?_cons_zero, List.getElem?_cons_succ, Bool.not_eq_eq_eq_not, Bool.not_true, ne_eq, decide_eq_false_iff_not, len_lst T23 d23, hne]
    exact ok_of (by simp [hne'])
theorem K31 {I : Nat → Option (List AV → AH → Rs)} (h31 : I 31 = some (pureG g31)) (m : Nat) (a c : List (List UInt8)) (ex ex2 : Bool) (h : AH) (hl : a.length < 140737488355328) (hl2 : c.length < 140737488355328) :
    call F I T (m + 1) 31 [.lst ex 1 a.length (a.map (AV.str)), .lst ex2 1 c.length (c.map (AV.str))] h = some (.bool (decide (a = c)), h) := by
  rw [call_I (by decide) h31]
  refine pureG_flat (by have h1 : ∀ l : List (List UInt8), flatL (l.map (AV.str)) = true := flatL_map (fun _ => rfl); simp [flatL, AV.flat, h1]) ?_
  have h1 := vList_dec (v := vStr) dStr_enc ex a
  have h2 := vList_dec (v := vStr) dStr_enc ex2 c
  show ((vList vStr).dec (.lst ex 1 a.length (a.map vStr.enc))).bind _ = _
  rw [h1]
  show ((vList vStr).dec (.lst ex2 1 c.length (c.map vStr.enc))).bind _ = _
  rw [h2]
  simp [hl, hl2]
end Go.AM.X
namespace Go.AM.X
open Go Go.AM Go.Proofs Go.AM.Sx
set_option maxHeartbeats 800000
set_option maxRecDepth 100000
set_option linter.unusedVariables false
end Go.AM.X
namespace Go.AM.X
open Go Go.AM Go.Proofs Go.AM.Sx
set_option maxHeartbeats 800000
set_option maxRecDepth 100000
set_option linter.unusedVariables false
end Go.AM.X
namespace Go.AM.Sx
open Go Go.AM
set_option linter.unusedVariables false
/-- Two rows lie apart. -/
def apart (v w : AV) : Prop := ∀ b o l k z x, w = .sl b o l k z x → offRow v b
theorem Row.lt {h : AH} {v : AV} {n : Nat} {cs : List AV} (hr : Row 1 h v n cs) {b o l k z : Nat} {x : Bool} (hv : v = .sl b o l k z x) : b < h.next := by
  rcases hr with ⟨rfl, _⟩ | ⟨b', rfl, _, _, h3, _⟩
  · cases hv
  · cases hv; exact h3
theorem Row.put {h : AH} {v : AV} {n : Nat} {cs : List AV} (hr : Row 1 h v n cs) {q : Nat} (hoff : offRow v q) (x : AB) : Row 1 (h.put q x) v n cs :=
  hr.keep (by simp) (fun bl hv => by rw [AH.get_put, if_neg (fun hq => hoff _ _ _ _ _ _ hv hq.symm)])
/-- Something is pushed on a row. -/
theorem Row.push {T : TT} {h : AH} {t el : Nat} {ti te : TI} {v x : AV} {n : Nat} {cs : List AV} (ht : T t = some ti) (hd : ti.desc = .slice el) (he : T el = some te) (hz : te.size = 1) (hb : 0 < te.bytes) (ho : Row 1 h v n cs) (hone : x.one = true)
    (hsm : (n + 1) * te.bytes < maxBytes) :
    ∃ v' h2, aAppend T t t v (.sl h.next 0 1 1 1 true) (h.alloc (.cells [x] .own)) = some (v', h2) ∧ Row 1 h2 v' (n + 1) (cs ++ [x]) ∧ h.next ≤ h2.next ∧ (∀ b o l k z x, v' = .sl b o l k z x → h.next ≤ b) ∧ (∀ c, c < h.next → offRow v c → h2.get c = h.get c) := by
  obtain ⟨bb, h2, happ, hrow2, hn1, hn2, hkeep⟩ := (ho.alloc (.cells [x] .own)).app ht hd he (isSrc_sl ht hd) hz hb (m := 1) (new := [x])
    (x := .sl h.next 0 1 1 1 true) (by rw [hz, src_sl]; simp [AH.loadn, AH.get_alloc]) (by omega) rfl (by simp [hone]) hsm
  refine ⟨_, h2, happ, hrow2, by simp at hn1; omega, fun b o l k z y hv => by cases hv; simp at hn2; omega, fun c hc hoff => ?_⟩
  rw [hkeep c (by simp; omega) hoff, AH.get_alloc, if_neg (by omega)]
/-- Another row is kept. -/
theorem Row.keep2 {h h2 : AH} {v w : AV} {m : Nat} {cs : List AV} (hw : Row 1 h w m cs) (hn : h.next ≤ h2.next) (hk : ∀ c, c < h.next → offRow v c → h2.get c = h.get c) (ha : apart v w) : Row 1 h2 w m cs :=
  hw.keep hn (fun b hv => hk b (hw.lt hv) (ha _ _ _ _ _ _ hv))
end Go.AM.Sx
namespace Go.AM.X
open Go Go.AM Go.Proofs Go.AM.Sx
set_option maxHeartbeats 800000
set_option maxRecDepth 100000
set_option linter.unusedVariables false
def lFst (l : List (Int × List UInt8)) : List AV := l.map fun x => .int .i64 x.1
def lSnd (l : List (Int × List UInt8)) : List AV := l.map fun x => .str x.2
def t3q (x : List (Int × List UInt8) × Int) : AV := .tup [.lst false 1 x.1.length (lFst x.1), .lst false 1 x.1.length (lSnd x.1), .int .i64 x.2]
def stp (b : List UInt8) : Int → Int → (Int × List UInt8) × Int × Int := two (netS b) (zoneS b)
def Q28 (g : List (Int × List UInt8) × Int) (r : Rs) : Prop := ∃ h' v w, r = some (.tup [v, w, .int .i64 g.2], h') ∧ Row 1 h' v g.1.length (lFst g.1) ∧ Row 1 h' w g.1.length (lSnd g.1)
noncomputable def g28 := G1 (vList vByte) fun b => if b.length < 140737488355328 then some (t3q (getQ 2 stp b)) else none
theorem run28 {I : Nat → Option (List AV → AH → Rs)} (h68 : I 68 = none) (h51 : I 51 = none) (h102 : I 102 = some (pureG g102)) (h69 : I 69 = none) (h70 : I 70 = none) (h22 : I 22 = none) (h104 : I 104 = none) (h74 : I 74 = none) (h28 : I 28 = none) (b : List UInt8) (m : Nat) (hl : b.length < 140737488355328) :
    Q28 (getQ 2 stp b) (call F I T (m + 110) 28 [.lst false 1 b.length (b.map vByte.enc)] e0) := by
  obtain ⟨hs1, hs2, hs3⟩ := beginS_ok 2 b
  obtain ⟨N0, p0, er0, hs⟩ : ∃ N p e, beginS 2 b = (N, p, e) := ⟨_, _, _, rfl⟩
  rw [hs] at hs1 hs2 hs3
  simp only at hs1 hs2 hs3
  obtain ⟨N, rfl⟩ : ∃ N : Nat, N0 = N := ⟨N0.toNat, by omega⟩
  obtain ⟨R, hR⟩ : ∃ R, R = gl (stp b) N p0 er0 [] := ⟨_, rfl⟩
  have hG : getQ 2 stp b = if endS b R.2.1 R.2.2 = 0 then (R.1, 0) else ([], endS b R.2.1 R.2.2) := by
    simp only [getQ, hs, hR, toNat_cast]
  rw [call_F (by decide) h28 F28 rfl R28]; simp only [Try.f28, Option.getD]
  have k1 : ∀ m, call F I T (m + 1) 68 [.ptr 0 0, .int .u8 2] (e0.alloc (rd false b 0 0)) = some (.int .i64 (N : Nat), (e0.alloc (rd false b 0 0)).put 0 (rd false b p0 er0)) := fun m => by
    have := K68 h68 m b false 2 0 (e0.alloc (rd false b 0 0)) (by rw [AH.get_alloc]; rfl)
    rw [hs] at this; exact this
  have k1' := k1
  unfold rd at k1'
  simp +contextual (maxSteps := 3000000) only [↓code_seq, ↓code_region, ↓code_block, ↓code_loop, ↓ops_nil, ↓ops_cons, run_none, ↓run0_v, ↓run0_r, ↓seqK_normal, put_same, put_ne, env0_at, ev_tmp, ev_const, ev_func, oc_int, oc_nils, o_move, o_assign, o_call, o_box, o_build, g_none, next_e0, Option.map_some, Option.getD_some, ↓reduceIte, not_false_eq_true, Nat.reduceAdd, reduceCtorEq, List.getElem?_cons_zero, List.map_cons, List.map_nil, List.append_nil, List.nil_append, List.cons_append, and_true, Nat.reduceLeDiff, ne_eq, build_struct T88 d88, z88, parts_eq, fillA, AV.cells, AH.splice, List.take_zero, List.drop_succ_cons, List.drop_zero, List.length_cons, List.length_nil, p88_0, box_agg, callV_fn (g := 68) (by decide), k1']
  refine iterL_wp (Q := fun r => Q28 (getQ 2 stp b) r) (N := N) (Inv := fun k e h' => ∃ i v w p er o, k + i = N ∧ R = gl (stp b) (N - i) p er o ∧ o.length = i ∧ Row 1 h' v i (lFst o) ∧ Row 1 h' w i (lSnd o) ∧ h'.get 0 = some (rd false b p er) ∧ ok b p er ∧ offRow v 0 ∧ offRow w 0 ∧ apart v w ∧ apart w v ∧ 0 < h'.next ∧ e 2 = v ∧ e 3 = w ∧ e 4 = .int .i64 0 ∧ e 5 = .ptr 0 0 ∧ e 6 = .int .i64 (N : Nat) ∧ e 7 = .int .i64 (i : Nat)) ?_ ?_ (by omega)
  · rintro k e h' K' ⟨i, v, w, p, er, o, hk, hr, ho, hrow, hrw, hb, hok, hoff, hofw, hap, hap2, hnx, e2, e3, e4, e5, e6, e7⟩ hnext hexit
    have hb' := hb
    unfold rd at hb'
    have hlast : gl (stp b) (N - i) p er o = (o, p, er) → getQ 2 stp b = if endS b p er = 0 then (o, 0) else ([], endS b p er) := fun hh => by
      rw [hG, hr, hh]
    by_cases hgo : (i : Int) < (N : Int) ∧ er = 0
    · obtain ⟨c1, rfl⟩ := hgo
      obtain ⟨x, p1, er1, hn⟩ : ∃ x p' e', netS b p 0 = (x, p', e') := ⟨_, _, _, rfl⟩
      obtain ⟨y, p2, er2, hz⟩ : ∃ y p' e', zoneS b p1 er1 = (y, p', e') := ⟨_, _, _, rfl⟩
      have k2 := fun m => K69 h51 h102 h69 m b false p 0 0 h' hl hok hb
      have ok1 := netS_ok hok
      rw [hn] at k2 ok1
      simp only at ok1
      have ok2 := zoneS_ok ok1
      rw [hz] at ok2
      obtain ⟨v2, h2, happ, hv2, hn2, hb2, hk2⟩ := (hrow.put hoff (rd false b p1 er1)).push T22 d22 T3 s3 (by rw [b3]; decide) (x := .int .i64 x) rfl (by rw [b3]; unfold maxBytes; omega)
      have hrw2 := (hrw.put hofw (rd false b p1 er1)).keep2 hn2 hk2 hap
      have g2 : h2.get 0 = some (rd false b p1 er1) := by rw [hk2 0 hnx hoff, AH.get_put, if_pos rfl]
      simp only [AH.next_put] at happ hn2 hb2
      have of2 : offRow v2 0 := fun b1 o1 l1 k1 z1 x1 hv => by have := hb2 _ _ _ _ _ _ hv; omega
      have k4 := fun m => K74 h22 h102 h104 h74 m b false p1 er1 0 h2 hl ok1 g2
      rw [hz] at k4
      have hv2' := hv2.put of2 (rd false b p2 er2)
      obtain ⟨w2, h3, happ3, hw3, hn3, hb3, hk3⟩ := (hrw2.put hofw (rd false b p2 er2)).push T23 d23 T9 s9 (by rw [b9]; decide) (x := .str y) rfl (by rw [b9]; unfold maxBytes; omega)
      have hv3 := hv2'.keep2 hn3 hk3 (fun b1 o1 l1 k1 z1 x1 hv b2 o2 l2 k2 z2 x2 hw => by
        have a1 := hb2 _ _ _ _ _ _ hv
        have a2 := hrw.lt hw
        omega)
      have hnx2 : 0 < h2.next := by omega
      have g3 : h3.get 0 = some (rd false b p2 er2) := by rw [hk3 0 hnx2 hofw, AH.get_put, if_pos rfl]
      simp only [AH.next_put] at happ3 hn3 hb3
      simp +contextual (maxSteps := 3000000) only [↓code_skip, ↓code_seq, ↓code_region, ↓code_cond, ↓code_block, aCond_bool, ↓ops_nil, ↓ops_cons, run_none, run_someT, ↓run0_v, ↓run0_r, ↓seqK_normal, ↓blkK_normal, put_same, put_ne, ev_tmp, ev_const, ev_func, oc_int, oc_bool, o_move, o_assign, o_pick, o_bin, o_call, o_buildSlice, o_load, o_nilCheck, o_fieldAddr, o_append, g_none, g_some, pick_bool, bin_add, bin_eql, bin_lss, nil_ptr, Option.bind_some, decide_eq_true_eq, ↓reduceIte, Nat.reduceEqDiff, not_false_eq_true, Nat.reduceAdd, Nat.reduceMul, Nat.succ_ne_self, List.getElem?_cons_zero, List.getElem?_cons_succ, List.getElem?_toArray, List.map_cons, List.map_nil, List.append_nil, List.nil_append, AH.next_put, and_true, Nat.le_refl, ne_eq, parts_eq, fillA, AV.cells, AH.splice, List.take_zero, List.drop_succ_cons, List.drop_nil, List.length_cons, List.length_nil, fa_ptr T88 p88_2 (by decide), load_p1 T26 a26, loadc_def, buildSl T22 d22 T3 (n := 1) (by rw [s3]; decide), s3, z3, repl, buildSl T23 d23 T9 (n := 1) (by rw [s9]; decide), s9, z9, callV_fn (g := 69) (by decide), callV_fn (g := 74) (by decide), e2, e3, e5, e6, e7, c1, hb', k2, happ, k4, happ3]
      refine hnext (k - 1) _ _ (by omega) ⟨i + 1, v2, w2, p2, er2, o ++ [(x, y)], by omega, ?_, ?_, ?_, ?_, ?_, ?_, ?_, ?_, ?_, ?_, ?_, ?_, ?_, ?_, ?_, ?_, ?_⟩
      · rw [hr, show N - i = (N - (i + 1)) + 1 by omega]; simp [gl, stp, two, hn, hz]
      · simp [ho]
      · simpa [lFst] using hv3
      · simpa [lSnd] using hw3
      · exact g3
      · exact ok2
      · exact of2
      · (intro b1 o1 l1 k1 z1 x1 hv; have := hb3 _ _ _ _ _ _ hv; omega)
      · (intro b1 o1 l1 k1 z1 x1 hw b2 o2 l2 k2 z2 x2 hv; have a1 := hb3 _ _ _ _ _ _ hw; have a2 := hv2.lt hv; omega)
      · (intro b1 o1 l1 k1 z1 x1 hv b2 o2 l2 k2 z2 x2 hw; have a1 := hb3 _ _ _ _ _ _ hw; have a2 := hv2.lt hv; omega)
      · omega
      · simp only [put_same, put_ne, Nat.reduceEqDiff, not_false_eq_true, ne_eq]
      · simp only [put_same, put_ne, Nat.reduceEqDiff, not_false_eq_true, ne_eq]
      · simp only [put_ne, Nat.reduceEqDiff, not_false_eq_true, Nat.succ_ne_self, ne_eq, e4]
      · simp only [put_ne, Nat.reduceEqDiff, not_false_eq_true, ne_eq, e5]
      · simp only [put_ne, Nat.reduceEqDiff, not_false_eq_true, ne_eq, e6]
      · simp only [put_same]; rw [wrap_i64 (by omega) (by omega)]; rfl
    · have hlst := hlast (by
        by_cases hi : i < N
        · exact gl_err _ _ _ _ _ (fun he => hgo ⟨by omega, he⟩)
        · rw [show N - i = 0 by omega]; rfl)
      have k3 := fun m => K70 h70 m b false p er 0 h' hb
      obtain ⟨E, hE0⟩ : ∃ E, E = endS b p er := ⟨_, rfl⟩
      simp only [← hE0] at k3 hlst
      by_cases c1 : (i : Int) < (N : Int)
      · have he : ¬ er = 0 := fun he => hgo ⟨c1, he⟩
        simp +contextual (maxSteps := 3000000) only [↓code_seq, ↓code_region, ↓code_cond, ↓code_exit, aCond_bool, ↓ops_nil, ↓ops_cons, run_none, run_someT, ↓run0_v, ↓seqK_normal, ↓seqK_exit, put_same, put_ne, ev_tmp, ev_const, oc_int, oc_bool, o_move, o_pick, o_bin, o_load, o_nilCheck, o_fieldAddr, g_none, g_some, pick_bool, bin_eql, bin_lss, nil_ptr, Option.bind_some, decide_eq_true_eq, ↓reduceIte, Nat.reduceEqDiff, not_false_eq_true, Nat.reduceAdd, List.getElem?_cons_zero, List.getElem?_cons_succ, List.getElem?_toArray, ne_eq, fa_ptr T88 p88_2 (by decide), load_p1 T26 a26, loadc_def, e5, e6, e7, c1, hb', he]
        refine hexit _ _ _ (by simp) ?_
        by_cases hE : E = 0
        · refine ⟨h'.put 0 (rd false b p E), v, w, ?_, ?_, ?_⟩
          · simp +contextual (maxSteps := 3000000) only [↓code_skip, ↓code_seq, ↓code_region, ↓code_cond, ↓code_ret, aCond_bool, ↓ops_nil, ↓ops_cons, run_none, ↓run0_v, ↓run0_r, ↓seqK_normal, ↓blkK_exit, ↓retK_ret, put_same, put_ne, ev_tmp, ev_const, ev_func, oc_int, o_move, o_assign, o_bin, o_call, g_none, bin_neq, resultsOf, oneOrAll, Option.map_some, ↓reduceIte, Nat.reduceEqDiff, not_false_eq_true, not_true_eq_false, List.map_cons, List.map_nil, List.append_nil, List.nil_append, Bool.not_eq_eq_eq_not, Bool.not_true, ne_eq, decide_eq_false_iff_not, callV_fn (g := 70) (by decide), e2, e3, e5, k3, rd, hE, hlst]
          · rw [hlst, if_pos hE, ho]; exact hrow.put hoff _
          · rw [hlst, if_pos hE, ho]; exact hrw.put hofw _
        · refine ⟨h'.put 0 (rd false b p E), .nils, .nils, ?_, ?_, ?_⟩
          · simp +contextual (maxSteps := 3000000) only [↓code_seq, ↓code_region, ↓code_cond, ↓code_ret, aCond_bool, ↓ops_nil, ↓ops_cons, run_none, ↓run0_v, ↓run0_r, ↓seqK_normal, ↓seqK_ret, ↓blkK_exit, ↓retK_ret, put_same, put_ne, ev_tmp, ev_const, ev_func, oc_int, oc_nils, o_move, o_assign, o_bin, o_call, o_load, o_nilCheck, o_fieldAddr, g_none, bin_neq, nil_ptr, resultsOf, oneOrAll, Option.map_some, ↓reduceIte, Nat.reduceEqDiff, not_false_eq_true, Nat.reduceAdd, List.getElem?_cons_zero, List.getElem?_cons_succ, List.map_cons, List.map_nil, List.append_nil, List.nil_append, AH.get_put, Bool.not_eq_eq_eq_not, Bool.not_true, ne_eq, decide_eq_false_iff_not, fa_ptr T88 p88_2 (by decide), load_p1 T26 a26, loadc_def, callV_fn (g := 70) (by decide), e5, k3, rd, hE, hlst]
          · rw [hlst, if_neg hE]; exact Row.nil _ _
          · rw [hlst, if_neg hE]; exact Row.nil _ _
      · simp +contextual (maxSteps := 3000000) only [↓code_seq, ↓code_region, ↓code_cond, ↓code_exit, aCond_bool, ↓ops_nil, ↓ops_cons, run_none, run_someT, ↓run0_v, ↓seqK_normal, ↓seqK_exit, put_same, put_ne, ev_tmp, ev_const, oc_int, oc_bool, o_move, o_pick, o_bin, o_load, o_nilCheck, o_fieldAddr, g_none, g_some, pick_bool, bin_lss, Option.bind_some, decide_eq_true_eq, ↓reduceIte, Nat.reduceEqDiff, not_false_eq_true, List.getElem?_cons_zero, List.getElem?_cons_succ, List.getElem?_toArray, Bool.false_eq_true, ne_eq, e5, e6, e7, c1]
        refine hexit _ _ _ (by simp) ?_
        by_cases hE : E = 0
        · refine ⟨h'.put 0 (rd false b p E), v, w, ?_, ?_, ?_⟩
          · simp +contextual (maxSteps := 3000000) only [↓code_skip, ↓code_seq, ↓code_region, ↓code_cond, ↓code_ret, aCond_bool, ↓ops_nil, ↓ops_cons, run_none, ↓run0_v, ↓run0_r, ↓seqK_normal, ↓blkK_exit, ↓retK_ret, put_same, put_ne, ev_tmp, ev_const, ev_func, oc_int, o_move, o_assign, o_bin, o_call, g_none, bin_neq, resultsOf, oneOrAll, Option.map_some, ↓reduceIte, Nat.reduceEqDiff, not_false_eq_true, not_true_eq_false, List.map_cons, List.map_nil, List.append_nil, List.nil_append, Bool.not_eq_eq_eq_not, Bool.not_true, ne_eq, decide_eq_false_iff_not, callV_fn (g := 70) (by decide), e2, e3, e5, k3, rd, hE, hlst]
          · rw [hlst, if_pos hE, ho]; exact hrow.put hoff _
          · rw [hlst, if_pos hE, ho]; exact hrw.put hofw _
        · refine ⟨h'.put 0 (rd false b p E), .nils, .nils, ?_, ?_, ?_⟩
          · simp +contextual (maxSteps := 3000000) only [↓code_seq, ↓code_region, ↓code_cond, ↓code_ret, aCond_bool, ↓ops_nil, ↓ops_cons, run_none, ↓run0_v, ↓run0_r, ↓seqK_normal, ↓seqK_ret, ↓blkK_exit, ↓retK_ret, put_same, put_ne, ev_tmp, ev_const, ev_func, oc_int, oc_nils, o_move, o_assign, o_bin, o_call, o_load, o_nilCheck, o_fieldAddr, g_none, bin_neq, nil_ptr, resultsOf, oneOrAll, Option.map_some, ↓reduceIte, Nat.reduceEqDiff, not_false_eq_true, Nat.reduceAdd, List.getElem?_cons_zero, List.getElem?_cons_succ, List.map_cons, List.map_nil, List.append_nil, List.nil_append, AH.get_put, Bool.not_eq_eq_eq_not, Bool.not_true, ne_eq, decide_eq_false_iff_not, fa_ptr T88 p88_2 (by decide), load_p1 T26 a26, loadc_def, callV_fn (g := 70) (by decide), e5, k3, rd, hE, hlst]
          · rw [hlst, if_neg hE]; exact Row.nil _ _
          · rw [hlst, if_neg hE]; exact Row.nil _ _
  · refine ⟨0, .nils, .nils, p0, er0, [], by omega, ?_, ?_, ?_, ?_, ?_, ?_, ?_, ?_, ?_, ?_, ?_, ?_, ?_, ?_, ?_, ?_, ?_⟩
    · exact hR
    · rfl
    · exact Row.nil _ _
    · exact Row.nil _ _
    · rw [AH.get_put, if_pos rfl]; rfl
    · exact hs1
    · (intro b1 o1 l1 k1 z1 x1 hv; cases hv)
    · (intro b1 o1 l1 k1 z1 x1 hv; cases hv)
    · (intro b1 o1 l1 k1 z1 x1 hv; cases hv)
    · (intro b1 o1 l1 k1 z1 x1 hv; cases hv)
    · simp
    · simp only [put_same, put_ne, Nat.reduceEqDiff, not_false_eq_true, ne_eq]
    · simp only [put_same, put_ne, Nat.reduceEqDiff, not_false_eq_true, ne_eq]
    · simp only [put_same, put_ne, Nat.reduceEqDiff, not_false_eq_true, ne_eq]
    · simp only [put_same, put_ne, Nat.reduceEqDiff, not_false_eq_true, ne_eq]
    · simp only [put_same, put_ne, Nat.reduceEqDiff, not_false_eq_true, ne_eq]
    · simp only [put_same]; rfl
end Go.AM.X
namespace Go.AM.X
open Go Go.AM Go.Proofs Go.AM.Sx
set_option maxHeartbeats 800000
set_option maxRecDepth 100000
set_option linter.unusedVariables false
end Go.AM.X
namespace Go.AM.X
open Go Go.AM Go.Proofs Go.AM.Sx
set_option maxHeartbeats 400000
set_option maxRecDepth 100000
set_option linter.unusedVariables false
theorem frz_tup2 {k : Nat} {h : AH} {v v0 w w0 : AV} {n : Int} (hv : frzF false k h v = some v0) (hw : frzF false k h w = some w0) : frzF false (k + 1) h (.tup [v, w, .int .i64 n]) = some (.tup [v0, w0, .int .i64 n]) := by
  cases k with
  | zero => simp [frzF] at hv
  | succ k =>
    show (frzMap (frzF false (k + 1) h) [v, w, .int .i64 n]).map AV.tup = _
    have h1 : frzF false (k + 1) h (.int .i64 n) = some (.int .i64 n) := rfl
    simp only [frzMap, hv, hw, h1, Option.map_some]
theorem dec_bytes (ex : Bool) (b : List UInt8) : (vList vByte).dec (.lst ex 1 b.length (b.map vByte.enc)) = some b := vList_dec dByte_enc' ex b
theorem flat1 (ex : Bool) (b : List UInt8) : flatL [AV.lst ex 1 b.length (b.map vByte.enc)] = true := by
  have h1 : flatL (b.map vByte.enc) = true := flatL_map (fun _ => rfl) b
  simp [flatL, AV.flat, h1]
theorem K26 {I : Nat → Option (List AV → AH → Rs)} (h26 : I 26 = some (pureG g26)) (m : Nat) (b : List UInt8) (ex : Bool) (h : AH) (hl : b.length < 140737488355328) : call F I T (m + 1) 26 [.lst ex 1 b.length (b.map vByte.enc)] h = some (t2q (getQ 1 netS b), h) := by
  rw [call_I (by decide) h26]
  refine pureG_flat (flat1 ex b) ?_
  show ((vList vByte).dec (.lst ex 1 b.length (b.map vByte.enc))).bind _ = _
  rw [dec_bytes]
  simp [hl]
theorem K28 {I : Nat → Option (List AV → AH → Rs)} (h28 : I 28 = some (pureG g28)) (m : Nat) (b : List UInt8) (ex : Bool) (h : AH) (hl : b.length < 140737488355328) : call F I T (m + 1) 28 [.lst ex 1 b.length (b.map vByte.enc)] h = some (t3q (getQ 2 stp b), h) := by
  rw [call_I (by decide) h28]
  refine pureG_flat (flat1 ex b) ?_
  show ((vList vByte).dec (.lst ex 1 b.length (b.map vByte.enc))).bind _ = _
  rw [dec_bytes]
  simp [hl]
theorem fin28 {f : Nat} {I : Nat → Option (List AV → AH → Rs)} {n : Nat} {args : List AV} {g : List (Int × List UInt8) × Int} (hq : Q28 g (call F I T n f args e0)) :
    ∃ n k h1 v1 v0, call F I T n f args e0 = some (v1, h1) ∧ frzF false k h1 v1 = some v0 ∧ Wk v0 (t3q g) := by
  obtain ⟨h', v, w, h1, h2, h3⟩ := hq
  obtain ⟨v0, h4, h5⟩ := h2.frz (al := false) 1 (frzMap_map (f := fun x : Int × List UInt8 => AV.int .i64 x.1) fun _ => by simp [frzF, AV.flat]) (by simp [])
  obtain ⟨w0, h6, h7⟩ := h3.frz (al := false) 1 (frzMap_map (f := fun x : Int × List UInt8 => AV.str x.2) fun _ => by simp [frzF, AV.flat]) (by simp [])
  exact ⟨_, _, _, _, _, h1, frz_tup2 h4 h6, Wk.tup (WkL.cons h5 (WkL.cons h7 (WkL.cons (Wk.refl _) WkL.nil)))⟩
theorem lFst_eq (l : List (Int × List UInt8)) : lFst l = (l.map Prod.fst).map (AV.int .i64) := by simp [lFst]
theorem lSnd_eq (l : List (Int × List UInt8)) : lSnd l = (l.map Prod.snd).map AV.str := by simp [lSnd]
end Go.AM.X
