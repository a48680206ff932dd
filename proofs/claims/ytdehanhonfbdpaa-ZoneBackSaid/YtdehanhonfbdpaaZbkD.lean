/- What is put: rows of bytes, a network, a text. Own work. -/
import Derived.Test.YtdehanhonfbdpaaZbkC
namespace Go.AM.Sx
open Go Go.AM
set_option linter.unusedVariables false
/-- A row, or a literal that is full. -/
def RowE (sz : Nat) (h : AH) (v : AV) (n : Nat) (cs : List AV) : Prop :=
  Row sz h v n cs ∨ (∃ b, v = .sl b 0 n n sz true ∧ 0 < n ∧ cs.length = n * sz ∧ b < h.next ∧ h.get b = some (.cells cs .own))
theorem RowE.lit {h : AH} {n : Nat} {cs : List AV} (hn : 0 < n) (hl : cs.length = n * 1) : RowE 1 (h.alloc (.cells cs .own)) (.sl h.next 0 n n 1 true) n cs :=
  .inr ⟨_, rfl, hn, hl, by simp, by rw [AH.get_alloc, if_pos rfl]⟩
theorem RowE.app {T : TT} {h : AH} {t xt el : Nat} {ti te : TI} {v x : AV} {n m sz : Nat} {cs new : List AV} (ht : T t = some ti) (hd : ti.desc = .slice el) (he : T el = some te) (hx : isSrc T xt = true) (hz : te.size = sz) (hb : 0 < te.bytes)
    (ho : RowE sz h v n cs) (hs : aSource te.size x h = some (m, new)) (hm : 0 < m) (hl : new.length = m * sz) (hone : new.all AV.one = true) (hsm : (n + m) * te.bytes < maxBytes) :
    ∃ b h2, aAppend T t xt v x h = some (.sl b 0 (n + m) (n + m) sz false, h2) ∧ Row sz h2 (.sl b 0 (n + m) (n + m) sz false) (n + m) (cs ++ new) ∧ h.next ≤ h2.next ∧ h.next ≤ b ∧ (∀ c, c < h.next → offRow v c → h2.get c = h.get c) := by
  rcases ho with ho | ⟨b, rfl, hn, hcl, hbn, hg⟩
  · exact ho.app ht hd he hx hz hb hs hm hl hone hsm
  · have := app_slx (h := h) (n := m) (len := n) (o := 0) ht hd he hx hs hb hz hg (by omega) (by omega) hsm
    have hcs : List.take (n * sz) (List.drop 0 cs) = cs := by rw [List.drop_zero, List.take_of_length_le (by omega)]
    rw [hcs] at this
    refine ⟨h.next, _, this, .inr ⟨h.next, rfl, by omega, by rw [List.length_append, hcl, hl, Nat.add_mul], by simp, ?_⟩, by simp, Nat.le_refl _, fun c hc hoff => ?_⟩
    · rw [AH.get_alloc, if_pos rfl]
    · rw [AH.get_alloc, if_neg (by omega)]
theorem RowE.frz {sz : Nat} {h : AH} {v : AV} {n : Nat} {cs cs' : List AV} (ho : RowE sz h v n cs) (k : Nat) (hf : frzMap (frzF false k h) cs = some cs') (hl : cs'.length = n * sz) : ∃ v0, frzF false (k + 1) h v = some v0 ∧ Wk v0 (.lst false sz n cs') := by
  rcases ho with ho | ⟨b, rfl, h1, h2', h3, h4⟩
  · exact ho.frz k hf hl
  · have h5 : List.take (n * sz) (List.drop 0 cs) = cs := by rw [List.drop_zero, List.take_of_length_le (by omega)]
    refine ⟨.lst (true && Nat.beq n n) sz n cs', ?_, Wk.lst _ _ _ _⟩
    simp only [frzF, h4, Bool.or_true, h5, hf]
    rw [if_pos (by omega)]
    simp
end Go.AM.Sx
namespace Go.AM.X
open Go Go.AM Go.Proofs Go.AM.Sx
set_option maxHeartbeats 400000
set_option maxRecDepth 100000
set_option linter.unusedVariables false
theorem F52 : F 52 = some { body := (Try.f52.body.getD .skip), results := Try.f52.results.toList, rf := false } := by kernel_rfl
theorem R52 : regsOk T (Try.f52.body.getD .skip) = true := by kernel_rfl
theorem F49 : F 49 = some { body := (Try.f49.body.getD .skip), results := Try.f49.results.toList, rf := false } := by kernel_rfl
theorem R49 : regsOk T (Try.f49.body.getD .skip) = true := by kernel_rfl
theorem F53 : F 53 = some { body := (Try.f53.body.getD .skip), results := Try.f53.results.toList, rf := false } := by kernel_rfl
theorem R53 : regsOk T (Try.f53.body.getD .skip) = true := by kernel_rfl
theorem F81 : F 81 = some { body := (Try.f81.body.getD .skip), results := Try.f81.results.toList, rf := false } := by kernel_rfl
theorem R81 : regsOk T (Try.f81.body.getD .skip) = true := by kernel_rfl
def be2 (n : Int) : List UInt8 := [UInt8.ofNat (n.toNat / 256), UInt8.ofNat (n.toNat % 256)]
theorem toNat_ofNat {k : Nat} (h : k < 256) : (UInt8.ofNat k).toNat = k := by simp; omega
theorem net_lt {n : Int} (h : isNet n = true) : 1 ≤ n ∧ n ≤ 65279 := by simpa [isNet] using h
theorem be2_eq {n : Int} (h : isNet n = true) : ofBytes (be2 n) = [.int .u8 ((n.toNat / 256 : Nat) : Int), .int .u8 ((n.toNat % 256 : Nat) : Int)] := by
  have h1 := net_lt h
  have h2 : (UInt8.ofNat (n.toNat / 256)).toNat = n.toNat / 256 := toNat_ofNat (by omega)
  have h3 : (UInt8.ofNat (n.toNat % 256)).toNat = n.toNat % 256 := toNat_ofNat (by omega)
  simp only [ofBytes, be2, List.map_cons, List.map_nil, h2, h3]
noncomputable def g52 := G1 (vInt .i64) fun n => if isNet n = true then some (.lst false 1 2 (ofBytes (be2 n))) else none
theorem run52 {I : Nat → Option (List AV → AH → Rs)}  (h52 : I 52 = none) (n : Int) (m : Nat) (hn : isNet n = true) : ∃ h' v, call F I T (m + 3) 52 [.int .i64 n] e0 = some (v, h') ∧ RowE 1 h' v 2 (ofBytes (be2 n)) := by
  have h1 := net_lt hn
  have c0 : (2 : Int) ^ min (Int.toNat 8) IntKind.i64.bits = 256 := rfl
  have c1 : IntKind.u8.wrap (n.fdiv (2 ^ min (Int.toNat 8) IntKind.i64.bits)) = ((n.toNat / 256 : Nat) : Int) := by
    rw [c0, Int.fdiv_eq_ediv_of_nonneg _ (by decide), wrap_u8 (by omega) (by omega)]; omega
  have c2 : IntKind.u8.wrap n = ((n.toNat % 256 : Nat) : Int) := by
    simp only [IntKind.wrap, IntKind.bits, IntKind.signed]
    simp
    omega
  rw [be2_eq hn]
  rw [call_F (by decide) h52 F52 rfl R52]; simp only [Try.f52, Option.getD]
  simp +contextual (maxSteps := 3000000) only [↓code_seq, ↓code_region, ↓code_ret, ↓ops_nil, ↓ops_cons, run_none, ↓run0_v, ↓run0_r, ↓seqK_normal, ↓retK_ret, put_same, put_ne, env0_at, ev_tmp, ev_const, oc_int, oc_nils, o_move, o_assign, o_bin, o_buildSlice, o_convert, g_none, bin_shr, next_e0, resultsOf, oneOrAll, Option.bind_some, Option.map_some, Option.getD_some, ↓reduceIte, Nat.reduceEqDiff, not_false_eq_true, Nat.reduceAdd, Nat.reduceMul, reduceCtorEq, List.getElem?_cons_zero, List.map_cons, List.map_nil, List.append_nil, List.nil_append, List.cons_append, and_true, Nat.reduceLeDiff, Nat.le_refl, ne_eq, conv_int T3 T5 d5, buildSl T25 d25 T5 (n := 2) (by rw [s5]; decide), s5, z5, parts_eq, fillA, AV.cells, AH.splice, List.take_succ_cons, List.take_zero, List.drop_succ_cons, List.drop_zero, List.drop_nil, List.length_cons, List.length_nil, repl, c1, c2, show ¬ ((8 : Int) < 0) by decide]
  exact ⟨_, _, rfl, RowE.lit (by decide) rfl⟩
theorem K52 {I : Nat → Option (List AV → AH → Rs)} (h52 : I 52 = some (pureG g52)) (m : Nat) (n : Int) (h : AH) (hn : isNet n = true) : call F I T (m + 1) 52 [.int .i64 n] h = some (.lst false 1 2 (ofBytes (be2 n)), h) := by
  rw [call_I (by decide) h52]; exact pureG_flat rfl (by simp [g52, G1, vInt, dInt, hn])
def dC2 : AV → Option Bool
  | .fn 50 [] [] => some false
  | .fn 54 [] [] => some true
  | _ => none
def vC2 : View Bool where
  enc c := match c with
    | false => .fn 50 [] []
    | true => .fn 54 [] []
  dec := dC2
  law a x h := by
    unfold dC2 at h
    split at h
    · cases h; exact Wk.refl _
    · cases h; exact Wk.refl _
    · cases h
  flat c := by cases c <;> rfl
def noNet (l : List Int) : Bool := l.any (fun n => !isNet n)
noncomputable def g49 := G2 (vList (vInt .i64)) vC2 fun l c => if l.length < 140737488355328 then some (.bool (noNet l)) else none
theorem run49 {I : Nat → Option (List AV → AH → Rs)} (h95 : I 95 = none) (h49 : I 49 = none) {h51 : I 51 = none} {h50 : I 50 = none} {h54 : I 54 = none} (l : List Int) (c : Bool) (m : Nat) (hl : l.length < 140737488355328) :
    ∃ h', call F I T (l.length + m + 4) 49 [.lst false 1 l.length (l.map (.int .i64)), vC2.enc c] e0 = some (.bool (noNet l), h') := by
  have hp : ∀ x k, callV (call F I T (k + 2)) (vC2.enc c) [.int .i64 x] e0 = some (.bool (!isNet x), e0) := by
    intro x k
    cases c with
    | false => show callV _ (.fn 50 [] []) _ _ = _; rw [callV_fn (by decide)]; exact K50 h51 h50 k x e0
    | true => show callV _ (.fn 54 [] []) _ _ = _; rw [callV_fn (by decide)]; exact K54 h51 h54 k x e0
  rw [call_F (by decide) h49 F49 rfl R49]; simp only [Try.f49, Option.getD]
  have c1 := run95 h95 l (fun n => !isNet n) (vC2.enc c) m e0 hl hp
  simp +contextual (maxSteps := 3000000) only [↓code_seq, ↓code_region, ↓code_ret, ↓ops_nil, ↓ops_cons, run_none, ↓run0_v, ↓run0_r, ↓seqK_normal, ↓retK_ret, put_same, put_ne, env0_at, ev_tmp, ev_const, ev_func, oc_int, oc_bool, o_move, o_assign, o_bin, o_call, g_none, bin_geq, resultsOf, oneOrAll, Option.map_some, Option.getD_some, Nat.reduceEqDiff, not_false_eq_true, reduceCtorEq, List.getElem?_cons_zero, List.getElem?_cons_succ, List.map_cons, List.map_nil, List.append_nil, List.nil_append, ge_iff_le, ne_eq, callV_fn (g := 95) (by decide), c1, idxAt_nonneg, Bool.decide_eq_true]
  exact ⟨_, rfl⟩
theorem K49 {I : Nat → Option (List AV → AH → Rs)} (h49 : I 49 = some (pureG g49)) (m : Nat) (l : List Int) (c : Bool) (ex : Bool) (h : AH) (hl : l.length < 140737488355328) : call F I T (m + 1) 49 [.lst ex 1 l.length (l.map (.int .i64)), vC2.enc c] h = some (.bool (noNet l), h) := by
  rw [call_I (by decide) h49]
  refine pureG_flat (by have h1 : flatL (l.map (AV.int .i64)) = true := flatL_map (fun _ => rfl) l; cases c <;> simp [flatL, AV.flat, h1, vC2]) ?_
  have h1 := vList_dec (v := vInt .i64) dInt_enc ex l
  have h2 : vC2.dec (vC2.enc c) = some c := by cases c <;> rfl
  show ((vList (vInt .i64)).dec (.lst ex 1 l.length (l.map (vInt .i64).enc))).bind (fun x => (vC2.dec (vC2.enc c)).bind _) = _
  rw [h1, h2]
  simp [hl]
def areNets (l : List Int) : Bool := decide (1 ≤ l.length) && decide (l.length ≤ 100) && !noNet l
theorem noNet_drop {l : List Int} {i : Nat} (hi : i < l.length) : noNet (l.drop i) = (!isNet l[i] || noNet (l.drop (i + 1))) := by
  unfold noNet; rw [drop_cons hi]; rfl
theorem le_cast100 (a : Nat) : ((a : Int) ≤ 100) = (a ≤ 100) := by simp; omega
noncomputable def g53 := G1 (vList (vInt .i64)) fun l => if l.length < 140737488355328 then some (.bool (areNets l)) else none
theorem run53 {I : Nat → Option (List AV → AH → Rs)} (h61 : I 61 = none) (h53 : I 53 = none) (l : List Int) (m : Nat) (hl : l.length < 140737488355328) :
    ∃ h', call F I T (l.length + m + 3) 53 [.lst false 1 l.length (l.map (.int .i64))] e0 = some (.bool (areNets l), h') := by
  rw [call_F (by decide) h53 F53 rfl R53]; simp only [Try.f53, Option.getD]
  simp +contextual (maxSteps := 3000000) only [↓code_seq, ↓code_region, ↓code_block, ↓code_loop, ↓ops_nil, ↓ops_cons, run_none, ↓run0_v, ↓seqK_normal, ev_const, oc_int, oc_bool, o_assign, g_none]
  refine iterL_wp (Q := fun r => ∃ h', r = some (.bool (areNets l), h')) (N := l.length) (Inv := fun k e h' => ∃ i, k + i = l.length ∧ noNet l = noNet (l.drop i) ∧ e 0 = .lst false 1 l.length (l.map (.int .i64)) ∧ e 3 = .int .i64 (i : Nat)) ?_ ?_ (by omega)
  · rintro k e h' K' ⟨i, hk, hr, e0, e3⟩ hnext hexit
    by_cases hi : i < l.length
    · have c1 : (i : Int) < (l.length : Int) := by omega
      have c3 := drop_map_0 (f := AV.int .i64) (List.getElem?_eq_getElem hi)
      rw [noNet_drop hi] at hr
      cases hz : isNet l[i] with
      | false =>
        simp +contextual (maxSteps := 3000000) only [↓code_skip, ↓code_seq, ↓code_region, ↓code_cond, ↓code_block, ↓code_ret, aCond_bool, ↓ops_nil, ↓ops_cons, run_none, ↓run0_v, ↓run0_r, ↓seqK_normal, ↓seqK_ret, ↓blkK_ret, put_same, put_ne, ev_tmp, ev_const, ev_func, oc_bool, o_move, o_assign, o_bin, o_call, o_len, o_load, o_un, o_indexAddr, g_none, bin_lss, un_not, decide_eq_true_eq, ↓reduceIte, Nat.reduceEqDiff, not_false_eq_true, reduceCtorEq, List.map_cons, List.map_nil, List.append_nil, List.nil_append, and_true, Bool.not_false, ne_eq, len_lst T22 d22, ia_lst T22 d22 T3 s3, load_fp1 T3 a3, callV_fn (g := 61) (by decide), K61 h61, e0, e3, c1, c3, hz, cast_nonneg, toNat_cast]
        refine hexit _ _ _ (by simp) ⟨h', ?_⟩
        have ha : areNets l = false := by simp [areNets, hr, hz]
        simp +contextual (maxSteps := 3000000) only [↓seqK_ret, ↓blkK_ret, ↓retK_ret, put_same, resultsOf, oneOrAll, Option.map_some, ha]
      | true =>
        rw [hz] at hr
        simp +contextual (maxSteps := 3000000) only [↓code_skip, ↓code_seq, ↓code_region, ↓code_cond, ↓code_block, aCond_bool, ↓ops_nil, ↓ops_cons, run_none, ↓run0_v, ↓run0_r, ↓seqK_normal, ↓blkK_normal, put_same, put_ne, ev_tmp, ev_const, ev_func, oc_int, o_move, o_assign, o_bin, o_call, o_len, o_load, o_un, o_indexAddr, g_none, bin_add, bin_lss, un_not, decide_eq_true_eq, ↓reduceIte, Nat.reduceEqDiff, not_false_eq_true, reduceCtorEq, Bool.false_eq_true, List.map_cons, List.map_nil, List.append_nil, List.nil_append, and_true, Bool.not_true, ne_eq, len_lst T22 d22, ia_lst T22 d22 T3 s3, load_fp1 T3 a3, callV_fn (g := 61) (by decide), K61 h61, e0, e3, c1, c3, hz, cast_nonneg, toNat_cast]
        refine hnext (k - 1) _ _ (by omega) ⟨i + 1, by omega, ?_, ?_, ?_⟩
        · simpa using hr
        · simp only [put_ne, not_false_eq_true, reduceCtorEq, ne_eq, e0]
        · simp only [put_same]; rw [wrap_i64 (by omega) (by omega)]; rfl
    · have c1 : ¬ (i : Int) < (l.length : Int) := by omega
      rw [drop_end hi] at hr
      have hn : noNet l = false := by rw [hr]; rfl
      simp +contextual (maxSteps := 3000000) only [↓code_seq, ↓code_region, ↓code_cond, ↓code_exit, aCond_bool, ↓ops_nil, ↓ops_cons, run_none, ↓run0_v, ↓seqK_normal, ↓seqK_exit, put_same, put_ne, ev_tmp, o_move, o_bin, o_len, g_none, bin_lss, decide_eq_true_eq, ↓reduceIte, Nat.reduceEqDiff, not_false_eq_true, reduceCtorEq, ne_eq, len_lst T22 d22, e0, e3, c1]
      refine hexit _ _ _ (by simp) ⟨h', ?_⟩
      by_cases q1 : (1 : Int) ≤ (l.length : Int)
      · have ha : areNets l = decide ((l.length : Int) ≤ 100) := by simp only [le_cast100]; simp [areNets, hn, show 1 ≤ l.length by omega]
        simp +contextual (maxSteps := 3000000) only [↓code_seq, ↓code_region, ↓code_ret, ↓ops_nil, ↓ops_cons, run_none, run_someT, ↓run0_v, ↓seqK_normal, ↓blkK_exit, ↓retK_ret, put_same, put_ne, ev_tmp, ev_const, oc_int, oc_bool, o_move, o_assign, o_pick, o_bin, o_len, g_none, g_some, pick_bool, bin_leq, bin_geq, resultsOf, oneOrAll, Option.bind_some, Option.map_some, decide_eq_true_eq, ↓reduceIte, Nat.reduceEqDiff, not_false_eq_true, reduceCtorEq, List.getElem?_cons_zero, List.getElem?_cons_succ, List.getElem?_toArray, ge_iff_le, ne_eq, len_lst T22 d22, e0, q1, ha]
      · have ha : areNets l = false := by simp [areNets, show ¬ 1 ≤ l.length by omega]
        simp +contextual (maxSteps := 3000000) only [↓code_seq, ↓code_region, ↓code_ret, ↓ops_nil, ↓ops_cons, run_none, run_someT, ↓run0_v, ↓seqK_normal, ↓blkK_exit, ↓retK_ret, put_same, put_ne, ev_tmp, ev_const, oc_int, oc_bool, o_move, o_assign, o_pick, o_bin, o_len, g_none, g_some, pick_bool, bin_geq, resultsOf, oneOrAll, Option.bind_some, Option.map_some, decide_eq_true_eq, ↓reduceIte, Nat.reduceEqDiff, not_false_eq_true, reduceCtorEq, List.getElem?_cons_zero, List.getElem?_cons_succ, List.getElem?_toArray, ge_iff_le, ne_eq, len_lst T22 d22, e0, q1, ha]
  · refine ⟨0, by omega, ?_, ?_, ?_⟩
    · rfl
    · simp only [put_ne, env0_at, Option.getD_some, not_false_eq_true, reduceCtorEq, List.getElem?_cons_zero, ne_eq]
    · simp only [put_same]; rfl
theorem K53 {I : Nat → Option (List AV → AH → Rs)} (h53 : I 53 = some (pureG g53)) (m : Nat) (l : List Int) (ex : Bool) (h : AH) (hl : l.length < 140737488355328) : call F I T (m + 1) 53 [.lst ex 1 l.length (l.map (.int .i64))] h = some (.bool (areNets l), h) := by
  rw [call_I (by decide) h53]
  refine pureG_flat (by have h1 : flatL (l.map (AV.int .i64)) = true := flatL_map (fun _ => rfl) l; simp [flatL, AV.flat, h1]) ?_
  have h1 := vList_dec (v := vInt .i64) dInt_enc ex l
  show ((vList (vInt .i64)).dec (.lst ex 1 l.length (l.map (vInt .i64).enc))).bind _ = _
  rw [h1]
  simp [hl]
end Go.AM.X
namespace Go.AM.X
open Go Go.AM Go.Proofs Go.AM.Sx
set_option maxHeartbeats 400000
set_option maxRecDepth 100000
set_option linter.unusedVariables false
theorem F13 : F 13 = some { body := (Try.f13.body.getD .skip), results := Try.f13.results.toList, rf := false } := by kernel_rfl
theorem R13 : regsOk T (Try.f13.body.getD .skip) = true := by kernel_rfl
theorem F14 : F 14 = some { body := (Try.f14.body.getD .skip), results := Try.f14.results.toList, rf := false } := by kernel_rfl
theorem R14 : regsOk T (Try.f14.body.getD .skip) = true := by kernel_rfl
def head2 (k : UInt8) (n : Nat) : List UInt8 := [k, UInt8.ofNat n]
def putQ (l : List Int) : List UInt8 × Int := if areNets l = true then (head2 1 l.length ++ l.flatMap be2, 0) else ([], 2)
theorem areNets_mem {l : List Int} (h : areNets l = true) : (1 ≤ l.length ∧ l.length ≤ 100) ∧ noNet l = false ∧ ∀ x ∈ l, isNet x = true := by
  simp only [areNets, Bool.and_eq_true, decide_eq_true_eq, Bool.not_eq_true'] at h
  refine ⟨h.1, h.2, fun x hx => ?_⟩
  have := h.2
  simp only [noNet, List.any_eq_false] at this
  simpa using this x hx
theorem flat_be2 (l : List Int) : (l.flatMap be2).length = 2 * l.length := by
  induction l with
  | nil => rfl
  | cons x l ih => rw [List.flatMap_cons, List.length_append, ih, List.length_cons]; simp [be2]; omega
def PB (g : List UInt8 × Int) (r : Rs) : Prop := ∃ h' v, r = some (.tup [v, .int .i64 g.2], h') ∧ RowE 1 h' v g.1.length (ofBytes g.1)
theorem src_lst1 {ex : Bool} {n : Nat} {cs : List AV} {h : AH} : aSource 1 (.lst ex 1 n cs) h = some (n, cs) := src_lst
noncomputable def g13 := G1 (vList (vInt .i64)) fun l => if l.length < 140737488355328 then some (.tup [.lst false 1 (putQ l).1.length (ofBytes (putQ l).1), .int .i64 (putQ l).2]) else none
theorem run13 {I : Nat → Option (List AV → AH → Rs)} (h49 : I 49 = some (pureG g49)) (h51 : I 51 = none) (h50 : I 50 = none) (h52 : I 52 = some (pureG g52)) (h13 : I 13 = none) (l : List Int) (m : Nat) (hl : l.length < 140737488355328) :
    PB (putQ l) (call F I T (m + 110) 13 [.lst false 1 l.length (l.map (.int .i64))] e0) := by
  have r0 : (1 ≤ l.length) = (1 ≤ (l.length : Int)) := by simp; omega
  rw [call_F (by decide) h13 F13 rfl R13]; simp only [Try.f13, Option.getD]
  cases ha : areNets l with
  | false =>
    have hG : putQ l = ([], 2) := by simp [putQ, ha]
    rw [hG]
    by_cases q1 : (l.length : Int) < 1
    · simp +contextual (maxSteps := 3000000) only [↓code_seq, ↓code_region, ↓code_cond, ↓code_ret, aCond_bool, ↓ops_nil, ↓ops_cons, run_none, run_someF, ↓run0_v, ↓seqK_normal, ↓seqK_ret, ↓retK_ret, put_same, put_ne, env0_at, ev_tmp, ev_const, ev_func, oc_int, oc_bool, oc_nils, o_move, o_assign, o_pick, o_bin, o_call, o_len, g_none, g_some, pick_bool, bin_lss, resultsOf, oneOrAll, Option.bind_some, Option.map_some, Option.getD_some, decide_eq_true_eq, ↓reduceIte, Nat.reduceEqDiff, not_false_eq_true, reduceCtorEq, List.getElem?_cons_zero, List.getElem?_cons_succ, List.getElem?_toArray, List.map_cons, List.map_nil, List.append_nil, List.nil_append, ne_eq, len_lst T22 d22, callV_fn (g := 49) (by decide), q1]
      exact ⟨_, _, rfl, .inl (Row.nil _ _)⟩
    · by_cases q2 : (100 : Int) < (l.length : Int)
      · simp +contextual (maxSteps := 3000000) only [↓code_seq, ↓code_region, ↓code_cond, ↓code_ret, aCond_bool, ↓ops_nil, ↓ops_cons, run_none, run_someF, ↓run0_v, ↓seqK_normal, ↓seqK_ret, ↓retK_ret, put_same, put_ne, env0_at, ev_tmp, ev_const, ev_func, oc_int, oc_bool, oc_nils, o_move, o_assign, o_pick, o_bin, o_call, o_len, g_none, g_some, pick_bool, bin_lss, bin_gtr, resultsOf, oneOrAll, Option.bind_some, Option.map_some, Option.getD_some, decide_eq_true_eq, ↓reduceIte, Nat.reduceEqDiff, not_false_eq_true, reduceCtorEq, List.getElem?_cons_zero, List.getElem?_cons_succ, List.getElem?_toArray, List.map_cons, List.map_nil, List.append_nil, List.nil_append, gt_iff_lt, ne_eq, len_lst T22 d22, callV_fn (g := 49) (by decide), q1, q2]
        exact ⟨_, _, rfl, .inl (Row.nil _ _)⟩
      · have q3 : noNet l = true := by
          simp only [areNets] at ha
          rw [decide_eq_true (show 1 ≤ l.length by omega), decide_eq_true (show l.length ≤ 100 by omega)] at ha
          simpa using ha
        have k1 := fun m (h : AH) => K49 h49 m l false false h hl
        rw [q3] at k1
        have k2 : ∀ m (h : AH), call F I T (m + 1) 49 [.lst false 1 l.length (l.map (.int .i64)), .fn 50 [] []] h = some (.bool true, h) := k1
        simp +contextual (maxSteps := 3000000) only [↓code_seq, ↓code_region, ↓code_cond, ↓code_ret, aCond_bool, ↓ops_nil, ↓ops_cons, run_none, run_someF, ↓run0_v, ↓run0_r, ↓seqK_normal, ↓seqK_ret, ↓retK_ret, put_same, put_ne, env0_at, ev_tmp, ev_const, ev_func, oc_int, oc_bool, oc_nils, o_move, o_assign, o_pick, o_bin, o_call, o_len, g_none, g_some, pick_bool, bin_lss, bin_gtr, resultsOf, oneOrAll, Option.bind_some, Option.map_some, Option.getD_some, decide_eq_true_eq, ↓reduceIte, Nat.reduceEqDiff, not_false_eq_true, reduceCtorEq, List.getElem?_cons_zero, List.getElem?_cons_succ, List.getElem?_toArray, List.map_cons, List.map_nil, List.append_nil, List.nil_append, gt_iff_lt, ne_eq, len_lst T22 d22, callV_fn (g := 49) (by decide), q1, q2, k2]
        exact ⟨_, _, rfl, .inl (Row.nil _ _)⟩
  | true =>
    obtain ⟨⟨l1, l2⟩, q3, hall⟩ := areNets_mem ha
    have hG : putQ l = (head2 1 l.length ++ l.flatMap be2, 0) := by simp [putQ, ha]
    have q1 : ¬ ((l.length : Int) < 1) := by omega
    have q2 : ¬ ((100 : Int) < (l.length : Int)) := by omega
    have k1 := fun m (h : AH) => K49 h49 m l false false h hl
    rw [q3] at k1
    have k2 : ∀ m (h : AH), call F I T (m + 1) 49 [.lst false 1 l.length (l.map (.int .i64)), .fn 50 [] []] h = some (.bool false, h) := k1
    have c1 : IntKind.u8.wrap (l.length : Int) = (l.length : Int) := wrap_u8 (by omega) (by omega)
    have hhd : ofBytes (head2 1 l.length) = [.int .u8 1, .int .u8 (l.length : Int)] := by
      have : (UInt8.ofNat l.length).toNat = l.length := toNat_ofNat (by omega)
      simp only [head2, ofBytes, List.map_cons, List.map_nil, this]
      rfl
    simp +contextual (maxSteps := 3000000) only [↓code_skip, ↓code_seq, ↓code_region, ↓code_cond, ↓code_block, ↓code_loop, aCond_bool, ↓ops_nil, ↓ops_cons, run_none, run_someF, ↓run0_v, ↓run0_r, ↓seqK_normal, put_same, put_ne, env0_at, ev_tmp, ev_const, ev_func, oc_int, oc_bool, oc_nils, o_move, o_assign, o_pick, o_bin, o_call, o_len, o_buildSlice, o_convert, g_none, g_some, pick_bool, bin_lss, bin_gtr, next_e0, Option.bind_some, Option.getD_some, decide_eq_true_eq, ↓reduceIte, Nat.reduceEqDiff, not_false_eq_true, Nat.reduceAdd, Nat.reduceMul, reduceCtorEq, List.getElem?_cons_zero, List.getElem?_cons_succ, List.getElem?_toArray, Bool.false_eq_true, List.map_cons, List.map_nil, List.append_nil, List.nil_append, List.cons_append, and_true, Nat.reduceLeDiff, Nat.le_refl, gt_iff_lt, ne_eq, len_lst T22 d22, conv_int T3 T5 d5, buildSl T25 d25 T5 (n := 2) (by rw [s5]; decide), s5, z5, parts_eq, fillA, AV.cells, AH.splice, List.take_succ_cons, List.take_zero, List.drop_succ_cons, List.drop_zero, List.drop_nil, List.length_cons, List.length_nil, repl, callV_fn (g := 49) (by decide), q1, q2, k2, c1]
    refine iterL_wp (Q := fun r => PB (putQ l) r) (N := l.length) (Inv := fun k e h' => ∃ i v, k + i = l.length ∧ RowE 1 h' v (2 + 2 * i) (ofBytes (head2 1 l.length ++ (l.take i).flatMap be2)) ∧ i ≤ l.length ∧ e 4 = v ∧ e 23 = .lst false 1 l.length (l.map (.int .i64)) ∧ e 24 = .int .i64 l.length ∧ e 25 = .int .i64 (i : Nat)) ?_ ?_ (by omega)
    · rintro k e h' K' ⟨i, v, hk, hrow, hil, e4, e23, e24, e25⟩ hnext hexit
      by_cases hi : i < l.length
      · have c2 : (i : Int) < (l.length : Int) := by omega
        have c3 := drop_map_0 (f := AV.int .i64) (List.getElem?_eq_getElem hi)
        have c4 := hall l[i] (List.getElem_mem hi)
        obtain ⟨bb, h2, happ, hrow2, hn1, hn2, hkeep⟩ := hrow.app T25 d25 T5 (isSrc_sl T25 d25) s5 (by rw [b5]; decide) (m := 2) (new := ofBytes (be2 l[i])) (x := .lst false 1 2 (ofBytes (be2 l[i])))
          (by rw [s5]; exact src_lst1) (by omega) rfl (ofBytes_one _) (by rw [b5]; unfold maxBytes; omega)
        simp +contextual (maxSteps := 3000000) only [↓code_skip, ↓code_seq, ↓code_region, ↓code_cond, ↓code_block, aCond_bool, ↓ops_nil, ↓ops_cons, run_none, ↓run0_v, ↓run0_r, ↓seqK_normal, ↓blkK_normal, put_same, put_ne, ev_tmp, ev_const, ev_func, oc_int, o_move, o_assign, o_bin, o_call, o_load, o_indexAddr, o_append, g_none, bin_add, bin_lss, decide_eq_true_eq, ↓reduceIte, Nat.reduceEqDiff, not_false_eq_true, List.map_cons, List.map_nil, List.append_nil, List.nil_append, and_true, ne_eq, ia_lst T22 d22 T3 s3, load_fp1 T3 a3, callV_fn (g := 52) (by decide), K52 h52, e4, e23, e24, e25, c2, c3, c4, happ, cast_nonneg, toNat_cast]
        refine hnext (k - 1) _ _ (by omega) ⟨i + 1, .sl bb 0 (2 + 2 * i + 2) (2 + 2 * i + 2) 1 false, by omega, ?_, ?_, ?_, ?_, ?_, ?_⟩
        · rw [take_snoc hi, List.flatMap_append, List.flatMap_singleton, ← List.append_assoc, ← ofBytes_app, show 2 + 2 * (i + 1) = 2 + 2 * i + 2 by omega]; exact .inl hrow2
        · omega
        · simp only [put_same, put_ne, Nat.reduceEqDiff, not_false_eq_true, ne_eq]
        · simp only [put_ne, Nat.reduceEqDiff, not_false_eq_true, ne_eq, e23]
        · simp only [put_ne, Nat.reduceEqDiff, not_false_eq_true, ne_eq, e24]
        · simp only [put_same]; rw [wrap_i64 (by omega) (by omega)]; rfl
      · have c2 : ¬ (i : Int) < (l.length : Int) := by omega
        rw [take_end (show i = l.length by omega)] at hrow
        simp +contextual (maxSteps := 3000000) only [↓code_seq, ↓code_region, ↓code_cond, ↓code_exit, aCond_bool, ↓ops_nil, ↓ops_cons, run_none, ↓run0_v, ↓seqK_normal, ↓seqK_exit, put_same, ev_tmp, o_bin, g_none, bin_lss, decide_eq_true_eq, ↓reduceIte, e24, e25, c2]
        refine hexit _ _ _ (by simp) ⟨h', v, ?_, ?_⟩
        · rw [hG]
          simp +contextual (maxSteps := 3000000) only [↓code_seq, ↓code_region, ↓code_ret, ↓ops_nil, ↓ops_cons, run_none, ↓run0_v, ↓seqK_normal, ↓blkK_exit, ↓retK_ret, put_same, put_ne, ev_tmp, ev_const, oc_int, o_move, o_assign, g_none, resultsOf, oneOrAll, Option.map_some, ↓reduceIte, Nat.reduceEqDiff, not_false_eq_true, ne_eq, e4]
        · have hlen : (putQ l).1.length = 2 + 2 * i := by rw [hG]; simp only [List.length_append, flat_be2, head2, List.length_cons, List.length_nil]; omega
          rw [hlen, hG]; exact hrow
    · refine ⟨0, .sl 0 0 2 2 1 true, by omega, ?_, ?_, ?_, ?_, ?_, ?_⟩
      · (simp only [List.take_zero, List.flatMap_nil, List.append_nil, hhd]; exact RowE.lit (h := e0) (by decide) rfl)
      · omega
      · simp only [put_same, put_ne, Nat.reduceEqDiff, not_false_eq_true, ne_eq]
      · simp only [put_same, put_ne, Nat.reduceEqDiff, not_false_eq_true, ne_eq]
      · simp only [put_same, put_ne, Nat.reduceEqDiff, not_false_eq_true, ne_eq]
      · simp only [put_same]; rfl
noncomputable def g14 := G1 (vList (vInt .i64)) fun l => if l.length < 140737488355328 then some (.tup [.lst false 1 (putQ l).1.length (ofBytes (putQ l).1), .int .i64 (putQ l).2]) else none
theorem run14 {I : Nat → Option (List AV → AH → Rs)} (h53 : I 53 = some (pureG g53)) (h14 : I 14 = none) (l : List Int) (m : Nat) (hl : l.length < 140737488355328) :
    PB (putQ l) (call F I T (m + 110) 14 [.lst false 1 l.length (l.map (.int .i64))] e0) := by
  rw [call_F (by decide) h14 F14 rfl R14]; simp only [Try.f14, Option.getD]
  cases ha : areNets l with
  | false =>
    have hG : putQ l = ([], 2) := by simp [putQ, ha]
    rw [hG]
    simp +contextual (maxSteps := 3000000) only [↓code_seq, ↓code_region, ↓code_cond, ↓code_ret, aCond_bool, ↓ops_nil, ↓ops_cons, run_none, ↓run0_v, ↓run0_r, ↓seqK_normal, ↓seqK_ret, ↓retK_ret, put_same, put_ne, env0_at, ev_tmp, ev_const, ev_func, oc_int, oc_nils, o_move, o_assign, o_call, o_un, g_none, un_not, resultsOf, oneOrAll, Option.map_some, Option.getD_some, ↓reduceIte, Nat.reduceEqDiff, not_false_eq_true, reduceCtorEq, List.getElem?_cons_zero, List.map_cons, List.map_nil, List.append_nil, List.nil_append, Bool.not_false, ne_eq, callV_fn (g := 53) (by decide), K53 h53, ha, hl]
    exact ⟨_, _, rfl, .inl (Row.nil _ _)⟩
  | true =>
    obtain ⟨⟨l1, l2⟩, q3, hall⟩ := areNets_mem ha
    have hG : putQ l = (head2 1 l.length ++ l.flatMap be2, 0) := by simp [putQ, ha]
    have c1 : IntKind.u8.wrap (l.length : Int) = (l.length : Int) := wrap_u8 (by omega) (by omega)
    have hhd : ofBytes (head2 1 l.length) = [.int .u8 1, .int .u8 (l.length : Int)] := by
      have : (UInt8.ofNat l.length).toNat = l.length := toNat_ofNat (by omega)
      simp only [head2, ofBytes, List.map_cons, List.map_nil, this]
      rfl
    simp +contextual (maxSteps := 3000000) only [↓code_skip, ↓code_seq, ↓code_region, ↓code_cond, ↓code_block, ↓code_loop, aCond_bool, ↓ops_nil, ↓ops_cons, run_none, ↓run0_v, ↓run0_r, ↓seqK_normal, put_same, put_ne, env0_at, ev_tmp, ev_const, ev_func, oc_int, oc_nils, o_move, o_assign, o_call, o_len, o_buildSlice, o_un, o_convert, g_none, un_not, next_e0, Option.bind_some, Option.getD_some, ↓reduceIte, not_false_eq_true, Nat.reduceAdd, Nat.reduceMul, reduceCtorEq, List.getElem?_cons_zero, Bool.false_eq_true, List.map_cons, List.map_nil, List.append_nil, List.nil_append, List.cons_append, and_true, Nat.reduceLeDiff, Nat.le_refl, Bool.not_true, ne_eq, len_lst T22 d22, conv_int T3 T5 d5, buildSl T25 d25 T5 (n := 2) (by rw [s5]; decide), s5, z5, parts_eq, fillA, AV.cells, AH.splice, List.take_succ_cons, List.take_zero, List.drop_succ_cons, List.drop_zero, List.drop_nil, List.length_cons, List.length_nil, repl, callV_fn (g := 53) (by decide), K53 h53, ha, hl, c1]
    refine iterL_wp (Q := fun r => PB (putQ l) r) (N := l.length) (Inv := fun k e h' => ∃ i v, k + i = l.length ∧ RowE 1 h' v (2 + 2 * i) (ofBytes (head2 1 l.length ++ (l.take i).flatMap be2)) ∧ i ≤ l.length ∧ e 0 = .lst false 1 l.length (l.map (.int .i64)) ∧ e 4 = v ∧ e 5 = .int .i64 (i : Nat)) ?_ ?_ (by omega)
    · rintro k e h' K' ⟨i, v, hk, hrow, hil, e0, e4, e5⟩ hnext hexit
      by_cases hi : i < l.length
      · have c2 : (i : Int) < (l.length : Int) := by omega
        have c3 := drop_map_0 (f := AV.int .i64) (List.getElem?_eq_getElem hi)
        have c4 := hall l[i] (List.getElem_mem hi)
        have c5 := net_lt c4
        have c6 : IntKind.u8.wrap (IntKind.i64.wrap (l[i].tdiv 256)) = ((l[i].toNat / 256 : Nat) : Int) := by
          rw [Int.tdiv_eq_ediv_of_nonneg (by omega), wrap_i64 (by omega) (by omega), wrap_u8 (by omega) (by omega)]; omega
        have c7 : IntKind.u8.wrap (l[i].tmod 256) = ((l[i].toNat % 256 : Nat) : Int) := by
          rw [Int.tmod_eq_emod_of_nonneg (by omega), wrap_u8 (by omega) (by omega)]; omega
        have hrow1 : RowE 1 (h'.alloc (.cells (ofBytes (be2 l[i])) .own)) v (2 + 2 * i) (ofBytes (head2 1 l.length ++ (l.take i).flatMap be2)) := by
          rcases hrow with hr | ⟨b, rfl, x1, x2, x3, x4⟩
          · exact .inl (hr.alloc _)
          · exact .inr ⟨b, rfl, x1, x2, by simp; omega, by rw [AH.get_alloc, if_neg (by omega)]; exact x4⟩
        obtain ⟨bb, h2, happ, hrow2, hn1, hn2, hkeep⟩ := hrow1.app T25 d25 T5 (isSrc_sl T25 d25) s5 (by rw [b5]; decide) (m := 2) (new := ofBytes (be2 l[i])) (x := .sl h'.next 0 2 2 1 true)
          (by rw [s5, src_sl]; simp [AH.loadn, AH.get_alloc]; simp [ofBytes, be2]) (by omega) rfl (ofBytes_one _) (by rw [b5]; unfold maxBytes; omega)
        rw [be2_eq c4] at happ
        simp +contextual (maxSteps := 3000000) only [↓code_skip, ↓code_seq, ↓code_region, ↓code_cond, ↓code_block, aCond_bool, ↓ops_nil, ↓ops_cons, run_none, ↓run0_v, ↓run0_r, ↓seqK_normal, ↓blkK_normal, put_same, put_ne, ev_tmp, ev_const, oc_int, o_move, o_assign, o_bin, o_len, o_buildSlice, o_load, o_convert, o_indexAddr, o_append, g_none, bin_add, bin_quo, bin_rem, bin_lss, Option.bind_some, decide_eq_true_eq, ↓reduceIte, Nat.reduceEqDiff, not_false_eq_true, Nat.reduceAdd, Nat.reduceMul, reduceCtorEq, Nat.succ_ne_self, List.map_cons, List.map_nil, List.append_nil, List.nil_append, List.cons_append, and_true, Nat.reduceLeDiff, Nat.le_refl, ne_eq, len_lst T22 d22, conv_int T3 T5 d5, buildSl T25 d25 T5 (n := 2) (by rw [s5]; decide), s5, z5, parts_eq, fillA, AV.cells, AH.splice, List.take_succ_cons, List.take_zero, List.drop_succ_cons, List.drop_zero, List.drop_nil, List.length_cons, List.length_nil, repl, ia_lst T22 d22 T3 s3, load_fp1 T3 a3, e0, e4, e5, c2, c3, c6, c7, happ, cast_nonneg, toNat_cast, show ¬ ((256 : Int) = 0) by decide]
        refine hnext (k - 1) _ _ (by omega) ⟨i + 1, .sl bb 0 (2 + 2 * i + 2) (2 + 2 * i + 2) 1 false, by omega, ?_, ?_, ?_, ?_, ?_⟩
        · rw [take_snoc hi, List.flatMap_append, List.flatMap_singleton, ← List.append_assoc, ← ofBytes_app, show 2 + 2 * (i + 1) = 2 + 2 * i + 2 by omega]; exact .inl hrow2
        · omega
        · simp only [put_ne, not_false_eq_true, reduceCtorEq, ne_eq, e0]
        · simp only [put_same, put_ne, Nat.reduceEqDiff, not_false_eq_true, ne_eq]
        · simp only [put_same]; rw [wrap_i64 (by omega) (by omega)]; rfl
      · have c2 : ¬ (i : Int) < (l.length : Int) := by omega
        rw [take_end (show i = l.length by omega)] at hrow
        simp +contextual (maxSteps := 3000000) only [↓code_seq, ↓code_region, ↓code_cond, ↓code_exit, aCond_bool, ↓ops_nil, ↓ops_cons, run_none, ↓run0_v, ↓seqK_normal, ↓seqK_exit, put_same, put_ne, ev_tmp, o_move, o_bin, o_len, g_none, bin_lss, decide_eq_true_eq, ↓reduceIte, Nat.reduceEqDiff, not_false_eq_true, reduceCtorEq, ne_eq, len_lst T22 d22, e0, e5, c2]
        refine hexit _ _ _ (by simp) ⟨h', v, ?_, ?_⟩
        · rw [hG]
          simp +contextual (maxSteps := 3000000) only [↓code_seq, ↓code_region, ↓code_ret, ↓ops_nil, ↓ops_cons, run_none, ↓run0_v, ↓seqK_normal, ↓blkK_exit, ↓retK_ret, put_same, put_ne, ev_tmp, ev_const, oc_int, o_move, o_assign, g_none, resultsOf, oneOrAll, Option.map_some, ↓reduceIte, Nat.reduceEqDiff, not_false_eq_true, ne_eq, e4]
        · have hlen : (putQ l).1.length = 2 + 2 * i := by rw [hG]; simp only [List.length_append, flat_be2, head2, List.length_cons, List.length_nil]; omega
          rw [hlen, hG]; exact hrow
    · refine ⟨0, .sl 0 0 2 2 1 true, by omega, ?_, ?_, ?_, ?_, ?_⟩
      · (simp only [List.take_zero, List.flatMap_nil, List.append_nil, hhd]; exact RowE.lit (h := e0) (by decide) rfl)
      · omega
      · simp only [put_ne, env0_at, Option.getD_some, not_false_eq_true, reduceCtorEq, List.getElem?_cons_zero, ne_eq]
      · simp only [put_same, put_ne, Nat.reduceEqDiff, not_false_eq_true, ne_eq]
      · simp only [put_same]; rfl
end Go.AM.X
namespace Go.AM.X
open Go Go.AM Go.Proofs Go.AM.Sx
set_option maxHeartbeats 400000
set_option maxRecDepth 100000
set_option linter.unusedVariables false
theorem F57 : F 57 = some { body := (Try.f57.body.getD .skip), results := Try.f57.results.toList, rf := false } := by kernel_rfl
theorem R57 : regsOk T (Try.f57.body.getD .skip) = true := by kernel_rfl
theorem F58 : F 58 = some { body := (Try.f58.body.getD .skip), results := Try.f58.results.toList, rf := false } := by kernel_rfl
theorem R58 : regsOk T (Try.f58.body.getD .skip) = true := by kernel_rfl
theorem zone_len {s : List UInt8} (h : isZone s = true) : 1 ≤ s.length ∧ s.length ≤ 31 := by
  simp only [isZone, Bool.and_eq_true, decide_eq_true_eq] at h
  exact h.1
theorem allocE {h : AH} {v : AV} {n : Nat} {cs : List AV} (hr : RowE 1 h v n cs) (x : AB) : RowE 1 (h.alloc x) v n cs := by
  rcases hr with hr | ⟨b, rfl, x1, x2, x3, x4⟩
  · exact .inl (hr.alloc _)
  · exact .inr ⟨b, rfl, x1, x2, by simp; omega, by rw [AH.get_alloc, if_neg (by omega)]; exact x4⟩
def putT (s : List UInt8) : List UInt8 := UInt8.ofNat s.length :: s
theorem putT_eq {s : List UInt8} (h : isZone s = true) : ofBytes (putT s) = AV.int .u8 (s.length : Int) :: ofBytes s := by
  have h1 := zone_len h
  have h2 : (UInt8.ofNat s.length).toNat = s.length := toNat_ofNat (by omega)
  simp only [ofBytes, putT, List.map_cons, h2]
noncomputable def g81 := G1 vStr fun s => if isZone s = true then some (.tup [.lst false 1 (putT s).length (ofBytes (putT s)), .int .i64 0]) else none
theorem run81 {I : Nat → Option (List AV → AH → Rs)}  (h81 : I 81 = none) (s : List UInt8) (m : Nat) (hz : isZone s = true) : PB (putT s, 0) (call F I T (m + 3) 81 [.str s] e0) := by
  obtain ⟨l1, l2⟩ := zone_len hz
  have c1 : ¬ ((31 : Int) < (s.length : Int)) := by omega
  have c2 : IntKind.u8.wrap (s.length : Int) = (s.length : Int) := wrap_u8 (by omega) (by omega)
  obtain ⟨bb, h2, happ, hrow2, hn1, hn2, hkeep⟩ := (RowE.lit (h := e0) (n := 1) (cs := [AV.int .u8 (s.length : Int)]) (by decide) rfl).app T25 d25 T5 (isSrc_str T9 d9) s5 (by rw [b5]; decide) (m := s.length) (new := ofBytes s) (x := .str s)
    (by rw [s5]; exact src_str) (by omega) (by simp [ofBytes]) (ofBytes_one _) (by rw [b5]; unfold maxBytes; omega)
  have happ' : aAppend T 25 9 (.sl 0 0 1 1 1 true) (.str s) (e0.alloc (.cells [AV.int .u8 (s.length : Int)] .own)) = some (.sl bb 0 (1 + s.length) (1 + s.length) 1 false, h2) := happ
  rw [call_F (by decide) h81 F81 rfl R81]; simp only [Try.f81, Option.getD]
  simp +contextual (maxSteps := 3000000) only [↓code_skip, ↓code_seq, ↓code_region, ↓code_cond, ↓code_ret, aCond_bool, ↓ops_nil, ↓ops_cons, run_none, ↓run0_v, ↓run0_r, ↓seqK_normal, ↓retK_ret, put_same, put_ne, env0_at, ev_tmp, ev_const, oc_int, oc_nils, o_move, o_assign, o_bin, o_len, o_buildSlice, o_convert, o_append, g_none, bin_gtr, next_e0, resultsOf, oneOrAll, Option.bind_some, Option.map_some, Option.getD_some, decide_eq_true_eq, ↓reduceIte, Nat.reduceEqDiff, not_false_eq_true, Nat.reduceAdd, Nat.reduceMul, reduceCtorEq, List.getElem?_cons_zero, List.map_cons, List.map_nil, List.append_nil, List.nil_append, and_true, Nat.le_refl, gt_iff_lt, ne_eq, len_str T9 d9, conv_int T3 T5 d5, buildSl T25 d25 T5 (n := 1) (by rw [s5]; decide), s5, z5, parts_eq, fillA, AV.cells, AH.splice, List.take_zero, List.drop_succ_cons, List.drop_nil, List.length_cons, List.length_nil, repl, c1, c2, happ']
  refine ⟨_, _, rfl, ?_⟩
  have : (putT s).length = 1 + s.length := by simp [putT]; omega
  rw [this, putT_eq hz]
  exact .inl hrow2
theorem K81 {I : Nat → Option (List AV → AH → Rs)} (h81 : I 81 = some (pureG g81)) (m : Nat) (s : List UInt8) (h : AH) (hz : isZone s = true) : call F I T (m + 1) 81 [.str s] h = some (.tup [.lst false 1 (putT s).length (ofBytes (putT s)), .int .i64 0], h) := by
  rw [call_I (by decide) h81]; exact pureG_flat rfl (by simp [g81, G1, vStr, dStr, hz])
def pr (x : Int × List UInt8) : List UInt8 := be2 x.1 ++ putT x.2
def okP (l : List (Int × List UInt8)) : Prop := l.length ≤ 200 ∧ ∀ x ∈ l, isNet x.1 = true ∧ isZone x.2 = true
theorem pr_len {l : List (Int × List UInt8)} (h : ∀ x ∈ l, isNet x.1 = true ∧ isZone x.2 = true) : (l.flatMap pr).length ≤ 34 * l.length := by
  induction l with
  | nil => simp
  | cons x l ih =>
    have h1 := zone_len (h x (by simp)).2
    have h2 := ih fun y hy => h y (by simp [hy])
    rw [List.flatMap_cons, List.length_append, List.length_cons]
    have : (pr x).length = 3 + x.2.length := by simp [pr, be2, putT]; omega
    omega
/-- 57: nets and zones as one list of pairs. -/
def rep (k : UInt8) (many : Int) (l : List (Int × List UInt8)) : List UInt8 := head2 k many.toNat ++ l.flatMap pr
theorem run57 {I : Nat → Option (List AV → AH → Rs)} (h52 : I 52 = some (pureG g52)) (h81 : I 81 = some (pureG g81)) (h57 : I 57 = none) (kd : UInt8) (many : Int) (l : List (Int × List UInt8)) (m : Nat) (hk8 : kd.toNat < 256) (hm : 0 ≤ many ∧ many ≤ 200) (hl : okP l) :
    ∃ h' v, call F I T (m + 210) 57 [.int .u8 (kd.toNat : Nat), .int .i64 many, .lst false 1 l.length (lFst l), .lst false 1 l.length (lSnd l)] e0 = some (v, h') ∧ RowE 1 h' v (rep kd many l).length (ofBytes (rep kd many l)) := by
  obtain ⟨l2, hall⟩ := hl
  have c1 : IntKind.u8.wrap many = many := wrap_u8 (by omega) (by omega)
  have hhd : ofBytes (head2 kd many.toNat) = [.int .u8 (kd.toNat : Nat), .int .u8 many] := by
    have h2 : (UInt8.ofNat many.toNat).toNat = many.toNat := toNat_ofNat (by omega)
    have h3 : ((many.toNat : Nat) : Int) = many := by omega
    simp only [head2, ofBytes, List.map_cons, List.map_nil, h2, h3]
  rw [call_F (by decide) h57 F57 rfl R57]; simp only [Try.f57, Option.getD]
  simp +contextual (maxSteps := 3000000) only [↓code_seq, ↓code_region, ↓code_block, ↓code_loop, ↓ops_nil, ↓ops_cons, run_none, ↓run0_v, ↓run0_r, ↓seqK_normal, put_same, put_ne, env0_at, ev_tmp, ev_const, oc_int, oc_nils, o_move, o_assign, o_len, o_buildSlice, o_convert, g_none, next_e0, Option.bind_some, Option.getD_some, ↓reduceIte, Nat.reduceEqDiff, not_false_eq_true, Nat.reduceAdd, Nat.reduceMul, reduceCtorEq, List.getElem?_cons_zero, List.getElem?_cons_succ, List.map_cons, List.map_nil, List.append_nil, List.nil_append, List.cons_append, and_true, Nat.reduceLeDiff, Nat.le_refl, ne_eq, conv_int T3 T5 d5, buildSl T25 d25 T5 (n := 2) (by rw [s5]; decide), s5, z5, parts_eq, fillA, AV.cells, AH.splice, List.take_succ_cons, List.take_zero, List.drop_succ_cons, List.drop_zero, List.drop_nil, List.length_cons, List.length_nil, repl, len_lst T22 d22, c1]
  refine iterL_wp (Q := fun r => ∃ h' v, r = some (v, h') ∧ RowE 1 h' v (rep kd many l).length (ofBytes (rep kd many l))) (N := l.length) (Inv := fun k e h' => ∃ i v, k + i = l.length ∧ RowE 1 h' v (rep kd many (l.take i)).length (ofBytes (rep kd many (l.take i))) ∧ i ≤ l.length ∧ e 3 = .lst false 1 l.length (lSnd l) ∧ e 9 = v ∧ e 18 = .lst false 1 l.length (lFst l) ∧ e 19 = .int .i64 l.length ∧ e 20 = .int .i64 (i : Nat)) ?_ ?_ (by omega)
  · rintro k e h' K' ⟨i, v, hk, hrow, hil, e3, e9, e18, e19, e20⟩ hnext hexit
    by_cases hi : i < l.length
    · have c2 : (i : Int) < (l.length : Int) := by omega
      have c3 := drop_map_0 (f := fun x : Int × List UInt8 => AV.int .i64 x.1) (List.getElem?_eq_getElem hi)
      have c4 := drop_map_0 (f := fun x : Int × List UInt8 => AV.str x.2) (List.getElem?_eq_getElem hi)
      obtain ⟨c5, c6⟩ := hall l[i] (List.getElem_mem hi)
      have zz := zone_len c6
      have hplen := pr_len (l := l.take i) (fun x hx => hall x (List.mem_of_mem_take hx))
      have hrl : (rep kd many (l.take i)).length ≤ 2 + 34 * i := by
        simp only [rep, List.length_append, head2, List.length_cons, List.length_nil]
        rw [List.length_take] at hplen
        omega
      obtain ⟨bb, h2, happ, hrow2, hn1, hn2, hkeep⟩ := hrow.app T25 d25 T5 (isSrc_sl T25 d25) s5 (by rw [b5]; decide) (m := 2) (new := ofBytes (be2 l[i].1)) (x := .lst false 1 2 (ofBytes (be2 l[i].1)))
        (by rw [s5]; exact src_lst1) (by omega) rfl (ofBytes_one _) (by rw [b5]; unfold maxBytes; omega)
      have hpl : (putT l[i].2).length = l[i].2.length + 1 := by simp [putT]
      obtain ⟨cc, h3, happ3, hrow3, hm1, hm2, hkeep3⟩ := hrow2.app T25 d25 T5 (isSrc_sl T25 d25) s5 (by rw [b5]; decide) (m := (putT l[i].2).length) (new := ofBytes (putT l[i].2)) (x := .lst false 1 (putT l[i].2).length (ofBytes (putT l[i].2)))
        (by rw [s5]; exact src_lst1) (by omega) (by simp [ofBytes]) (ofBytes_one _) (by rw [b5]; unfold maxBytes; omega)
      have hrep : rep kd many (l.take (i + 1)) = rep kd many (l.take i) ++ be2 l[i].1 ++ putT l[i].2 := by
        unfold rep
        rw [take_snoc hi, List.flatMap_append, List.flatMap_singleton]
        simp only [pr, List.append_assoc]
      have hrow4 : RowE 1 h3 (.sl cc 0 ((rep kd many (l.take i)).length + 2 + (putT l[i].2).length) ((rep kd many (l.take i)).length + 2 + (putT l[i].2).length) 1 false) (rep kd many (l.take (i + 1))).length (ofBytes (rep kd many (l.take (i + 1)))) := by
        have : (rep kd many (l.take (i + 1))).length = (rep kd many (l.take i)).length + 2 + (putT l[i].2).length := by rw [hrep, List.length_append, List.length_append]; rfl
        rw [this, hrep, ← ofBytes_app, ← ofBytes_app]
        exact .inl hrow3
      simp only [lFst, lSnd] at e3 e18
      simp +contextual (maxSteps := 3000000) only [↓code_skip, ↓code_seq, ↓code_region, ↓code_cond, ↓code_block, aCond_bool, ↓ops_nil, ↓ops_cons, run_none, ↓run0_v, ↓run0_r, ↓seqK_normal, ↓blkK_normal, put_same, put_ne, ev_tmp, ev_const, ev_func, oc_int, o_move, o_assign, o_bin, o_call, o_load, o_indexAddr, o_extract, o_append, g_none, bin_add, bin_lss, extract_tup, decide_eq_true_eq, ↓reduceIte, Nat.reduceEqDiff, not_false_eq_true, List.getElem?_cons_zero, List.getElem?_cons_succ, List.map_cons, List.map_nil, List.append_nil, List.nil_append, and_true, ne_eq, ia_lst T22 d22 T3 s3, load_fp1 T3 a3, ia_lst T23 d23 T9 s9, load_fp1 T9 a9, callV_fn (g := 52) (by decide), K52 h52, callV_fn (g := 81) (by decide), K81 h81, e3, e9, e18, e19, e20, c2, c3, c4, c5, c6, happ, happ3, cast_nonneg, toNat_cast]
      refine hnext (k - 1) _ _ (by omega) ⟨i + 1, .sl cc 0 ((rep kd many (l.take i)).length + 2 + (putT l[i].2).length) ((rep kd many (l.take i)).length + 2 + (putT l[i].2).length) 1 false, by omega, ?_, ?_, ?_, ?_, ?_, ?_, ?_⟩
      · exact hrow4
      · omega
      · simp only [put_ne, Nat.reduceEqDiff, not_false_eq_true, ne_eq, e3]; rfl
      · simp only [put_same, put_ne, Nat.reduceEqDiff, not_false_eq_true, ne_eq]
      · simp only [put_ne, Nat.reduceEqDiff, not_false_eq_true, ne_eq, e18]; rfl
      · simp only [put_ne, Nat.reduceEqDiff, not_false_eq_true, ne_eq, e19]
      · simp only [put_same]; rw [wrap_i64 (by omega) (by omega)]; rfl
    · have c2 : ¬ (i : Int) < (l.length : Int) := by omega
      rw [take_end (show i = l.length by omega)] at hrow
      simp +contextual (maxSteps := 3000000) only [↓code_seq, ↓code_region, ↓code_cond, ↓code_exit, aCond_bool, ↓ops_nil, ↓ops_cons, run_none, ↓run0_v, ↓seqK_normal, ↓seqK_exit, put_same, ev_tmp, o_bin, g_none, bin_lss, decide_eq_true_eq, ↓reduceIte, e19, e20, c2]
      refine hexit _ _ _ (by simp) ⟨h', v, ?_, hrow⟩
      simp +contextual (maxSteps := 3000000) only [↓code_seq, ↓code_region, ↓code_ret, ↓ops_nil, ↓ops_cons, run_none, ↓run0_v, ↓seqK_normal, ↓blkK_exit, ↓retK_ret, put_same, put_ne, ev_tmp, o_move, o_assign, g_none, resultsOf, oneOrAll, Option.map_some, ↓reduceIte, Nat.reduceEqDiff, not_false_eq_true, ne_eq, e9]
  · refine ⟨0, .sl 0 0 2 2 1 true, by omega, ?_, ?_, ?_, ?_, ?_, ?_, ?_⟩
    · (simp only [List.take_zero, rep, List.flatMap_nil, List.append_nil, hhd]; exact RowE.lit (h := e0) (by decide) rfl)
    · omega
    · simp only [put_ne, env0_at, Option.getD_some, Nat.reduceEqDiff, not_false_eq_true, List.getElem?_cons_zero, List.getElem?_cons_succ, ne_eq]
    · simp only [put_same, put_ne, Nat.reduceEqDiff, not_false_eq_true, ne_eq]
    · simp only [put_same, put_ne, Nat.reduceEqDiff, not_false_eq_true, ne_eq]
    · simp only [put_same, put_ne, Nat.reduceEqDiff, not_false_eq_true, ne_eq]
    · simp only [put_same]; rfl
def prs (l : List (Int × List UInt8)) : List UInt8 := l.flatMap pr
theorem run58 {I : Nat → Option (List AV → AH → Rs)}  (h58 : I 58 = none) (l : List (Int × List UInt8)) (m : Nat) (hl : okP l) :
    ∃ h' v, call F I T (m + 210) 58 [.lst false 1 l.length (lFst l), .lst false 1 l.length (lSnd l)] e0 = some (v, h') ∧ RowE 1 h' v (prs l).length (ofBytes (prs l)) := by
  obtain ⟨l2, hall⟩ := hl
  rw [call_F (by decide) h58 F58 rfl R58]; simp only [Try.f58, Option.getD]
  simp +contextual (maxSteps := 3000000) only [↓code_seq, ↓code_region, ↓code_block, ↓code_loop, ↓ops_nil, ↓ops_cons, run_none, ↓run0_v, ↓seqK_normal, ev_const, oc_int, oc_nils, o_assign, g_none]
  refine iterL_wp (Q := fun r => ∃ h' v, r = some (v, h') ∧ RowE 1 h' v (prs l).length (ofBytes (prs l))) (N := l.length) (Inv := fun k e h' => ∃ i v, k + i = l.length ∧ RowE 1 h' v (prs (l.take i)).length (ofBytes (prs (l.take i))) ∧ i ≤ l.length ∧ e 0 = .lst false 1 l.length (lFst l) ∧ e 1 = .lst false 1 l.length (lSnd l) ∧ e 5 = v ∧ e 6 = .int .i64 (i : Nat)) ?_ ?_ (by omega)
  · rintro k e h' K' ⟨i, v, hk, hrow, hil, e0, e1, e5, e6⟩ hnext hexit
    by_cases hi : i < l.length
    · have c2 : (i : Int) < (l.length : Int) := by omega
      have c3 := drop_map_0 (f := fun x : Int × List UInt8 => AV.int .i64 x.1) (List.getElem?_eq_getElem hi)
      have c4 := drop_map_0 (f := fun x : Int × List UInt8 => AV.str x.2) (List.getElem?_eq_getElem hi)
      obtain ⟨c5, c6⟩ := hall l[i] (List.getElem_mem hi)
      have zz := zone_len c6
      have zn := net_lt c5
      have w1 : IntKind.u8.wrap (IntKind.i64.wrap (l[i].1.tdiv 256)) = ((l[i].1.toNat / 256 : Nat) : Int) := by
        rw [Int.tdiv_eq_ediv_of_nonneg (by omega), wrap_i64 (by omega) (by omega), wrap_u8 (by omega) (by omega)]; omega
      have w2 : IntKind.u8.wrap (l[i].1.tmod 256) = ((l[i].1.toNat % 256 : Nat) : Int) := by
        rw [Int.tmod_eq_emod_of_nonneg (by omega), wrap_u8 (by omega) (by omega)]; omega
      have w3 : IntKind.u8.wrap (l[i].2.length : Int) = (l[i].2.length : Int) := wrap_u8 (by omega) (by omega)
      have hplen := pr_len (l := l.take i) (fun x hx => hall x (List.mem_of_mem_take hx))
      have hrl : (prs (l.take i)).length ≤ 34 * i := by
        unfold prs
        rw [List.length_take] at hplen
        omega
      obtain ⟨bb, h2, happ, hrow2, hn1, hn2, hkeep⟩ := (allocE hrow (.cells [.int .u8 ((l[i].1.toNat / 256 : Nat) : Int), .int .u8 ((l[i].1.toNat % 256 : Nat) : Int), .int .u8 (l[i].2.length : Int)] .own)).app T25 d25 T5 (isSrc_sl T25 d25) s5 (by rw [b5]; decide) (m := 3)
        (new := [.int .u8 ((l[i].1.toNat / 256 : Nat) : Int), .int .u8 ((l[i].1.toNat % 256 : Nat) : Int), .int .u8 (l[i].2.length : Int)]) (x := .sl h'.next 0 3 3 1 true)
        (by rw [s5, src_sl]; simp [AH.loadn, AH.get_alloc]) (by omega) rfl rfl (by rw [b5]; unfold maxBytes; omega)
      obtain ⟨cc, h3, happ3, hrow3, hm1, hm2, hkeep3⟩ := (allocE (.inl hrow2) (.cells (ofBytes l[i].2) .byt)).app T25 d25 T5 (isSrc_sl T25 d25) s5 (by rw [b5]; decide) (m := l[i].2.length) (new := ofBytes l[i].2) (x := .sl h2.next 0 l[i].2.length l[i].2.length 1 false)
        (by rw [s5, src_sl]; simp [AH.loadn, AH.get_alloc, ofBytes]; exact List.take_of_length_le (by simp)) (by omega) (by simp [ofBytes]) (ofBytes_one _) (by rw [b5]; unfold maxBytes; omega)
      have hmx : l[i].2.length < maxBytes := by unfold maxBytes; omega
      have hrow4 : RowE 1 h3 (.sl cc 0 ((prs (l.take i)).length + 3 + l[i].2.length) ((prs (l.take i)).length + 3 + l[i].2.length) 1 false) (prs (l.take (i + 1))).length (ofBytes (prs (l.take (i + 1)))) := by
        have h1 : prs (l.take (i + 1)) = prs (l.take i) ++ (be2 l[i].1 ++ putT l[i].2) := by
          unfold prs
          rw [take_snoc hi, List.flatMap_append, List.flatMap_singleton]
          rfl
        have h2 : (prs (l.take (i + 1))).length = (prs (l.take i)).length + 3 + l[i].2.length := by rw [h1]; simp only [List.length_append, be2, putT, List.length_cons, List.length_nil]; omega
        rw [h2, h1, ← ofBytes_app, ← ofBytes_app, be2_eq c5, putT_eq c6]
        have := hrow3
        rw [List.append_assoc] at this
        exact .inl this
      simp only [lFst, lSnd] at e0 e1
      simp +contextual (maxSteps := 3000000) only [↓code_skip, ↓code_seq, ↓code_region, ↓code_cond, ↓code_block, aCond_bool, ↓ops_nil, ↓ops_cons, run_none, ↓run0_v, ↓run0_r, ↓seqK_normal, ↓blkK_normal, put_same, put_ne, ev_tmp, ev_const, oc_int, o_move, o_assign, o_bin, o_len, o_buildSlice, o_load, o_convert, o_indexAddr, o_append, g_none, bin_add, bin_quo, bin_rem, bin_lss, Option.bind_some, decide_eq_true_eq, ↓reduceIte, Nat.reduceEqDiff, not_false_eq_true, Nat.reduceAdd, Nat.reduceMul, reduceCtorEq, Nat.succ_ne_self, List.map_cons, List.map_nil, List.append_nil, List.nil_append, List.cons_append, and_true, Nat.reduceLeDiff, Nat.le_refl, ne_eq, len_lst T22 d22, ia_lst T22 d22 T3 s3, load_fp1 T3 a3, conv_int T3 T5 d5, ia_lst T23 d23 T9 s9, load_fp1 T9 a9, len_str T9 d9, buildSl T25 d25 T5 (n := 3) (by rw [s5]; decide), s5, z5, parts_eq, fillA, AV.cells, AH.splice, List.take_succ_cons, List.take_zero, List.drop_succ_cons, List.drop_zero, List.drop_nil, List.length_cons, List.length_nil, repl, conv_bytes T9 T25 d25 d9 T5 d5 s5, e0, e1, e5, e6, c2, c3, c4, w1, w2, w3, happ, happ3, hmx, cast_nonneg, toNat_cast, show ¬ ((256 : Int) = 0) by decide]
      refine hnext (k - 1) _ _ (by omega) ⟨i + 1, .sl cc 0 ((prs (l.take i)).length + 3 + l[i].2.length) ((prs (l.take i)).length + 3 + l[i].2.length) 1 false, by omega, ?_, ?_, ?_, ?_, ?_, ?_⟩
      · exact hrow4
      · omega
      · simp only [put_ne, not_false_eq_true, reduceCtorEq, ne_eq, e0]; rfl
      · simp only [put_ne, Nat.reduceEqDiff, not_false_eq_true, ne_eq, e1]; rfl
      · simp only [put_same, put_ne, Nat.reduceEqDiff, not_false_eq_true, ne_eq]
      · simp only [put_same]; rw [wrap_i64 (by omega) (by omega)]; rfl
    · have c2 : ¬ (i : Int) < (l.length : Int) := by omega
      rw [take_end (show i = l.length by omega)] at hrow
      simp only [lFst, lSnd] at e0 e1
      simp +contextual (maxSteps := 3000000) only [↓code_seq, ↓code_region, ↓code_cond, ↓code_exit, aCond_bool, ↓ops_nil, ↓ops_cons, run_none, ↓run0_v, ↓seqK_normal, ↓seqK_exit, put_same, put_ne, ev_tmp, o_move, o_bin, o_len, g_none, bin_lss, decide_eq_true_eq, ↓reduceIte, Nat.reduceEqDiff, not_false_eq_true, reduceCtorEq, ne_eq, len_lst T22 d22, e0, e6, c2]
      refine hexit _ _ _ (by simp) ⟨h', v, ?_, hrow⟩
      simp +contextual (maxSteps := 3000000) only [↓code_seq, ↓code_region, ↓code_ret, ↓ops_nil, ↓ops_cons, run_none, ↓run0_v, ↓seqK_normal, ↓blkK_exit, ↓retK_ret, put_same, put_ne, ev_tmp, o_move, o_assign, g_none, resultsOf, oneOrAll, Option.map_some, ↓reduceIte, Nat.reduceEqDiff, not_false_eq_true, ne_eq, e5]
  · refine ⟨0, .nils, by omega, ?_, ?_, ?_, ?_, ?_, ?_⟩
    · exact .inl (Row.nil _ _)
    · omega
    · simp only [put_ne, env0_at, Option.getD_some, not_false_eq_true, reduceCtorEq, List.getElem?_cons_zero, ne_eq]
    · simp only [put_ne, env0_at, Option.getD_some, Nat.reduceEqDiff, not_false_eq_true, List.getElem?_cons_zero, List.getElem?_cons_succ, ne_eq]
    · simp only [put_same, put_ne, Nat.reduceEqDiff, not_false_eq_true, ne_eq]
    · simp only [put_same]; rfl
end Go.AM.X
namespace Go.AM.Sx
open Go Go.AM
/-- Functions of four values. -/
def G4 {α β γ δ : Type} (v : View α) (w : View β) (u : View γ) (t : View δ) (s : α → β → γ → δ → Option AV) : List AV → Option AV
  | [a, b, c, d] => (v.dec a).bind fun x => (w.dec b).bind fun y => (u.dec c).bind fun z => (t.dec d).bind fun k => s x y z k
  | _ => none
theorem agree4 {P : Program} {F : Nat → Option FI} {I : Nat → Option (List AV → AH → Rs)} {T : TT} (hT : TAgree P T) (hmix : P.follows .mixedOrders = true) (hF : FAgree P F) (hI : IAgree P I)
    {α β γ δ : Type} {v : View α} {w : View β} {u : View γ} {t : View δ} {s : α → β → γ → δ → Option AV} {f : Nat} {fi : FI} (hfY : Nat.beq f YLD = false) (hFf : F f = some fi)
    (hg : ∀ x y z k r, s x y z k = some r → ∃ n k' h1 v1 v0, call F I T n f [v.enc x, w.enc y, u.enc z, t.enc k] e0 = some (v1, h1) ∧ frzF false k' h1 v1 = some v0 ∧ Wk v0 r) : IAgree P (addI I f (pureG (G4 v w u t s))) := by
  refine pure_agree hT hmix hF hI hfY fi hFf fun args r hr _ => ?_
  unfold G4 at hr
  split at hr
  · rename_i a b c d
    simp only [Option.bind_eq_some_iff] at hr
    obtain ⟨x, hx, y, hy, z, hz, k, hk, hs⟩ := hr
    obtain ⟨n, k', h1, v1, v0, hc, hfr, hw⟩ := hg x y z k r hs
    exact ⟨_, n, k', h1, v1, v0, WkL.cons (v.law _ _ hx) (WkL.cons (w.law _ _ hy) (WkL.cons (u.law _ _ hz) (WkL.cons (t.law _ _ hk) WkL.nil))), hc, hfr, hw⟩
  · cases hr
end Go.AM.Sx
namespace Go.AM.X
open Go Go.AM Go.Proofs Go.AM.Sx
set_option maxHeartbeats 400000
set_option maxRecDepth 100000
set_option linter.unusedVariables false
theorem F15 : F 15 = some { body := (Try.f15.body.getD .skip), results := Try.f15.results.toList, rf := false } := by kernel_rfl
theorem R15 : regsOk T (Try.f15.body.getD .skip) = true := by kernel_rfl
theorem F16 : F 16 = some { body := (Try.f16.body.getD .skip), results := Try.f16.results.toList, rf := false } := by kernel_rfl
theorem R16 : regsOk T (Try.f16.body.getD .skip) = true := by kernel_rfl
theorem lFst_zip {a : List Int} {c : List (List UInt8)} (h : a.length = c.length) : lFst (a.zip c) = a.map (AV.int .i64) := by
  rw [lFst_eq, List.map_fst_zip (by omega)]
theorem lSnd_zip {a : List Int} {c : List (List UInt8)} (h : a.length = c.length) : lSnd (a.zip c) = c.map AV.str := by
  rw [lSnd_eq, List.map_snd_zip (by omega)]
theorem len_zip {a : List Int} {c : List (List UInt8)} (h : a.length = c.length) : (a.zip c).length = a.length := by simp [h]
noncomputable def g57 := open Classical in G4 vByte (vInt .i64) (vList (vInt .i64)) (vList vStr) fun kd many a c =>
  if a.length = c.length ∧ okP (a.zip c) ∧ 0 ≤ many ∧ many ≤ 200 then some (.lst false 1 (rep kd many (a.zip c)).length (ofBytes (rep kd many (a.zip c)))) else none
noncomputable def g58 := open Classical in G2 (vList (vInt .i64)) (vList vStr) fun a c =>
  if a.length = c.length ∧ okP (a.zip c) then some (.lst false 1 (prs (a.zip c)).length (ofBytes (prs (a.zip c)))) else none
theorem flat_two (ex ex2 : Bool) (a : List Int) (c : List (List UInt8)) (n n2 : Nat) : flatL [AV.lst ex 1 n (a.map (.int .i64)), .lst ex2 1 n2 (c.map .str)] = true := by
  have h1 : flatL (a.map (AV.int .i64)) = true := flatL_map (fun _ => rfl) a
  have h2 : flatL (c.map AV.str) = true := flatL_map (fun _ => rfl) c
  simp [flatL, AV.flat, h1, h2]
theorem K57 {I : Nat → Option (List AV → AH → Rs)} (h57 : I 57 = some (pureG g57)) (m : Nat) (kd : UInt8) (many : Int) (a : List Int) (c : List (List UInt8)) (ex ex2 : Bool) (h : AH) (hl : a.length = c.length) (ho : okP (a.zip c)) (hm : 0 ≤ many ∧ many ≤ 200) :
    call F I T (m + 1) 57 [.int .u8 (kd.toNat : Nat), .int .i64 many, .lst ex 1 a.length (a.map (.int .i64)), .lst ex2 1 c.length (c.map .str)] h = some (.lst false 1 (rep kd many (a.zip c)).length (ofBytes (rep kd many (a.zip c))), h) := by
  rw [call_I (by decide) h57]
  have hf := flat_two ex ex2 a c a.length c.length
  refine pureG_flat (by simp only [flatL, AV.flat, Bool.true_and] at hf ⊢; exact hf) ?_
  have h1 := vList_dec (v := vInt .i64) dInt_enc ex a
  have h2 := vList_dec (v := vStr) dStr_enc ex2 c
  have h3 : vByte.dec (.int .u8 (kd.toNat : Nat)) = some kd := dByte_enc kd
  show (vByte.dec (.int .u8 (kd.toNat : Nat))).bind (fun x => ((vInt .i64).dec (.int .i64 many)).bind fun y => ((vList (vInt .i64)).dec (.lst ex 1 a.length (a.map (vInt .i64).enc))).bind fun z => ((vList vStr).dec (.lst ex2 1 c.length (c.map vStr.enc))).bind fun k => _) = _
  rw [h1, h2, h3]
  simp [vInt, dInt, hl, ho, hm]
theorem K58 {I : Nat → Option (List AV → AH → Rs)} (h58 : I 58 = some (pureG g58)) (m : Nat) (a : List Int) (c : List (List UInt8)) (ex ex2 : Bool) (h : AH) (hl : a.length = c.length) (ho : okP (a.zip c)) :
    call F I T (m + 1) 58 [.lst ex 1 a.length (a.map (.int .i64)), .lst ex2 1 c.length (c.map .str)] h = some (.lst false 1 (prs (a.zip c)).length (ofBytes (prs (a.zip c))), h) := by
  rw [call_I (by decide) h58]
  refine pureG_flat (flat_two ex ex2 a c a.length c.length) ?_
  have h1 := vList_dec (v := vInt .i64) dInt_enc ex a
  have h2 := vList_dec (v := vStr) dStr_enc ex2 c
  show ((vList (vInt .i64)).dec (.lst ex 1 a.length (a.map (vInt .i64).enc))).bind (fun z => ((vList vStr).dec (.lst ex2 1 c.length (c.map vStr.enc))).bind fun k => _) = _
  rw [h1, h2]
  simp [hl, ho]
def putR (a : List Int) (c : List (List UInt8)) : List UInt8 × Int :=
  if a.length = c.length ∧ areNets a = true ∧ c.any (!isZone ·) = false then (rep 2 a.length (a.zip c), 0) else ([], 2)
theorem okP_of {a : List Int} {c : List (List UInt8)} (h : a.length = c.length) (ha : areNets a = true) (hc : c.any (!isZone ·) = false) : okP (a.zip c) := by
  obtain ⟨⟨h1, h2⟩, _, h3⟩ := areNets_mem ha
  refine ⟨by rw [len_zip h]; omega, fun x hx => ?_⟩
  have h4 := List.of_mem_zip (a := x.1) (b := x.2) hx
  refine ⟨h3 _ h4.1, ?_⟩
  have := List.any_eq_false.1 hc _ h4.2
  simpa using this
def PB2 (g : List UInt8 × Int) (r : Rs) : Prop := ∃ h' v, r = some (.tup [v, .int .i64 g.2], h') ∧ (RowE 1 h' v g.1.length (ofBytes g.1) ∨ v = .lst false 1 g.1.length (ofBytes g.1))
theorem PB2.nil {h : AH} : PB2 ([], 2) (some (.tup [.nils, .int .i64 2], h)) := ⟨_, _, rfl, .inl (.inl (Row.nil _ _))⟩
theorem run15 {I : Nat → Option (List AV → AH → Rs)} (h49 : I 49 = some (pureG g49)) (h51 : I 51 = none) (h54 : I 54 = none) (h55 : I 55 = some (pureG g55)) (h22 : I 22 = none) (h56 : I 56 = none) (h57 : I 57 = some (pureG g57)) (h15 : I 15 = none) (a : List Int) (c : List (List UInt8)) (m : Nat) (hl : a.length < 140737488355328) (hz : small c) :
    PB2 (putR a c) (call F I T (m + 110) 15 [.lst false 1 a.length (a.map (.int .i64)), .lst false 1 c.length (c.map .str)] e0) := by
  have kk := fun m (h : AH) => K49 h49 m a true false h hl
  have k2 : ∀ m (h : AH), call F I T (m + 1) 49 [.lst false 1 a.length (a.map (.int .i64)), .fn 54 [] []] h = some (.bool (noNet a), h) := kk
  have k3 := fun m (h : AH) => K55 h55 m c false h hz
  rw [call_F (by decide) h15 F15 rfl R15]; simp only [Try.f15, Option.getD]
  by_cases q0 : (a.length : Int) = (c.length : Int)
  · have q0' : a.length = c.length := by omega
    by_cases q1 : (a.length : Int) < 1
    · have hG : putR a c = ([], 2) := by simp [putR, areNets, show ¬ 1 ≤ a.length by omega]
      rw [hG]
      simp +contextual (maxSteps := 3000000) only [↓code_seq, ↓code_region, ↓code_cond, ↓code_ret, aCond_bool, ↓ops_nil, ↓ops_cons, run_none, run_someF, ↓run0_v, ↓seqK_normal, ↓seqK_ret, ↓retK_ret, put_same, put_ne, env0_at, ev_tmp, ev_const, ev_func, oc_int, oc_bool, oc_nils, o_move, o_assign, o_pick, o_bin, o_call, o_len, g_none, g_some, pick_bool, bin_neq, bin_lss, resultsOf, oneOrAll, Option.bind_some, Option.map_some, Option.getD_some, ↓reduceIte, Nat.reduceEqDiff, not_false_eq_true, reduceCtorEq, List.getElem?_cons_zero, List.getElem?_cons_succ, List.getElem?_toArray, Bool.false_eq_true, List.map_cons, List.map_nil, List.append_nil, List.nil_append, Bool.not_true, ne_eq, len_lst T22 d22, len_lst T23 d23, callV_fn (g := 49) (by decide), callV_fn (g := 55) (by decide), decide_eq_true q0, decide_eq_true q1]
      exact PB2.nil
    · by_cases q2 : (100 : Int) < (a.length : Int)
      · have hG : putR a c = ([], 2) := by simp [putR, areNets, show ¬ a.length ≤ 100 by omega]
        rw [hG]
        simp +contextual (maxSteps := 3000000) only [↓code_seq, ↓code_region, ↓code_cond, ↓code_ret, aCond_bool, ↓ops_nil, ↓ops_cons, run_none, run_someF, ↓run0_v, ↓seqK_normal, ↓seqK_ret, ↓retK_ret, put_same, put_ne, env0_at, ev_tmp, ev_const, ev_func, oc_int, oc_bool, oc_nils, o_move, o_assign, o_pick, o_bin, o_call, o_len, g_none, g_some, pick_bool, bin_neq, bin_lss, bin_gtr, resultsOf, oneOrAll, Option.bind_some, Option.map_some, Option.getD_some, ↓reduceIte, Nat.reduceEqDiff, not_false_eq_true, reduceCtorEq, List.getElem?_cons_zero, List.getElem?_cons_succ, List.getElem?_toArray, Bool.false_eq_true, List.map_cons, List.map_nil, List.append_nil, List.nil_append, gt_iff_lt, Bool.not_true, ne_eq, len_lst T22 d22, len_lst T23 d23, callV_fn (g := 49) (by decide), callV_fn (g := 55) (by decide), decide_eq_true q0, decide_eq_false q1, decide_eq_true q2]
        exact PB2.nil
      · cases q3 : noNet a with
        | true =>
          have hG : putR a c = ([], 2) := by simp [putR, areNets, q3]
          rw [hG]
          rw [q3] at k2
          simp +contextual (maxSteps := 3000000) only [↓code_seq, ↓code_region, ↓code_cond, ↓code_ret, aCond_bool, ↓ops_nil, ↓ops_cons, run_none, run_someF, ↓run0_v, ↓run0_r, ↓seqK_normal, ↓seqK_ret, ↓retK_ret, put_same, put_ne, env0_at, ev_tmp, ev_const, ev_func, oc_int, oc_bool, oc_nils, o_move, o_assign, o_pick, o_bin, o_call, o_len, g_none, g_some, pick_bool, bin_neq, bin_lss, bin_gtr, resultsOf, oneOrAll, Option.bind_some, Option.map_some, Option.getD_some, ↓reduceIte, Nat.reduceEqDiff, not_false_eq_true, reduceCtorEq, List.getElem?_cons_zero, List.getElem?_cons_succ, List.getElem?_toArray, Bool.false_eq_true, List.map_cons, List.map_nil, List.append_nil, List.nil_append, gt_iff_lt, Bool.not_true, ne_eq, len_lst T22 d22, len_lst T23 d23, callV_fn (g := 49) (by decide), callV_fn (g := 55) (by decide), decide_eq_true q0, decide_eq_false q1, decide_eq_false q2, k2]
          exact PB2.nil
        | false =>
          rw [q3] at k2
          cases q4 : c.any (!isZone ·) with
          | true =>
            have hG : putR a c = ([], 2) := by unfold putR; rw [if_neg (by rw [q4]; simp)]
            rw [hG]
            rw [q4] at k3
            simp +contextual (maxSteps := 3000000) only [↓code_seq, ↓code_region, ↓code_cond, ↓code_ret, aCond_bool, ↓ops_nil, ↓ops_cons, run_none, run_someF, ↓run0_v, ↓run0_r, ↓seqK_normal, ↓seqK_ret, ↓retK_ret, put_same, put_ne, env0_at, ev_tmp, ev_const, ev_func, oc_int, oc_bool, oc_nils, o_move, o_assign, o_pick, o_bin, o_call, o_len, g_none, g_some, pick_bool, bin_neq, bin_lss, bin_gtr, resultsOf, oneOrAll, Option.bind_some, Option.map_some, Option.getD_some, ↓reduceIte, Nat.reduceEqDiff, not_false_eq_true, reduceCtorEq, List.getElem?_cons_zero, List.getElem?_cons_succ, List.getElem?_toArray, Bool.false_eq_true, List.map_cons, List.map_nil, List.append_nil, List.nil_append, gt_iff_lt, Bool.not_true, ne_eq, len_lst T22 d22, len_lst T23 d23, callV_fn (g := 49) (by decide), callV_fn (g := 55) (by decide), decide_eq_true q0, decide_eq_false q1, decide_eq_false q2, k2, k3]
            exact PB2.nil
          | false =>
            have ha : areNets a = true := by simp [areNets, q3, show 1 ≤ a.length by omega, show a.length ≤ 100 by omega]
            have hG : putR a c = (rep 2 a.length (a.zip c), 0) := by unfold putR; rw [if_pos ⟨q0', ha, q4⟩]
            rw [hG]
            rw [q4] at k3
            have k4 : ∀ m (h : AH), call F I T (m + 1) 57 [.int .u8 2, .int .i64 a.length, .lst false 1 a.length (a.map (.int .i64)), .lst false 1 c.length (c.map .str)] h = some (.lst false 1 (rep 2 a.length (a.zip c)).length (ofBytes (rep 2 a.length (a.zip c))), h) :=
              fun m h => K57 h57 m 2 a.length a c false false h q0' (okP_of q0' ha q4) (by omega)
            simp +contextual (maxSteps := 3000000) only [↓code_skip, ↓code_seq, ↓code_region, ↓code_cond, ↓code_ret, aCond_bool, ↓ops_nil, ↓ops_cons, run_none, run_someF, ↓run0_v, ↓run0_r, ↓seqK_normal, ↓retK_ret, put_same, put_ne, env0_at, ev_tmp, ev_const, ev_func, oc_int, oc_bool, oc_nils, o_move, o_assign, o_pick, o_bin, o_call, o_len, g_none, g_some, pick_bool, bin_neq, bin_lss, bin_gtr, resultsOf, oneOrAll, Option.bind_some, Option.map_some, Option.getD_some, ↓reduceIte, Nat.reduceEqDiff, not_false_eq_true, reduceCtorEq, List.getElem?_cons_zero, List.getElem?_cons_succ, List.getElem?_toArray, Bool.false_eq_true, List.map_cons, List.map_nil, List.append_nil, List.nil_append, gt_iff_lt, Bool.not_true, ne_eq, len_lst T22 d22, len_lst T23 d23, callV_fn (g := 49) (by decide), callV_fn (g := 55) (by decide), callV_fn (g := 57) (by decide), decide_eq_true q0, decide_eq_false q1, decide_eq_false q2, k2, k3, k4]
            exact ⟨_, _, rfl, .inr rfl⟩
  · have hG : putR a c = ([], 2) := by simp [putR, show ¬ a.length = c.length by omega]
    rw [hG]
    simp +contextual (maxSteps := 3000000) only [↓code_seq, ↓code_region, ↓code_cond, ↓code_ret, aCond_bool, ↓ops_nil, ↓ops_cons, run_none, run_someF, ↓run0_v, ↓seqK_normal, ↓seqK_ret, ↓retK_ret, put_same, put_ne, env0_at, ev_tmp, ev_const, ev_func, oc_int, oc_bool, oc_nils, o_move, o_assign, o_pick, o_bin, o_call, o_len, g_none, g_some, pick_bool, bin_neq, resultsOf, oneOrAll, Option.bind_some, Option.map_some, Option.getD_some, ↓reduceIte, Nat.reduceEqDiff, not_false_eq_true, reduceCtorEq, List.getElem?_cons_zero, List.getElem?_cons_succ, List.getElem?_toArray, List.map_cons, List.map_nil, List.append_nil, List.nil_append, Bool.not_eq_eq_eq_not, Bool.not_true, ne_eq, decide_eq_false_iff_not, len_lst T22 d22, len_lst T23 d23, callV_fn (g := 49) (by decide), callV_fn (g := 55) (by decide), q0]
    exact PB2.nil
theorem anyZ_drop {c : List (List UInt8)} {i : Nat} (hi : i < c.length) : (c.drop i).any (!isZone ·) = (!isZone c[i] || (c.drop (i + 1)).any (!isZone ·)) := by
  rw [drop_cons hi]; rfl
theorem run16 {I : Nat → Option (List AV → AH → Rs)} (h23 : I 23 = none) (h53 : I 53 = some (pureG g53)) (h58 : I 58 = some (pureG g58)) (h16 : I 16 = none) (a : List Int) (c : List (List UInt8)) (m : Nat) (hl : a.length < 140737488355328) (hz : small c) :
    PB2 (putR a c) (call F I T (m + 110) 16 [.lst false 1 a.length (a.map (.int .i64)), .lst false 1 c.length (c.map .str)] e0) := by
  have k1 := fun m (h : AH) => K53 h53 m a false h hl
  rw [call_F (by decide) h16 F16 rfl R16]; simp only [Try.f16, Option.getD]
  cases ha : areNets a with
  | false =>
    have hG : putR a c = ([], 2) := by simp [putR, ha]
    rw [hG]
    rw [ha] at k1
    simp +contextual (maxSteps := 3000000) only [↓code_seq, ↓code_region, ↓code_cond, ↓code_ret, aCond_bool, ↓ops_nil, ↓ops_cons, run_none, run_someF, ↓run0_v, ↓run0_r, ↓seqK_normal, ↓seqK_ret, ↓retK_ret, put_same, put_ne, env0_at, ev_tmp, ev_const, ev_func, oc_int, oc_bool, oc_nils, o_move, o_assign, o_pick, o_bin, o_call, o_len, o_un, g_none, g_some, pick_bool, un_not, resultsOf, oneOrAll, Option.bind_some, Option.map_some, Option.getD_some, ↓reduceIte, Nat.reduceEqDiff, not_false_eq_true, reduceCtorEq, List.getElem?_cons_zero, List.getElem?_cons_succ, List.getElem?_toArray, List.map_cons, List.map_nil, List.append_nil, List.nil_append, Bool.not_false, ne_eq, callV_fn (g := 53) (by decide), k1]
    exact PB2.nil
  | true =>
    rw [ha] at k1
    obtain ⟨⟨l1, l2⟩, q3, hall⟩ := areNets_mem ha
    by_cases q0 : (a.length : Int) = (c.length : Int)
    · have q0' : a.length = c.length := by omega
      simp +contextual (maxSteps := 3000000) only [↓code_skip, ↓code_seq, ↓code_region, ↓code_cond, ↓code_block, ↓code_loop, aCond_bool, ↓ops_nil, ↓ops_cons, run_none, run_someF, ↓run0_v, ↓run0_r, ↓seqK_normal, put_same, put_ne, env0_at, ev_tmp, ev_const, ev_func, oc_int, oc_bool, oc_nils, o_move, o_assign, o_pick, o_bin, o_call, o_len, o_un, g_none, g_some, pick_bool, bin_neq, un_not, Option.bind_some, Option.getD_some, ↓reduceIte, Nat.reduceEqDiff, not_false_eq_true, reduceCtorEq, List.getElem?_cons_zero, List.getElem?_cons_succ, List.getElem?_toArray, Bool.false_eq_true, List.map_cons, List.map_nil, List.append_nil, List.nil_append, Bool.not_true, ne_eq, len_lst T22 d22, len_lst T23 d23, callV_fn (g := 53) (by decide), k1, decide_eq_true q0]
      refine iterL_wp (Q := fun r => PB2 (putR a c) r) (N := c.length) (Inv := fun k e h' => ∃ i, k + i = c.length ∧ c.any (!isZone ·) = (c.drop i).any (!isZone ·) ∧ e 0 = .lst false 1 a.length (a.map (.int .i64)) ∧ e 1 = .lst false 1 c.length (c.map .str) ∧ e 6 = .int .i64 (i : Nat)) ?_ ?_ (by omega)
      · rintro k e h' K' ⟨i, hk, hr, e0, e1, e6⟩ hnext hexit
        by_cases hi : i < c.length
        · have c1 : (i : Int) < (c.length : Int) := by omega
          have c3 := drop_map_0 (f := AV.str) (List.getElem?_eq_getElem hi)
          rw [anyZ_drop hi] at hr
          cases hzz : isZone c[i] with
          | false =>
            have hG : putR a c = ([], 2) := by unfold putR; rw [if_neg (by rw [hr, hzz]; simp)]
            simp +contextual (maxSteps := 3000000) only [↓code_skip, ↓code_seq, ↓code_region, ↓code_cond, ↓code_block, ↓code_ret, aCond_bool, ↓ops_nil, ↓ops_cons, run_none, ↓run0_v, ↓run0_r, ↓seqK_normal, ↓seqK_ret, ↓blkK_ret, put_same, put_ne, ev_tmp, ev_const, ev_func, oc_int, oc_nils, o_move, o_assign, o_bin, o_call, o_len, o_load, o_un, o_indexAddr, g_none, bin_lss, un_not, decide_eq_true_eq, ↓reduceIte, Nat.reduceEqDiff, not_false_eq_true, List.map_cons, List.map_nil, List.append_nil, List.nil_append, and_true, Bool.not_false, ne_eq, len_lst T23 d23, ia_lst T23 d23 T9 s9, load_fp1 T9 a9, callV_fn (g := 23) (by decide), K23 h23, e1, e6, c1, c3, hzz, cast_nonneg, toNat_cast]
            refine hexit _ _ _ (by simp) ?_
            rw [hG]
            simp +contextual (maxSteps := 3000000) only [↓seqK_ret, ↓blkK_ret, ↓retK_ret, put_same, put_ne, resultsOf, oneOrAll, Option.map_some, Nat.reduceEqDiff, not_false_eq_true, ne_eq]
            exact PB2.nil
          | true =>
            rw [hzz] at hr
            simp +contextual (maxSteps := 3000000) only [↓code_skip, ↓code_seq, ↓code_region, ↓code_cond, ↓code_block, aCond_bool, ↓ops_nil, ↓ops_cons, run_none, ↓run0_v, ↓run0_r, ↓seqK_normal, ↓blkK_normal, put_same, put_ne, ev_tmp, ev_const, ev_func, oc_int, o_move, o_assign, o_bin, o_call, o_len, o_load, o_un, o_indexAddr, g_none, bin_add, bin_lss, un_not, decide_eq_true_eq, ↓reduceIte, Nat.reduceEqDiff, not_false_eq_true, Bool.false_eq_true, List.map_cons, List.map_nil, List.append_nil, List.nil_append, and_true, Bool.not_true, ne_eq, len_lst T23 d23, ia_lst T23 d23 T9 s9, load_fp1 T9 a9, callV_fn (g := 23) (by decide), K23 h23, e1, e6, c1, c3, hzz, cast_nonneg, toNat_cast]
            refine hnext (k - 1) _ _ (by omega) ⟨i + 1, by omega, ?_, ?_, ?_, ?_⟩
            · simpa using hr
            · simp only [put_ne, not_false_eq_true, reduceCtorEq, ne_eq, e0]
            · simp only [put_ne, Nat.reduceEqDiff, not_false_eq_true, ne_eq, e1]
            · simp only [put_same]; rw [wrap_i64 (by omega) (by omega)]; rfl
        · have c1 : ¬ (i : Int) < (c.length : Int) := by omega
          rw [drop_end hi] at hr
          have q4 : c.any (!isZone ·) = false := by rw [hr]; rfl
          have hG : putR a c = (rep 2 a.length (a.zip c), 0) := by unfold putR; rw [if_pos ⟨q0', ha, q4⟩]
          have ho := okP_of q0' ha q4
          have k4 := fun m (h : AH) => K58 h58 m a c false false h q0' ho
          have c2 : IntKind.u8.wrap (a.length : Int) = (a.length : Int) := wrap_u8 (by omega) (by omega)
          have hhd : ofBytes (head2 2 a.length) = [.int .u8 2, .int .u8 (a.length : Int)] := by
            have : (UInt8.ofNat a.length).toNat = a.length := toNat_ofNat (by omega)
            simp only [head2, ofBytes, List.map_cons, List.map_nil, this]
            rfl
          have hpl := pr_len ho.2
          have hpz : 0 < (prs (a.zip c)).length := by
            obtain ⟨y, t, hy⟩ : ∃ y t, a.zip c = y :: t := by
              cases hzz : a.zip c with
              | nil => have := len_zip q0'; rw [hzz] at this; simp at this; omega
              | cons y t => exact ⟨y, t, rfl⟩
            rw [hy]
            simp [prs, pr, be2]
          have hpm : (prs (a.zip c)).length ≤ 34 * 200 := by
            have := ho.1
            unfold prs
            omega
          obtain ⟨bb, h2, happ, hrow2, hn1, hn2, hkeep⟩ := (RowE.lit (h := h') (n := 2) (cs := [AV.int .u8 2, .int .u8 (a.length : Int)]) (by decide) rfl).app T25 d25 T5 (isSrc_sl T25 d25) s5 (by rw [b5]; decide) (m := (prs (a.zip c)).length) (new := ofBytes (prs (a.zip c)))
            (x := .lst false 1 (prs (a.zip c)).length (ofBytes (prs (a.zip c)))) (by rw [s5]; exact src_lst1) hpz (by simp [ofBytes]) (ofBytes_one _) (by rw [b5]; unfold maxBytes; omega)
          simp +contextual (maxSteps := 3000000) only [↓code_seq, ↓code_region, ↓code_cond, ↓code_exit, aCond_bool, ↓ops_nil, ↓ops_cons, run_none, ↓run0_v, ↓seqK_normal, ↓seqK_exit, put_same, put_ne, ev_tmp, o_move, o_bin, o_len, g_none, bin_lss, decide_eq_true_eq, ↓reduceIte, Nat.reduceEqDiff, not_false_eq_true, ne_eq, len_lst T23 d23, e1, e6, c1]
          refine hexit _ _ _ (by simp) ?_
          rw [hG]
          simp +contextual (maxSteps := 3000000) only [↓code_seq, ↓code_region, ↓code_ret, ↓ops_nil, ↓ops_cons, run_none, ↓run0_v, ↓run0_r, ↓seqK_normal, ↓blkK_exit, ↓retK_ret, put_same, put_ne, ev_tmp, ev_const, ev_func, oc_int, o_move, o_assign, o_call, o_len, o_buildSlice, o_convert, o_append, g_none, resultsOf, oneOrAll, Option.bind_some, Option.map_some, ↓reduceIte, Nat.reduceEqDiff, not_false_eq_true, Nat.reduceAdd, Nat.reduceMul, reduceCtorEq, List.map_cons, List.map_nil, List.append_nil, List.nil_append, List.cons_append, and_true, Nat.reduceLeDiff, Nat.le_refl, ne_eq, len_lst T22 d22, conv_int T3 T5 d5, buildSl T25 d25 T5 (n := 2) (by rw [s5]; decide), s5, z5, parts_eq, fillA, AV.cells, AH.splice, List.take_succ_cons, List.take_zero, List.drop_succ_cons, List.drop_zero, List.drop_nil, List.length_cons, List.length_nil, repl, callV_fn (g := 58) (by decide), e0, e1, k4, c2, happ]
          refine ⟨_, _, rfl, .inl ?_⟩
          have hlen : (rep 2 a.length (a.zip c)).length = 2 + (prs (a.zip c)).length := by
            simp only [rep, prs, head2, List.length_append, List.length_cons, List.length_nil]
          have hrep : rep 2 a.length (a.zip c) = head2 2 a.length ++ prs (a.zip c) := rfl
          simp only [hlen]
          rw [hrep, ← ofBytes_app, hhd]
          exact .inl hrow2
      · refine ⟨0, by omega, ?_, ?_, ?_, ?_⟩
        · rfl
        · simp only [put_ne, env0_at, Option.getD_some, not_false_eq_true, reduceCtorEq, List.getElem?_cons_zero, ne_eq]
        · simp only [put_ne, env0_at, Option.getD_some, Nat.reduceEqDiff, not_false_eq_true, List.getElem?_cons_zero, List.getElem?_cons_succ, ne_eq]
        · simp only [put_same]; rfl
    · have hG : putR a c = ([], 2) := by simp [putR, show ¬ a.length = c.length by omega]
      rw [hG]
      simp +contextual (maxSteps := 3000000) only [↓code_seq, ↓code_region, ↓code_cond, ↓code_ret, aCond_bool, ↓ops_nil, ↓ops_cons, run_none, run_someF, ↓run0_v, ↓run0_r, ↓seqK_normal, ↓seqK_ret, ↓retK_ret, put_same, put_ne, env0_at, ev_tmp, ev_const, ev_func, oc_int, oc_bool, oc_nils, o_move, o_assign, o_pick, o_bin, o_call, o_len, o_un, g_none, g_some, pick_bool, bin_neq, un_not, resultsOf, oneOrAll, Option.bind_some, Option.map_some, Option.getD_some, ↓reduceIte, Nat.reduceEqDiff, not_false_eq_true, reduceCtorEq, List.getElem?_cons_zero, List.getElem?_cons_succ, List.getElem?_toArray, Bool.false_eq_true, List.map_cons, List.map_nil, List.append_nil, List.nil_append, Bool.not_eq_eq_eq_not, Bool.not_true, ne_eq, decide_eq_false_iff_not, len_lst T22 d22, len_lst T23 d23, callV_fn (g := 53) (by decide), k1, q0]
      exact PB2.nil
end Go.AM.X
