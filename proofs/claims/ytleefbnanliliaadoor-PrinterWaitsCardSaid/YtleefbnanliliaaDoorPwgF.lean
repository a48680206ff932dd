/- PrinterWaits: the plain law. Own work. -/
import Derived.Test.YtleefbnanliliaaDoorPwgE
namespace Go.AM.X
open Go Go.AM Go.Proofs Go.AM.Sx
set_option maxHeartbeats 3200000
set_option maxRecDepth 100000
set_option linter.unusedVariables false
theorem bestAt_max (ws : List Wt) : ∀ i k, k < i → wAt ws k ≤ wAt ws (bestAt ws i) ∧ (k < bestAt ws i → wAt ws k < wAt ws (bestAt ws i))
  | 0, k, h => by omega
  | i + 1, k, h => by
    rw [bestAt]
    have ih := bestAt_max ws i
    have hb := bestAt_lt ws i
    split
    · next hc =>
      by_cases hk : k = i
      · subst hk; exact ⟨Int.le_refl _, fun h => by omega⟩
      · have := (ih k (by omega)).1
        exact ⟨by omega, fun _ => by omega⟩
    · next hc =>
      by_cases hk : k = i
      · subst hk
        refine ⟨by omega, fun h2 => ?_⟩
        by_cases h0 : 0 < k
        · have := hb h0; omega
        · have : k = 0 := by omega
          subst this
          simp [bestAt] at h2
      · exact ih k (by omega)
def addJ (j : Nat) (w : Wt) : Wt := { w with w := w.w + j }
theorem map_inc (R : List Wt) (j : Nat) : (R.map (addJ j)).map incW = R.map (addJ (j + 1)) := by
  rw [List.map_map]
  apply List.map_congr_left
  intro w _
  simp [incW, addJ]
  omega
def rows (l : List Int) : List Wt := l.mapIdx fun i x => ⟨((i + 1 : Nat) : Int), x, .nilp⟩
theorem rows_get (l : List Int) (i : Nat) : (rows l)[i]? = (l[i]?).map fun x => ⟨((i + 1 : Nat) : Int), x, .nilp⟩ := by simp [rows, List.getElem?_mapIdx]
theorem rows_len (l : List Int) : (rows l).length = l.length := by simp [rows]
theorem rows_mem {l : List Int} {w : Wt} (h : w ∈ rows l) : ∃ i x, l[i]? = some x ∧ w = ⟨((i + 1 : Nat) : Int), x, .nilp⟩ := by
  obtain ⟨i, hi⟩ := List.mem_iff_getElem?.1 h
  rw [rows_get] at hi
  cases hx : l[i]? with
  | none => rw [hx] at hi; cases hi
  | some x => rw [hx] at hi; cases hi; exact ⟨i, x, hx, rfl⟩
theorem rows_sorted (l : List Int) : (rows l).Pairwise fun a b => a.c < b.c := by
  rw [List.pairwise_iff_getElem]
  intro i j hi hj hij
  simp [rows]
  exact hij
theorem rows_none {l : List Int} {i : Nat} : ((rows l).take i).findIdx? (pW ((i + 1 : Nat) : Int)) = none := by
  rw [List.findIdx?_eq_none_iff]
  intro w hw
  obtain ⟨k, hk⟩ := List.mem_iff_getElem?.1 hw
  rw [List.getElem?_take] at hk
  split at hk
  · next hki =>
    rw [rows_get] at hk
    cases hx : l[k]? with
    | none => rw [hx] at hk; cases hk
    | some x => rw [hx] at hk; cases hk; simp [pW]; omega
  · cases hk
theorem find_idx {α : Type} {p : α → Bool} {l : List α} (h : l.findIdx? p = none) : idxAt p 0 l = -1 := by
  rcases idx_find p l 0 with ⟨i, h1, h2, h3⟩ | ⟨h1, h2⟩
  · rw [h] at h2; cases h2
  · exact h1
/-- What is left behind one that was served. -/
theorem served_first {R : List Wt} {j : Nat} (hs : R.Pairwise fun a b => a.c < b.c) (hne : R ≠ []) :
    ∃ x, R[best (R.map (addJ j))]? = some x ∧ best (R.map (addJ j)) < R.length ∧ ∀ y ∈ R.eraseIdx (best (R.map (addJ j))), (y.w < x.w ∨ (y.w = x.w ∧ x.c < y.c)) ∧ y.c ≠ x.c := by
  have hpos : 0 < (R.map (addJ j)).length := by rw [List.length_map]; exact List.length_pos_iff.2 hne
  obtain ⟨b, hb⟩ : ∃ b, b = best (R.map (addJ j)) := ⟨_, rfl⟩
  have hlt : b < R.length := by rw [hb]; have := bestAt_lt (R.map (addJ j)) _ hpos; rw [List.length_map] at this; unfold best; rw [List.length_map]; exact this
  rw [← hb]
  refine ⟨R[b], List.getElem?_eq_getElem hlt, hlt, fun y hy => ?_⟩
  obtain ⟨i, hi, hy⟩ := List.mem_eraseIdx_iff_getElem?.1 hy
  obtain ⟨hil, hyi⟩ := List.getElem?_eq_some_iff.1 hy
  have hm := bestAt_max (R.map (addJ j)) (R.map (addJ j)).length i (by rw [List.length_map]; exact hil)
  have hwi : wAt (R.map (addJ j)) i = y.w + j := by simp [wAt, hy, addJ]
  have hwb : wAt (R.map (addJ j)) b = R[b].w + j := by simp [wAt, List.getElem?_eq_getElem hlt, addJ]
  have hbb : bestAt (R.map (addJ j)) (R.map (addJ j)).length = b := hb.symm
  rw [hbb, hwi, hwb] at hm
  have hp := List.pairwise_iff_getElem.1 hs
  by_cases h : i < b
  · have h1 := hm.2 h
    have h2 := hp i b hil hlt h
    rw [hyi] at h2
    exact ⟨.inl (by omega), by omega⟩
  · have h1 := hm.1
    have h2 := hp b i hlt hil (by omega)
    rw [hyi] at h2
    exact ⟨by omega, by omega⟩
end Go.AM.X
namespace Go.AM.X
open Go Go.AM Go.Proofs Go.AM.Sx
set_option maxHeartbeats 6400000
set_option maxRecDepth 100000
set_option linter.unusedVariables false
theorem F10 : F 10 = some { body := (Tryd.f10.body.getD .skip), results := Tryd.f10.results.toList, rf := false } := by kernel_rfl
theorem R10 : regsOk T (Tryd.f10.body.getD .skip) = true := by kernel_rfl
theorem F3 : F 3 = some { body := (Tryd.f3.body.getD .skip), results := Tryd.f3.results.toList, rf := false } := by kernel_rfl
theorem R3 : regsOk T (Tryd.f3.body.getD .skip) = true := by kernel_rfl
def okQ (q : Int) : Bool := within q 1 500
def prt (q r : Int) : AB := .cells [.int .i64 q, .int .i64 r, .nils, .nils, .nils, .int .i64 0] .own
theorem K10 {I : Nat → Option (List AV → AH → Rs)} (h30 : I 30 = none) (h10 : I 10 = none) (m : Nat) (q : Int) (h : AH) : call F I T (m + 2) 10 [.int .i64 q] h = if okQ q = true then some (.tup [.ptr h.next 0, .int .i64 0], h.alloc (prt q 0)) else some (.tup [.nilp, .int .i64 2], h) := by
  rw [call_F (by decide) h10 F10 rfl R10]; simp only [Tryd.f10, Option.getD]
  cases hq : within q 1 500 <;> simp +contextual (maxSteps := 3000000) only [↓code_skip, ↓code_seq, ↓code_region, ↓code_cond, ↓code_ret, aCond_bool, ↓ops_nil, ↓ops_cons, run_none, ↓run0_v, ↓run0_r, ↓seqK_normal, ↓seqK_ret, ↓retK_ret, put_same, put_ne, env0_at, ev_tmp, ev_const, ev_func, oc_int, oc_nilp, o_move, o_assign, o_call, o_box, o_build, o_un, g_none, un_not, resultsOf, oneOrAll, Option.map_some, Option.getD_some, ↓reduceIte, Nat.reduceEqDiff, not_false_eq_true, Nat.reduceAdd, reduceCtorEq, List.getElem?_cons_zero, Bool.false_eq_true, List.map_cons, List.map_nil, List.append_nil, List.nil_append, List.cons_append, and_true, Nat.reduceLeDiff, Bool.not_true, Bool.not_false, ne_eq, build_struct T73 d73, z73, parts_eq, fillA, AV.cells, AH.splice, List.take_zero, List.drop_succ_cons, List.drop_zero, List.length_cons, List.length_nil, p73_0, box_agg, callV_fn (g := 30) (by decide), K30 h30, okQ, prt, hq]
noncomputable def g11 : List AV → Option AV
  | [] => some (.bool true)
  | _ => none
theorem K11 {I : Nat → Option (List AV → AH → Rs)} (h11 : I 11 = some (pureG g11)) (m : Nat) (h : AH) : call F I T (m + 1) 11 [] h = some (.bool true, h) := by
  rw [call_I (by decide) h11]; simp [pureG, flatL, g11]
def P0 : Pr := ⟨5, 0, 0, .nils, .nils, .nils, [], []⟩
theorem ok0 (h : AH) : OkP (h.alloc (prt 5 0)) h.next P0 :=
  { lt := by simp
    g := by rw [AH.get_alloc, if_pos rfl]; rfl
    w := RowC.nil _ _
    s := RowC.nil _ _
    b := fun x hx => by cases hx
    wp := fun _ _ _ _ _ _ e => by cases e
    sp := fun _ _ _ _ _ _ e => by cases e
    wsv := fun _ _ _ _ _ _ e => by cases e
    ap := fun x hx => by cases hx
    nd := List.nodup_nil
    wb := fun x hx => by cases hx
    jc := ⟨rfl, rfl⟩
    wl := by decide
    sl := by decide }
theorem map_erase (f : Wt → Wt) (R : List Wt) (b : Nat) : (R.map f).eraseIdx b = (R.eraseIdx b).map f := by
  rw [List.eraseIdx_eq_take_drop_succ, List.eraseIdx_eq_take_drop_succ, List.map_append, List.map_take, List.map_drop]
theorem map_add0 (R : List Wt) : R.map (addJ 0) = R := by
  have h : (fun w => addJ 0 w) = id := by
    funext w
    simp [addJ]
  show R.map (fun w => addJ 0 w) = R
  rw [h, List.map_id]
theorem law3 {I : Nat → Option (List AV → AH → Rs)} (h10 : I 10 = none) (h30 : I 30 = none) (h32 : I 32 = none) (h58 : I 58 = none) (h37 : I 37 = none) (h57 : I 57 = none) (h38 : I 38 = none) (h33 : I 33 = none) (h12 : I 12 = none) (h59 : I 59 = none) (h60 : I 60 = none)
    (h13 : I 13 = none) (h34 : I 34 = none) (h35 : I 35 = none) (h36 : I 36 = none) (h39 : I 39 = none) (h14 : I 14 = none) (h15 : I 15 = none) (h16 : I 16 = none) (h11 : I 11 = some (pureG g11)) (h3 : I 3 = none)
    (l : List Int) (hl : ∀ x ∈ l, 0 ≤ x ∧ x ≤ 65535) : ∃ h', call F I T 900 3 [.lst false 1 l.length (l.map fun x => .int .u16 x)] e0 = some (.bool true, h') := by
  have hQ5 : okQ 5 = true := by decide
  rw [call_F (by decide) h3 F3 rfl R3]; simp only [Tryd.f3, Option.getD]
  by_cases hn : l.length ≤ 30
  rotate_left
  · have c1 : (30 : Int) < (l.length : Int) := by omega
    simp +contextual (maxSteps := 3000000) only [↓code_seq, ↓code_region, ↓code_cond, ↓code_ret, aCond_bool, ↓ops_nil, ↓ops_cons, run_none, run_someT, run_someF, ↓run0_v, ↓run0_r, ↓seqK_normal, ↓seqK_ret, ↓retK_ret, put_same, put_ne, env0_at, ev_tmp, ev_const, ev_func, oc_int, oc_bool, oc_nilp, o_move, o_assign, o_pick, o_bin, o_call, o_len, o_extract, g_none, g_some, pick_bool, bin_eql, bin_neq, bin_gtr, extract_tup, next_e0, resultsOf, oneOrAll, Option.bind_some, Option.map_some, Option.getD_some, decide_eq_true_eq, ↓reduceIte, Nat.reduceEqDiff, not_false_eq_true, not_true_eq_false, reduceCtorEq, List.getElem?_cons_zero, List.getElem?_cons_succ, List.getElem?_toArray, Bool.false_eq_true, List.map_cons, List.map_nil, List.append_nil, List.nil_append, gt_iff_lt, Bool.not_eq_eq_eq_not, Bool.not_true, ne_eq, decide_eq_false_iff_not, pn_eql T23 d23, pn_neq T23 d23, len_lst T22 d22, K10 h30 h10, K11 h11, hQ5, c1, callV_fn (g := 10) (by decide), callV_fn (g := 11) (by decide)]
    exact ⟨_, rfl⟩
  have c1 : ¬ (30 : Int) < (l.length : Int) := by omega
  have hO0 := ok0 e0
  rw [show e0.next = 0 from rfl] at hO0
  simp +contextual (maxSteps := 3000000) only [↓code_skip, ↓code_seq, ↓code_region, ↓code_cond, ↓code_block, ↓code_loop, aCond_bool, ↓ops_nil, ↓ops_cons, run_none, run_someF, ↓run0_v, ↓run0_r, ↓seqK_normal, put_same, put_ne, env0_at, ev_tmp, ev_const, ev_func, oc_int, oc_bool, oc_nilp, o_move, o_assign, o_pick, o_bin, o_call, o_len, o_extract, g_none, g_some, pick_bool, bin_neq, bin_gtr, extract_tup, next_e0, Option.bind_some, Option.getD_some, decide_eq_true_eq, ↓reduceIte, Nat.reduceEqDiff, not_false_eq_true, not_true_eq_false, reduceCtorEq, List.getElem?_cons_zero, List.getElem?_cons_succ, List.getElem?_toArray, Bool.false_eq_true, List.map_cons, List.map_nil, List.append_nil, List.nil_append, gt_iff_lt, Bool.not_eq_eq_eq_not, Bool.not_true, ne_eq, decide_eq_false_iff_not, pn_eql T23 d23, len_lst T22 d22, K10 h30 h10, hQ5, c1, callV_fn (g := 10) (by decide)]
  refine iterL_wp (Q := fun r => ∃ h', r = some (.bool true, h')) (N := l.length) (Inv := fun k e h' => ∃ i Q, k + i = l.length ∧ OkP h' 0 Q ∧ (Q.q = 5 ∧ Q.r = 0 ∧ Q.ss = []) ∧ Q.ws = (rows l).take i ∧ i ≤ l.length ∧ e 0 = .lst false 1 l.length (l.map fun x => .int .u16 x) ∧ e 3 = .ptr 0 0 ∧ e 5 = .int .i64 (i : Nat)) ?_ ?_ (by omega)
  · rintro k e h' K' ⟨i, Q, hk, hO, hQ, hw, hil, e0, e3, e5⟩ hnext hexit
    by_cases hi : i < l.length
    · have d1 : (i : Int) < (l.length : Int) := by omega
      have d2 : ((i : Nat) : Int).toNat = i := rfl
      have hx := hl _ (List.getElem_mem hi)
      have c7 : IntKind.i64.wrap ((i : Int) + 1) = ((i + 1 : Nat) : Int) := by rw [wrap_i64 (by omega) (by omega)]; rfl
      have c8 : IntKind.i64.wrap l[i] = l[i] := wrap_i64 (by omega) (by omega)
      have hia2 : aIndexAddr T 22 (.lst false 1 l.length (l.map fun x => .int .u16 x)) (.int .i64 (i : Nat)) = some (.fp ((l.map fun x => AV.int .u16 x).drop i)) := by
        rw [ia_lst T22 d22 T29 s29, if_pos ⟨by omega, by omega⟩]; simp
      have hfp : (l.map fun x => AV.int .u16 x).drop i = .int .u16 l[i] :: (l.map fun x => AV.int .u16 x).drop (i + 1) := by
        rw [List.drop_eq_getElem_cons (by rw [List.length_map]; exact hi)]; simp
      rw [hfp] at hia2
      obtain ⟨v2, h2, r1, r2, r3⟩ := run12 h30 h32 h58 h37 h57 h38 h33 h12 h59 h60 596 0 ((i + 1 : Nat) : Int) l[i] Q h' hO (by rw [hQ.1]; decide)
      have hwi : within l[i] 0 100000 = true := by unfold within; simp; omega
      have hg : ¬ (((i + 1 : Nat) : Int) < 1 ∨ within l[i] 0 100000 = false) := by rw [hwi]; simp; omega
      have hE : wantE Q ⟨((i + 1 : Nat) : Int), l[i], .nilp⟩ = 0 := by
        unfold wantE
        rw [hw, hQ.2.2, if_neg, if_neg]
        · rw [List.length_take, rows_len]; omega
        · rw [find_idx rows_none]
          simp [idxAt]
      have hWE : WantE Q ((i + 1 : Nat) : Int) l[i] = 0 := by unfold WantE; rw [if_neg hg, hE]
      have hWP : WantP Q ((i + 1 : Nat) : Int) l[i] = (rows l).take (i + 1) := by
        unfold WantP wantP; rw [if_neg hg, if_pos hE, hw, List.take_add_one, rows_get, List.getElem?_eq_getElem hi]; rfl
      rw [hWE] at r1
      simp +contextual (maxSteps := 3000000) only [↓code_skip, ↓code_seq, ↓code_region, ↓code_cond, ↓code_block, aCond_bool, ↓ops_nil, ↓ops_cons, run_none, ↓run0_v, ↓run0_r, ↓seqK_normal, ↓blkK_normal, put_same, put_ne, ev_tmp, ev_const, ev_func, oc_int, o_move, o_assign, o_bin, o_call, o_len, o_load, o_convert, o_indexAddr, g_none, bin_add, bin_neq, bin_lss, decide_eq_true_eq, ↓reduceIte, Nat.reduceEqDiff, not_false_eq_true, not_true_eq_false, reduceCtorEq, List.getElem?_cons_zero, List.map_cons, List.map_nil, List.append_nil, List.nil_append, Bool.not_eq_eq_eq_not, Bool.not_true, ne_eq, decide_eq_false_iff_not, len_lst T22 d22, load_fp1 T29 a29, e0, e3, e5, d1, hia2, c7, c8, conv_int T29 T3 d3, r1, callV_fn (g := 12) (by decide)]
      refine hnext (k - 1) _ _ (by omega) ⟨i + 1, ({Q with wv := v2, ws := WantP Q ((i + 1 : Nat) : Int) l[i]} : Pr), by omega, ?_, ?_, ?_, ?_, ?_, ?_, ?_⟩
      · exact r2
      · exact hQ
      · exact hWP
      · omega
      · simp only [put_ne, not_false_eq_true, reduceCtorEq, ne_eq, e0]
      · simp only [put_ne, Nat.reduceEqDiff, not_false_eq_true, ne_eq, e3]
      · simp only [put_same]
    · have d1 : ¬ (i : Int) < (l.length : Int) := by omega
      have hin : i = l.length := by omega
      rw [hin, List.take_of_length_le (by rw [rows_len]; omega)] at hw
      simp +contextual (maxSteps := 3000000) only [↓code_seq, ↓code_region, ↓code_cond, ↓code_exit, aCond_bool, ↓ops_nil, ↓ops_cons, run_none, ↓run0_v, ↓seqK_normal, ↓seqK_exit, put_same, put_ne, ev_tmp, o_move, o_bin, o_len, g_none, bin_lss, decide_eq_true_eq, ↓reduceIte, Nat.reduceEqDiff, not_false_eq_true, reduceCtorEq, ne_eq, len_lst T22 d22, e0, e5, d1]
      refine hexit _ _ _ (by simp) ?_
      have hO1 := hO
      have hQ1 := hQ
      have hw1 := hw
      simp +contextual (maxSteps := 3000000) only [↓code_seq, ↓code_region, ↓code_block, ↓code_loop, ↓ops_nil, ↓ops_cons, run_none, ↓run0_v, ↓seqK_normal, ↓blkK_exit, ev_const, oc_int, o_assign, g_none, ↓reduceIte]
      refine iterL_wp (Q := fun r => ∃ h', r = some (.bool true, h')) (N := l.length) (Inv := fun k e h' => ∃ j Q R la ca, k + j = l.length ∧ OkP h' 0 Q ∧ (Q.q = 5 ∧ Q.r = 0 ∧ Q.ss = []) ∧ List.Pairwise (fun (a b : Wt) => a.c < b.c) R ∧ Q.ws = R.map (addJ j) ∧ R.length + j = l.length ∧ (∀ y ∈ R, y ∈ rows l) ∧ (∀ y ∈ R, y.w < la ∨ (y.w = la ∧ ca < y.c)) ∧ e 0 = .lst false 1 l.length (l.map fun x => .int .u16 x) ∧ e 3 = .ptr 0 0 ∧ e 6 = .int .i64 la ∧ e 7 = .int .i64 ca ∧ e 8 = .int .i64 (j : Nat)) ?_ ?_ (by omega)
      · rintro k e h' K' ⟨j, Q, R, la, ca, hk, hO, hQ, hRs, hw, hRl, hRm, hRb, e0, e3, e6, e7, e8⟩ hnext hexit
        by_cases hj : j < l.length
        · have d1 : (j : Int) < (l.length : Int) := by omega
          have hne : R ≠ [] := by intro e; rw [e] at hRl; simp at hRl; omega
          obtain ⟨P2, h2, r1, r2, r3, r4⟩ := run13 h32 h57 h34 h35 h36 h13 h35 499 0 Q h' hO (by rw [hQ.1]; decide) (by rw [hQ.2.1]; decide) (fun w hm => by
            rw [hw] at hm
            obtain ⟨y, hy, rfl⟩ := List.mem_map.1 hm
            obtain ⟨i0, a, ha, rfl⟩ := rows_mem (hRm y hy)
            have := hl a (List.mem_of_getElem? ha)
            simp only [addJ]; omega) (fun s hs => by rw [hQ.2.2] at hs; cases hs)
          obtain ⟨x, hx1, hx2, hx3⟩ := served_first (j := j + 1) hRs hne
          obtain ⟨b, hb⟩ : ∃ b, b = best (R.map (addJ (j + 1))) := ⟨_, rfl⟩
          rw [← hb] at hx1 hx2 hx3
          unfold Ticked at r4
          have hkp : kept Q = [] := by unfold kept; rw [hQ.2.2]; rfl
          have hfr : free Q [] = 1 := by unfold free; rw [hQ.2.1]; rfl
          have hMne : R.map (addJ (j + 1)) ≠ [] := by simpa using hne
          rw [hkp, hfr, hw, map_inc, serveL, if_neg hMne, ← hb] at r4
          obtain ⟨t1, t2, _, _, t3, nw, t4, t5⟩ := r4
          simp only [serveL, List.nil_append, List.map_cons, List.map_nil] at t3 t4 t5
          rw [List.getElem?_map, hx1] at t5
          obtain ⟨s, rfl⟩ : ∃ s, nw = [s] := by
            have := congrArg List.length t5
            rw [List.length_map] at this
            exact List.length_eq_one_iff.1 this
          have hsc : s.c = x.c := by
            simp [Sv.enc, nEnc, addJ] at t5
            exact t5.1
          rw [map_erase] at t3
          obtain ⟨i0, a, ha, hxe⟩ := rows_mem (hRm x (List.mem_of_getElem? hx1))
          have hal := hl a (List.mem_of_getElem? ha)
          have hi0 : i0 < l.length := (List.getElem?_eq_some_iff.1 ha).1
          have hxc : x.c = ((i0 + 1 : Nat) : Int) := by rw [hxe]
          have hxw : x.w = a := by rw [hxe]
          obtain ⟨v, h3', u1, u2, _, u3⟩ := run14 h32 h14 699 0 P2 h2 r2 (by rw [t1, hQ.1]; decide)
          rw [t4] at u2
          simp only [sI, List.map_cons, List.map_nil, List.length_cons, List.length_nil, hsc, hxc] at u2
          have hlen : ∀ h, aLen T 31 v h = some (.int .i64 1) := fun h => u2.len T31 d31
          obtain ⟨bb, rest, _, w1, w2, _⟩ := u2.at_ T31 d31 T3 s3 (i := 0) (by omega)
          simp only [Int.ofNat_zero, Nat.zero_mul] at w1
          have hia2 : aIndexAddr T 22 (.lst false 1 l.length (l.map fun x => .int .u16 x)) (.int .i64 (i0 : Nat)) = some (.fp ((l.map fun x => AV.int .u16 x).drop i0)) := by
            rw [ia_lst T22 d22 T29 s29, if_pos ⟨by omega, by omega⟩]; simp
          have hfp : (l.map fun x => AV.int .u16 x).drop i0 = .int .u16 a :: (l.map fun x => AV.int .u16 x).drop (i0 + 1) := by
            rw [List.drop_eq_getElem_cons (by rw [List.length_map]; exact hi0)]; simp [(List.getElem?_eq_some_iff.1 ha).2]
          rw [hfp] at hia2
          have c7 : IntKind.i64.wrap ((j : Int) + 1) = ((j + 1 : Nat) : Int) := by rw [wrap_i64 (by omega) (by omega)]; rfl
          have c8 : IntKind.i64.wrap a = a := wrap_i64 (by omega) (by omega)
          have c9 : IntKind.i64.wrap (((i0 + 1 : Nat) : Int) - 1) = ((i0 : Nat) : Int) := by rw [wrap_i64 (by omega) (by omega)]; omega
          have hO3 := r2.grow u3
          obtain ⟨v4, u4, h4, q1, q2, q3⟩ := run15 h32 h36 h58 h37 h57 h38 h39 h15 h59 h60 596 0 ((i0 + 1 : Nat) : Int) P2 h3' hO3 (by rw [t1, hQ.1]; decide)
          have hnf : P2.ws.findIdx? (pW ((i0 + 1 : Nat) : Int)) = none := by
            rw [List.findIdx?_eq_none_iff, t3]
            intro w hm
            obtain ⟨y, hy, rfl⟩ := List.mem_map.1 hm
            have := (hx3 y hy).2
            rw [hxc] at this
            exact decide_eq_false this
          have hsf : P2.ss.findIdx? (pS ((i0 + 1 : Nat) : Int)) = some 0 := by
            rw [t4]; simp [pS, hsc, hxc]
          have hc1 : ¬ ((i0 + 1 : Nat) : Int) < 1 := by omega
          have hgE : giveE P2 ((i0 + 1 : Nat) : Int) = 0 := by unfold giveE; rw [if_neg hc1, hnf, hsf]
          have hgW : giveW P2 ((i0 + 1 : Nat) : Int) = (R.eraseIdx b).map (addJ (j + 1)) := by unfold giveW; rw [if_neg hc1, hnf, t3]
          have hgS : giveS P2 ((i0 + 1 : Nat) : Int) = [] := by unfold giveS; rw [if_neg hc1, hnf, hsf, t4]; rfl
          rw [hgE] at q1
          have hbd := hRb x (List.mem_of_getElem? hx1)
          rw [hxw, hxc] at hbd
          have f1 : ¬ la < a := by omega
          have f2 : ¬ (l.length : Int) < ((i0 + 1 : Nat) : Int) := by omega
          by_cases f3 : a = la
          · have f4 : ¬ ((i0 + 1 : Nat) : Int) < ca := by omega
            subst f3
            simp +contextual (maxSteps := 3000000) only [↓code_skip, ↓code_seq, ↓code_region, ↓code_cond, ↓code_block, aCond_bool, ↓ops_nil, ↓ops_cons, run_none, run_someT, run_someF, ↓run0_v, ↓run0_r, ↓seqK_normal, ↓blkK_normal, put_same, put_ne, ev_tmp, ev_const, ev_func, oc_int, oc_bool, o_move, o_assign, o_pick, o_bin, o_call, o_len, o_load, o_convert, o_indexAddr, g_none, g_some, pick_bool, bin_add, bin_sub, bin_eql, bin_neq, bin_lss, bin_gtr, Option.bind_some, decide_eq_true_eq, ↓reduceIte, Nat.reduceEqDiff, not_false_eq_true, not_true_eq_false, reduceCtorEq, Nat.succ_ne_self, List.getElem?_cons_zero, List.getElem?_cons_succ, List.getElem?_toArray, List.map_cons, List.map_nil, List.append_nil, List.nil_append, List.cons_append, gt_iff_lt, Bool.not_eq_eq_eq_not, Bool.not_true, ne_eq, decide_eq_false_iff_not, len_lst T22 d22, load_fp1 T29 a29, loadc_def, load_p1 T3 a3, e0, e3, e6, e7, e8, d1, r1, u1, hlen, w1, w2, hc1, f1, f2, f4, c9, hia2, c7, c8, conv_int T29 T3 d3, q1, callV_fn (g := 13) (by decide), callV_fn (g := 14) (by decide), callV_fn (g := 15) (by decide)]
            refine hnext (k - 1) _ _ (by omega) ⟨j + 1, ({P2 with wv := v4, ws := giveW P2 ((i0 + 1 : Nat) : Int), sv := u4, ss := giveS P2 ((i0 + 1 : Nat) : Int)} : Pr), R.eraseIdx b, a, ((i0 + 1 : Nat) : Int), by omega, ?_, ?_, ?_, ?_, ?_, ?_, ?_, ?_, ?_, ?_, ?_, ?_⟩
            · exact q2
            · exact ⟨t1.trans hQ.1, t2.trans hQ.2.1, hgS⟩
            · exact hRs.sublist (List.eraseIdx_sublist _ _)
            · exact hgW
            · (rw [List.length_eraseIdx, if_pos hx2]; omega)
            · exact fun y hy => hRm y ((List.eraseIdx_sublist _ _).subset hy)
            · (intro y hy; have := (hx3 y hy).1; rw [hxw, hxc] at this; exact this)
            · simp only [put_ne, not_false_eq_true, reduceCtorEq, ne_eq, e0]
            · simp only [put_ne, Nat.reduceEqDiff, not_false_eq_true, ne_eq, e3]
            · simp only [put_same, put_ne, Nat.reduceEqDiff, not_false_eq_true, ne_eq]
            · simp only [put_same, put_ne, Nat.reduceEqDiff, not_false_eq_true, ne_eq]
            · simp only [put_same]
          · simp +contextual (maxSteps := 3000000) only [↓code_skip, ↓code_seq, ↓code_region, ↓code_cond, ↓code_block, aCond_bool, ↓ops_nil, ↓ops_cons, run_none, run_someT, run_someF, ↓run0_v, ↓run0_r, ↓seqK_normal, ↓blkK_normal, put_same, put_ne, ev_tmp, ev_const, ev_func, oc_int, oc_bool, o_move, o_assign, o_pick, o_bin, o_call, o_len, o_load, o_convert, o_indexAddr, g_none, g_some, pick_bool, bin_add, bin_sub, bin_eql, bin_neq, bin_lss, bin_gtr, Option.bind_some, decide_eq_true_eq, ↓reduceIte, Nat.reduceEqDiff, not_false_eq_true, not_true_eq_false, reduceCtorEq, Nat.succ_ne_self, List.getElem?_cons_zero, List.getElem?_cons_succ, List.getElem?_toArray, Bool.false_eq_true, List.map_cons, List.map_nil, List.append_nil, List.nil_append, List.cons_append, gt_iff_lt, Bool.not_eq_eq_eq_not, Bool.not_true, ne_eq, decide_eq_false_iff_not, len_lst T22 d22, load_fp1 T29 a29, loadc_def, load_p1 T3 a3, e0, e3, e6, e7, e8, d1, r1, u1, hlen, w1, w2, hc1, f1, f2, f3, c9, hia2, c7, c8, conv_int T29 T3 d3, q1, callV_fn (g := 13) (by decide), callV_fn (g := 14) (by decide), callV_fn (g := 15) (by decide)]
            refine hnext (k - 1) _ _ (by omega) ⟨j + 1, ({P2 with wv := v4, ws := giveW P2 ((i0 + 1 : Nat) : Int), sv := u4, ss := giveS P2 ((i0 + 1 : Nat) : Int)} : Pr), R.eraseIdx b, a, ((i0 + 1 : Nat) : Int), by omega, ?_, ?_, ?_, ?_, ?_, ?_, ?_, ?_, ?_, ?_, ?_, ?_⟩
            · exact q2
            · exact ⟨t1.trans hQ.1, t2.trans hQ.2.1, hgS⟩
            · exact hRs.sublist (List.eraseIdx_sublist _ _)
            · exact hgW
            · (rw [List.length_eraseIdx, if_pos hx2]; omega)
            · exact fun y hy => hRm y ((List.eraseIdx_sublist _ _).subset hy)
            · (intro y hy; have := (hx3 y hy).1; rw [hxw, hxc] at this; exact this)
            · simp only [put_ne, not_false_eq_true, reduceCtorEq, ne_eq, e0]
            · simp only [put_ne, Nat.reduceEqDiff, not_false_eq_true, ne_eq, e3]
            · simp only [put_same, put_ne, Nat.reduceEqDiff, not_false_eq_true, ne_eq]
            · simp only [put_same, put_ne, Nat.reduceEqDiff, not_false_eq_true, ne_eq]
            · simp only [put_same]
        · have d1 : ¬ (j : Int) < (l.length : Int) := by omega
          have hR : R = [] := List.length_eq_zero_iff.1 (by omega)
          rw [hR] at hw
          obtain ⟨v, h2, u1, u2, _, _⟩ := run16 h32 h16 699 0 Q h' hO (by rw [hQ.1]; decide)
          rw [hw] at u2
          have hlen : ∀ h, aLen T 31 v h = some (.int .i64 0) := fun h => u2.len T31 d31
          simp +contextual (maxSteps := 3000000) only [↓code_seq, ↓code_region, ↓code_cond, ↓code_exit, aCond_bool, ↓ops_nil, ↓ops_cons, run_none, ↓run0_v, ↓seqK_normal, ↓seqK_exit, put_same, put_ne, ev_tmp, o_move, o_bin, o_len, g_none, bin_lss, decide_eq_true_eq, ↓reduceIte, Nat.reduceEqDiff, not_false_eq_true, reduceCtorEq, ne_eq, len_lst T22 d22, e0, e8, d1]
          refine hexit _ _ _ (by simp) ?_
          simp +contextual (maxSteps := 3000000) only [↓code_seq, ↓code_region, ↓code_ret, ↓ops_nil, ↓ops_cons, run_none, run_someT, ↓run0_v, ↓run0_r, ↓seqK_normal, ↓blkK_exit, ↓retK_ret, put_same, put_ne, ev_tmp, ev_const, ev_func, oc_int, oc_bool, o_move, o_assign, o_pick, o_bin, o_call, o_len, g_none, g_some, pick_bool, bin_eql, resultsOf, oneOrAll, Option.bind_some, Option.map_some, decide_eq_true_eq, ↓reduceIte, Nat.reduceEqDiff, not_false_eq_true, List.getElem?_cons_zero, List.getElem?_cons_succ, List.getElem?_toArray, List.map_cons, List.map_nil, List.append_nil, List.nil_append, ne_eq, K11 h11, e3, u1, hlen, callV_fn (g := 16) (by decide), callV_fn (g := 11) (by decide)]
          exact ⟨_, rfl⟩
      · refine ⟨0, Q, rows l, 1073741824, 0, by omega, ?_, ?_, ?_, ?_, ?_, ?_, ?_, ?_, ?_, ?_, ?_, ?_⟩
        · exact hO1
        · exact hQ1
        · exact rows_sorted l
        · (rw [hw1, map_add0])
        · (rw [rows_len]; rfl)
        · exact fun y hy => hy
        · (intro y hy; obtain ⟨i0, a, ha, rfl⟩ := rows_mem hy; have := hl a (List.mem_of_getElem? ha); left; show a < _; omega)
        · simp only [put_ne, not_false_eq_true, reduceCtorEq, ne_eq, e0]
        · simp only [put_ne, Nat.reduceEqDiff, not_false_eq_true, ne_eq, e3]
        · simp only [put_same, put_ne, Nat.reduceEqDiff, not_false_eq_true, ne_eq]
        · simp only [put_same, put_ne, Nat.reduceEqDiff, not_false_eq_true, ne_eq]
        · simp only [put_same]; rfl
  · refine ⟨0, P0, by omega, ?_, ?_, ?_, ?_, ?_, ?_, ?_⟩
    · exact hO0
    · exact ⟨rfl, rfl, rfl⟩
    · rfl
    · omega
    · simp only [put_ne, env0_at, Option.getD_some, not_false_eq_true, reduceCtorEq, List.getElem?_cons_zero, ne_eq]
    · simp only [put_same, put_ne, Nat.reduceEqDiff, not_false_eq_true, ne_eq]
    · simp only [put_same]; rfl
end Go.AM.X
namespace Go.AM.X
open Go Go.AM Go.Proofs Go.AM.Sx
set_option maxHeartbeats 800000
set_option maxRecDepth 100000
theorem first11 : isT (call F noI T 60 11 [] e0) = true := by kernel_rfl
noncomputable def I1 := addI noI 11 (pureG g11)
theorem A1 : IAgree Tryd.prog I1 := by
  obtain ⟨fi, hfi⟩ : ∃ fi, F 11 = some fi := Option.isSome_iff_exists.1 (by kernel_rfl)
  refine pure_agree hT hmix hF (noI_agree _) (by decide) fi hfi fun args v hg _ => ?_
  unfold g11 at hg
  split at hg
  · cases hg
    obtain ⟨h', hc⟩ := isT_some first11
    exact ⟨[], 60, 3, h', .bool true, .bool true, WkL.nil, hc, by simp [frzF, AV.flat], Wk.refl _⟩
  · cases hg
theorem lawW (l : List Int) (hl : ∀ x ∈ l, 0 ≤ x ∧ x ≤ 65535) : ∃ h', call F I1 T 900 3 [.lst false 1 l.length (l.map fun x => .int .u16 x)] e0 = some (.bool true, h') :=
  law3 rfl rfl rfl rfl rfl rfl rfl rfl rfl rfl rfl rfl rfl rfl rfl rfl rfl rfl rfl rfl rfl l hl
end Go.AM.X
