/- The document's tables: entries in order, what is told. Own work. -/
import Derived.Test.YtekoffjfbjonmaaRtgH
namespace Go.AM.Sx
open Go Go.AM
set_option linter.unusedVariables false
theorem RowC.cut {T : TT} {t el : Nat} {ti te : TI} {sz n j : Nat} {h : AH} {v : AV} {cs : List AV} (ht : T t = some ti) (hd : ti.desc = .slice el) (he : T el = some te) (hz : te.size = sz) (hs0 : 0 < sz) (hr : RowC sz h v n cs) (hj : j ≤ n) :
    ∃ v2, aSlice T t v none (some (.int .i64 (j : Nat))) none = some v2 ∧ RowC sz h v2 j (cs.take (j * sz)) ∧ (∀ b o l k z x, v2 = .sl b o l k z x → ∃ o l k z x, v = .sl b o l k z x) := by
  rcases hr with ⟨rfl, rfl, rfl⟩ | ⟨b, cap, ex, rest, rfl, h1, h2, h3, h4⟩
  · have hj0 : j = 0 := by omega
    subst hj0
    exact ⟨.nils, by simp [aSlice, ht, hd, he, bnd], by rw [List.take_nil]; exact RowC.nil _ _, fun _ _ _ _ _ _ e => by cases e⟩
  have hncap : n ≤ cap := Nat.le_of_mul_le_mul_right (show n * sz ≤ cap * sz by omega) hs0
  have e1 : j * sz ≤ n * sz := Nat.mul_le_mul_right _ hj
  have := sl_slC (T := T) (b := b) (o := 0) (ex := ex) (mx := none) ht hd he hz (m := cap) (l := 0) (len := n) (cap := cap) (lo := none) rfl (bnd_nat (i := j)) rfl (by omega) (by omega) (Nat.le_refl _) (by simp)
  refine ⟨.sl b 0 j cap sz (ex || false), by simpa using this, .inr ⟨b, cap, ex || false, cs.drop (j * sz) ++ rest, rfl, by rw [List.length_take]; omega, ?_, h3, by rw [h4, ← List.append_assoc, List.take_append_drop]⟩, fun b' o l k z x e => by cases e; exact ⟨_, _, _, _, _, rfl⟩⟩
  rw [List.length_take, List.length_append, List.length_drop]; omega
theorem RowC.tail {T : TT} {t el : Nat} {ti te : TI} {sz n j : Nat} {h : AH} {v : AV} {cs : List AV} (ht : T t = some ti) (hd : ti.desc = .slice el) (he : T el = some te) (hz : te.size = sz) (hs0 : 0 < sz) (hr : RowC sz h v n cs) (hj : j ≤ n) :
    ∃ x, aSlice T t v (some (.int .i64 (j : Nat))) none none = some x ∧ ∀ h2 : AH, (∀ b o l k z x, v = .sl b o l k z x → h2.get b = h.get b) → aSource sz x h2 = some (n - j, cs.drop (j * sz)) := by
  rcases hr with ⟨rfl, rfl, rfl⟩ | ⟨b, cap, ex, rest, rfl, h1, h2, h3, h4⟩
  · have hj0 : j = 0 := by omega
    subst hj0
    exact ⟨.nils, by simp [aSlice, ht, hd, he, bnd], fun h2 _ => by simp [aSource]⟩
  have hncap : n ≤ cap := Nat.le_of_mul_le_mul_right (show n * sz ≤ cap * sz by omega) hs0
  have e1 : j * sz ≤ n * sz := Nat.mul_le_mul_right _ hj
  have e2 : (n - j) * sz = n * sz - j * sz := Nat.sub_mul _ _ _
  refine ⟨_, sl_slC ht hd he hz (m := cap) (u := n) rfl rfl bnd_nat (by omega) hncap (Nat.le_refl _) (by simp), fun h2 hk => ?_⟩
  rw [src_sl]
  have hk2 := hk b 0 n cap sz ex rfl
  simp only [AH.loadn, hk2, h4]
  rw [if_pos (by rw [List.length_append]; omega), Nat.zero_add, List.drop_append_of_le_length (by omega), List.take_append_of_le_length (by rw [List.length_drop]; omega), List.take_of_length_le (by rw [List.length_drop]; omega)]
  rfl
theorem RowC.src {sz n : Nat} {h : AH} {v : AV} {cs : List AV} (hr : RowC sz h v n cs) : aSource sz v h = some (n, cs) := by
  rcases hr with ⟨rfl, rfl, rfl⟩ | ⟨b, cap, ex, rest, rfl, h1, h2, h3, h4⟩
  · simp [aSource]
  · rw [src_sl]
    simp only [AH.loadn, h4]
    rw [if_pos (by rw [List.length_append]; omega), List.drop_zero, List.take_append_of_le_length (by omega), List.take_of_length_le (by omega)]
    rfl
end Go.AM.Sx
namespace Go.AM.X
open Go Go.AM Go.Proofs Go.AM.Sx
set_option maxHeartbeats 3200000
set_option maxRecDepth 100000
set_option linter.unusedVariables false
theorem F31 : F 31 = some { body := (Try.f31.body.getD .skip), results := Try.f31.results.toList, rf := false } := by kernel_rfl
theorem R31 : regsOk T (Try.f31.body.getD .skip) = true := by kernel_rfl
theorem F33 : F 33 = some { body := (Try.f33.body.getD .skip), results := Try.f33.results.toList, rf := false } := by kernel_rfl
theorem R33 : regsOk T (Try.f33.body.getD .skip) = true := by kernel_rfl
def backTo (x : Int) (l : List E6) : Nat → Nat
  | 0 => 0
  | k + 1 => match l[k]? with
    | some e => if x < e.lo then backTo x l k else k + 1
    | none => k + 1
def insE (l : List E6) (e : E6) : List E6 := l.take (backTo e.lo l l.length) ++ e :: l.drop (backTo e.lo l l.length)
def entD (es : List E6) : List E6 := es.foldl insE []
theorem insE_len (l : List E6) (e : E6) : (insE l e).length = l.length + 1 := by unfold insE; rw [List.length_append, List.length_cons, List.length_take, List.length_drop]; omega
theorem foldl_insE_len (es : List E6) : ∀ l : List E6, (es.foldl insE l).length = l.length + es.length := by
  induction es with
  | nil => intro l; rfl
  | cons e es ih => intro l; rw [List.foldl_cons, ih, insE_len, List.length_cons]; omega
theorem entD_len (es : List E6) : (entD es).length = es.length := by unfold entD; rw [foldl_insE_len]; simp
theorem entD_snoc (es : List E6) (e : E6) : entD (es ++ [e]) = insE (entD es) e := by unfold entD; rw [List.foldl_append]; rfl
theorem insStep {h0 h : AH} {v : AV} {L : List E6} (e : E6) (j : Nat) (hj : j ≤ L.length) (hr : RowC 6 h v L.length (fl E6.av L)) (hf : Fresh h0 v) (hg : Grow h0 h) (hl : L.length ≤ 100000000) :
    ∃ x t6 hB v1 v2 hC, aSlice T 36 v (some (.int .i64 (j : Nat))) none none = some x ∧ aAppend T 36 36 (.sl h.next 0 1 1 6 true) x (h.alloc (.cells [.int .i64 e.lo, .int .i64 e.hi, .int .i64 e.di, .int .i64 e.po, .int .i64 e.nx, .int .i64 e.st] .own)) = some (t6, hB) ∧
      aSlice T 36 v none (some (.int .i64 (j : Nat))) none = some v1 ∧ aAppend T 36 36 v1 t6 hB = some (v2, hC) ∧ RowC 6 hC v2 (L.take j ++ e :: L.drop j).length (fl E6.av (L.take j ++ e :: L.drop j)) ∧ Fresh h0 v2 ∧ Grow h0 hC := by
  have g1 := hg.1
  obtain ⟨x, x1, x2⟩ := hr.tail T36 d36 T60 s60 (by decide) hj
  obtain ⟨hA, hhA⟩ : ∃ hA, hA = h.alloc (.cells [.int .i64 e.lo, .int .i64 e.hi, .int .i64 e.di, .int .i64 e.po, .int .i64 e.nx, .int .i64 e.st] .own) := ⟨_, rfl⟩
  have nA : hA.next = h.next + 1 := by rw [hhA]; rfl
  have gA : Grow h hA := by rw [hhA]; exact Grow.alloc _ _
  have hr0 : RowC 6 hA (.sl h.next 0 1 1 6 true) 1 [.int .i64 e.lo, .int .i64 e.hi, .int .i64 e.di, .int .i64 e.po, .int .i64 e.nx, .int .i64 e.st] := .inr ⟨h.next, 1, true, [], rfl, rfl, rfl, by omega, by rw [hhA, AH.get_alloc, if_pos rfl]; rfl⟩
  have hsrc := x2 hA (fun b o l k z x hv => gA.2 b (hr.lt hv))
  rw [fl_drop E6.av 6 E6.len] at hsrc
  have hdl : (fl E6.av (L.drop j)).length = (L.length - j) * 6 := by rw [fl_len E6.av 6 E6.len, List.length_drop]
  obtain ⟨t6, hB, r1, r2, r3, r4, r5⟩ := RowC.app' (new := fl E6.av (L.drop j)) (m := L.length - j) (xt := 36) T36 d36 T60 (isSrc_sl T36 d36) s60 (by decide) (by rw [b60]; decide) hr0 (by rw [s60]; exact hsrc) hdl (fl_one E6.av E6.one _) (by rw [b60]; simp [maxBytes]; omega)
  have hvA := hr.grow gA
  have hvB : RowC 6 hB v L.length (fl E6.av L) := hvA.keep r3 fun b o l k z x hv => r4 b (hvA.lt hv) fun b' o' l' k' z' x' e' => by cases e'; have := hr.lt hv; omega
  obtain ⟨v1, y1, y2, y3⟩ := hvB.cut T36 d36 T60 s60 (by decide) hj
  rw [fl_take E6.av 6 E6.len] at y2
  have hcat : [.int .i64 e.lo, .int .i64 e.hi, .int .i64 e.di, .int .i64 e.po, .int .i64 e.nx, .int .i64 e.st] ++ fl E6.av (L.drop j) = fl E6.av (e :: L.drop j) := rfl
  rw [hcat] at r2
  obtain ⟨v2, hC, z1, z2, z3, z4, z5⟩ := RowC.app' (new := fl E6.av (e :: L.drop j)) (m := 1 + (L.length - j)) (xt := 36) T36 d36 T60 (isSrc_sl T36 d36) s60 (by decide) (by rw [b60]; decide) y2 (by rw [s60]; exact r2.src) (by rw [fl_len E6.av 6 E6.len, List.length_cons, List.length_drop]; omega) (fl_one E6.av E6.one _) (by rw [b60]; simp [maxBytes]; omega)
  rw [← fl_app] at z2
  have hlen : j + (1 + (L.length - j)) = (L.take j ++ e :: L.drop j).length := by rw [List.length_append, List.length_cons, List.length_take, List.length_drop]; omega
  rw [hlen] at z2
  refine ⟨x, t6, hB, v1, v2, hC, x1, by rw [← hhA]; exact r1, y1, z1, z2, fun b o l k z x e' => ?_, by omega, fun c hc => ?_⟩
  · rcases z5 _ _ _ _ _ _ e' with q | ⟨_, _, _, _, _, q⟩
    · omega
    · obtain ⟨_, _, _, _, _, q'⟩ := y3 _ _ _ _ _ _ q
      exact hf _ _ _ _ _ _ q'
  · have o1 : offRow v1 c := fun b o l k z x e' => by
      obtain ⟨_, _, _, _, _, q'⟩ := y3 _ _ _ _ _ _ e'
      have := hf _ _ _ _ _ _ q'
      omega
    rw [z4 c (by omega) o1, r4 c (by omega) (fun b o l k z x e' => by cases e'; omega), gA.2 c (by omega), hg.2 c hc]
theorem run31 {I : Nat → Option (List AV → AH → Rs)} (h31 : I 31 = none) (m t : Nat) (ps : List Pt) (es : List E6) (off : Nat → Prop) (h : AH) (hT : TbV false h t ps es off) (hn : es.length ≤ m ∧ es.length ≤ 100000000) :
    ∃ v h2, call F I T (m + 20) 31 [.ptr t 0] h = some (v, h2) ∧ RowC 6 h2 v (entD es).length (fl E6.av (entD es)) ∧ Fresh h v ∧ Grow h h2 := by
  obtain ⟨pv, ev, hTb, rfl, _⟩ := hT
  have hlen : ∀ h, aLen T 36 ev h = some (.int .i64 (es.length : Nat)) := fun h => hTb.e.len T36 d36
  rw [call_F (by decide) h31 F31 rfl R31]; simp only [Try.f31, Option.getD]
  simp +contextual (maxSteps := 3000000) only [↓code_seq, ↓code_region, ↓code_block, ↓code_loop, ↓ops_nil, ↓ops_cons, run_none, ↓run0_v, ↓seqK_normal, ev_const, oc_int, oc_nils, o_assign, g_none]
  refine iterL_wp (Q := fun r => ∃ v h2, r = some (v, h2) ∧ RowC 6 h2 v (entD es).length (fl E6.av (entD es)) ∧ Fresh h v ∧ Grow h h2) (N := es.length) (Inv := fun k e h' => ∃ i v L, k + i = es.length ∧ RowC 6 h' v L.length (fl E6.av L) ∧ Fresh h v ∧ Grow h h' ∧ L = entD (es.take i) ∧ i ≤ es.length ∧ e 0 = .ptr t 0 ∧ e 3 = v ∧ e 4 = .int .i64 (i : Nat)) ?_ ?_ (by omega)
  · rintro k e h' K' ⟨i, v, L, hk, hr, hf, hg, hL, hil, e0, e3, e4⟩ hnext hexit
    have hTk := hTb.grow hg
    have gt := hTk.g
    have hLl : L.length = i := by rw [hL, entD_len, List.length_take]; omega
    have hlv : ∀ h, aLen T 36 v h = some (.int .i64 (L.length : Nat)) := fun h => hr.len T36 d36
    by_cases hi' : i < es.length
    · have c1 : (i : Int) < (es.length : Int) := by omega
      obtain ⟨e1, he1⟩ : ∃ e1, es[i]? = some e1 := ⟨es[i], List.getElem?_eq_getElem hi'⟩
      obtain ⟨b, cs, bk, g1, g2, g3, g4, g5, g5', g6, _⟩ := load6 hTk.e he1
      have c7 : IntKind.i64.wrap ((i : Int) + 1) = ((i + 1 : Nat) : Int) := by rw [wrap_i64 (by omega) (by omega)]; rfl
      have hnext0 := hnext
      have hexit0 := hexit
      obtain ⟨k0, hk0⟩ : ∃ k0, k0 = k := ⟨k, rfl⟩
      obtain ⟨H, hH⟩ : ∃ H, H = h' := ⟨_, rfl⟩
      simp +contextual (maxSteps := 3000000) only [↓code_skip, ↓code_seq, ↓code_region, ↓code_cond, ↓code_block, ↓code_loop, aCond_bool, ↓ops_nil, ↓ops_cons, run_none, ↓run0_v, ↓seqK_normal, put_same, put_ne, ev_tmp, o_move, o_assign, o_bin, o_len, o_load, o_nilCheck, o_fieldAddr, g_none, bin_lss, nil_ptr, decide_eq_true_eq, ↓reduceIte, Nat.reduceEqDiff, not_false_eq_true, Nat.reduceAdd, reduceCtorEq, List.getElem?_cons_zero, List.getElem?_cons_succ, ne_eq, fa_ptr T52 p52_1 (by decide), load_p1 T36 a36, loadc_def, e0, e3, e4, c1, gt, hlen, hlv]
      refine iterL_wp (Q := fun r => ∃ v h2, r = some (v, h2) ∧ RowC 6 h2 v (entD es).length (fl E6.av (entD es)) ∧ Fresh h v ∧ Grow h h2) (N := L.length) (Inv := fun k e h' => ∃ q j, k + q = L.length ∧ j + q = L.length ∧ h' = H ∧ backTo e1.lo L L.length = backTo e1.lo L j ∧ e 0 = .ptr t 0 ∧ e 3 = v ∧ e 4 = .int .i64 (i : Nat) ∧ e 5 = .int .i64 (j : Nat)) ?_ ?_ (by omega)
      · rintro k e h' K' ⟨q, j, hk, hjq, hh, hbk, e0, e3, e4, e5⟩ hnext hexit
        rw [hH] at hh
        subst hh
        have fin : backTo e1.lo L j = j → insE L e1 = L.take j ++ e1 :: L.drop j := fun hb => by unfold insE; rw [hbk, hb]
        have hsn : entD (es.take (i + 1)) = insE L e1 := by rw [List.take_add_one, he1, hL]; exact entD_snoc _ _
        obtain ⟨x, t6, hB, v1, v2, hC, x1, x2, x3, x4, x5, x6, x7⟩ := insStep e1 j (by omega) hr hf hg (by omega)
        by_cases d1 : 0 < (j : Int)
        · obtain ⟨j', rfl⟩ : ∃ j', j = j' + 1 := ⟨j - 1, by omega⟩
          have c8 : IntKind.i64.wrap (((j' + 1 : Nat) : Int) - 1) = (j' : Int) := by rw [wrap_i64 (by omega) (by omega)]; omega
          obtain ⟨y, hy⟩ : ∃ y, L[j']? = some y := ⟨L[j']'(by omega), List.getElem?_eq_getElem (by omega)⟩
          obtain ⟨b2, cs2, bk2, q1, q2, q3, q4, q5, q5', _⟩ := load6 hr hy
          have hb1 : backTo e1.lo L (j' + 1) = if e1.lo < y.lo then backTo e1.lo L j' else j' + 1 := by simp only [backTo, hy]
          by_cases d2 : e1.lo < y.lo
          · rw [if_pos d2] at hb1
            simp +contextual (maxSteps := 3000000) only [↓code_skip, ↓code_seq, ↓code_region, ↓code_cond, ↓code_block, aCond_bool, ↓ops_nil, ↓ops_cons, run_none, run_someT, ↓run0_v, ↓seqK_normal, ↓blkK_normal, put_same, put_ne, ev_tmp, ev_const, oc_int, oc_bool, o_move, o_assign, o_pick, o_bin, o_load, o_nilCheck, o_fieldAddr, o_indexAddr, g_none, g_some, pick_bool, bin_sub, bin_gtr, nil_ptr, Option.bind_some, decide_eq_true_eq, ↓reduceIte, Nat.reduceEqDiff, not_false_eq_true, Nat.reduceAdd, reduceCtorEq, List.getElem?_cons_zero, List.getElem?_cons_succ, List.getElem?_toArray, gt_iff_lt, ne_eq, fa_ptr T52 p52_1 (by decide), load_p1 T36 a36, loadc_def, fa_ptr T60 p60_0 (by decide), load_p1 T3 a3, e0, e3, e4, e5, d1, c8, q1, q2, q5', gt, g1, g2, g5', d2]
            refine hnext (k - 1) _ _ (by omega) ⟨q + 1, j', by omega, ?_, ?_, ?_, ?_, ?_, ?_, ?_⟩
            · omega
            · exact hH.symm
            · exact hbk.trans hb1
            · simp only [put_ne, not_false_eq_true, reduceCtorEq, ne_eq, e0]
            · simp only [put_ne, Nat.reduceEqDiff, not_false_eq_true, ne_eq, e3]
            · simp only [put_ne, Nat.reduceEqDiff, not_false_eq_true, ne_eq, e4]
            · simp only [put_same]
          · rw [if_neg d2] at hb1
            rw [← fin hb1] at x5
            simp +contextual (maxSteps := 3000000) only [↓code_seq, ↓code_region, ↓code_cond, ↓code_exit, aCond_bool, ↓ops_nil, ↓ops_cons, run_none, run_someT, ↓run0_v, ↓seqK_normal, ↓seqK_exit, put_same, put_ne, ev_tmp, ev_const, oc_int, oc_bool, o_move, o_pick, o_bin, o_load, o_nilCheck, o_fieldAddr, o_indexAddr, g_none, g_some, pick_bool, bin_sub, bin_gtr, nil_ptr, Option.bind_some, decide_eq_true_eq, ↓reduceIte, Nat.reduceEqDiff, not_false_eq_true, Nat.reduceAdd, reduceCtorEq, List.getElem?_cons_zero, List.getElem?_cons_succ, List.getElem?_toArray, gt_iff_lt, ne_eq, fa_ptr T52 p52_1 (by decide), load_p1 T36 a36, loadc_def, fa_ptr T60 p60_0 (by decide), load_p1 T3 a3, e0, e3, e4, e5, d1, c8, q1, q2, q5', gt, g1, g2, g5', d2]
            refine hexit _ _ _ (by simp) ?_
            simp +contextual (maxSteps := 3000000) only [↓code_seq, ↓code_region, ↓ops_nil, ↓ops_cons, run_none, ↓run0_v, ↓run0_r, ↓seqK_normal, ↓blkK_normal, ↓blkK_exit, put_same, put_ne, ev_tmp, ev_const, oc_int, o_move, o_assign, o_bin, o_buildSlice, o_load, o_nilCheck, o_slice, o_fieldAddr, o_indexAddr, o_append, g_none, bin_add, nil_ptr, Option.bind_some, Option.map_some, Option.map_none, ↓reduceIte, Nat.reduceEqDiff, not_false_eq_true, Nat.reduceAdd, Nat.reduceMul, reduceCtorEq, Nat.succ_ne_self, List.getElem?_cons_zero, List.getElem?_cons_succ, List.map_cons, List.map_nil, List.append_nil, List.nil_append, and_true, Nat.le_refl, ne_eq, fa_ptr T52 p52_1 (by decide), load_p1 T36 a36, loadc_def, load_pA T60 a60, s60, loadn_def, buildSl T36 d36 T60 (n := 1) (by rw [s60]; decide), z60, parts_eq, fillA, AV.cells, AH.splice, List.take_zero, List.drop_succ_cons, List.drop_nil, List.length_cons, List.length_nil, repl, List.length_cons, List.length_nil, List.take_zero, Nat.zero_add, Nat.add_zero, e0, e3, e4, e5, gt, g1, g2, g3, g4, x1, x2, x3, x4, c7]
            refine hnext0 (k0 - 1) _ _ (by omega) ⟨i + 1, v2, insE L e1, by omega, x5, x6, x7, hsn.symm, by omega, ?_, ?_, ?_⟩
            · simp only [put_ne, not_false_eq_true, reduceCtorEq, ne_eq, e0]
            · simp only [put_same, put_ne, Nat.reduceEqDiff, not_false_eq_true, ne_eq]
            · simp only [put_same]
        · have hj0 : j = 0 := by omega
          subst hj0
          rw [← fin rfl] at x5
          simp +contextual (maxSteps := 3000000) only [↓code_seq, ↓code_region, ↓code_cond, ↓code_exit, aCond_bool, ↓ops_nil, ↓ops_cons, run_none, run_someT, ↓run0_v, ↓seqK_normal, ↓seqK_exit, put_same, put_ne, ev_tmp, ev_const, oc_int, oc_bool, o_move, o_pick, o_bin, o_load, o_nilCheck, o_fieldAddr, o_indexAddr, g_none, g_some, pick_bool, bin_gtr, Option.bind_some, decide_eq_true_eq, ↓reduceIte, Nat.reduceEqDiff, not_false_eq_true, reduceCtorEq, List.getElem?_cons_zero, List.getElem?_cons_succ, List.getElem?_toArray, Bool.false_eq_true, gt_iff_lt, ne_eq, e0, e3, e4, e5, d1]
          refine hexit _ _ _ (by simp) ?_
          simp +contextual (maxSteps := 3000000) only [↓code_seq, ↓code_region, ↓ops_nil, ↓ops_cons, run_none, ↓run0_v, ↓run0_r, ↓seqK_normal, ↓blkK_normal, ↓blkK_exit, put_same, put_ne, ev_tmp, ev_const, oc_int, o_move, o_assign, o_bin, o_buildSlice, o_load, o_nilCheck, o_slice, o_fieldAddr, o_indexAddr, o_append, g_none, bin_add, nil_ptr, Option.bind_some, Option.map_some, Option.map_none, ↓reduceIte, Nat.reduceEqDiff, not_false_eq_true, Nat.reduceAdd, Nat.reduceMul, reduceCtorEq, Nat.succ_ne_self, List.getElem?_cons_zero, List.getElem?_cons_succ, List.map_cons, List.map_nil, List.append_nil, List.nil_append, and_true, Nat.le_refl, ne_eq, fa_ptr T52 p52_1 (by decide), load_p1 T36 a36, loadc_def, load_pA T60 a60, s60, loadn_def, buildSl T36 d36 T60 (n := 1) (by rw [s60]; decide), z60, parts_eq, fillA, AV.cells, AH.splice, List.take_zero, List.drop_succ_cons, List.drop_nil, List.length_cons, List.length_nil, repl, List.length_cons, List.length_nil, List.take_zero, Nat.zero_add, e0, e3, e4, e5, gt, g1, g2, g3, g4, x1, x2, x3, x4, c7]
          refine hnext0 (k0 - 1) _ _ (by omega) ⟨i + 1, v2, insE L e1, by omega, x5, x6, x7, hsn.symm, by omega, ?_, ?_, ?_⟩
          · simp only [put_ne, not_false_eq_true, reduceCtorEq, ne_eq, e0]
          · simp only [put_same, put_ne, Nat.reduceEqDiff, not_false_eq_true, ne_eq]
          · simp only [put_same]
      · refine ⟨0, L.length, by omega, ?_, ?_, ?_, ?_, ?_, ?_, ?_⟩
        · omega
        · exact hH.symm
        · rfl
        · simp only [put_ne, not_false_eq_true, reduceCtorEq, ne_eq, e0]
        · simp only [put_ne, Nat.reduceEqDiff, not_false_eq_true, ne_eq, e3]
        · simp only [put_ne, Nat.reduceEqDiff, not_false_eq_true, ne_eq, e4]
        · simp only [put_same]
    · have c1 : ¬ (i : Int) < (es.length : Int) := by omega
      rw [List.take_of_length_le (by omega)] at hL
      rw [hL] at hr
      simp +contextual (maxSteps := 3000000) only [↓code_seq, ↓code_region, ↓code_cond, ↓code_exit, aCond_bool, ↓ops_nil, ↓ops_cons, run_none, ↓run0_v, ↓seqK_normal, ↓seqK_exit, put_same, put_ne, ev_tmp, o_move, o_bin, o_len, o_load, o_nilCheck, o_fieldAddr, g_none, bin_lss, nil_ptr, decide_eq_true_eq, ↓reduceIte, Nat.reduceEqDiff, not_false_eq_true, Nat.reduceAdd, reduceCtorEq, List.getElem?_cons_zero, List.getElem?_cons_succ, ne_eq, fa_ptr T52 p52_1 (by decide), load_p1 T36 a36, loadc_def, e0, e4, c1, gt, hlen]
      refine hexit _ _ _ (by simp) ⟨v, h', ?_, hr, hf, hg⟩
      simp +contextual (maxSteps := 3000000) only [↓code_seq, ↓code_region, ↓code_ret, ↓ops_nil, ↓ops_cons, run_none, ↓run0_v, ↓seqK_normal, ↓blkK_exit, ↓retK_ret, put_same, put_ne, ev_tmp, o_move, o_assign, g_none, resultsOf, oneOrAll, Option.map_some, ↓reduceIte, Nat.reduceEqDiff, not_false_eq_true, ne_eq, e3]
  · refine ⟨0, .nils, [], by omega, ?_, ?_, ?_, ?_, ?_, ?_, ?_, ?_⟩
    · exact RowC.nil _ _
    · (intro b o l k z x e; cases e)
    · exact Grow.refl _
    · rfl
    · omega
    · simp only [put_ne, env0_at, Option.getD_some, not_false_eq_true, reduceCtorEq, List.getElem?_cons_zero, ne_eq]
    · simp only [put_same, put_ne, Nat.reduceEqDiff, not_false_eq_true, ne_eq]
    · simp only [put_same]; rfl
theorem run33 {I : Nat → Option (List AV → AH → Rs)} (h31 : I 31 = none) (h33 : I 33 = none) (m t : Nat) (n : Int) (ps : List Pt) (es : List E6) (off : Nat → Prop) (h : AH) (hT : TbV false h t ps es off) (hn : es.length ≤ m ∧ es.length ≤ 100000000) (hpl : ps.length ≤ 20) :
    ∃ v h2, call F I T (m + 30) 33 [.ptr t 0, .int .i64 n] h = some (.tup [v, .int .i64 (tellR ps (entD es) n).2], h2) ∧ RowC 3 h2 v (tellR ps (entD es) n).1.length (fl Tp.av (tellR ps (entD es) n).1) ∧ Fresh h v ∧ Grow h h2 := by
  have hT0 := hT
  obtain ⟨pv, ev, hTb, rfl, _⟩ := hT
  have gt := hTb.g
  have hlenp : ∀ h, aLen T 50 pv h = some (.int .i64 (ps.length : Nat)) := fun h => hTb.p.len T50 d50
  have hnil : ∀ l : List Tp, l = [] → RowC 3 h .nils l.length (fl Tp.av l) ∧ Fresh h .nils ∧ Grow h h := fun l hl => by
    subst hl; exact ⟨RowC.nil _ _, (fun _ _ _ _ _ _ e => by cases e), Grow.refl h⟩
  by_cases c1 : n < 1
  · have hR : tellR ps (entD es) n = ([], 2) := by unfold tellR; rw [if_pos (.inl c1)]
    rw [hR]
    refine ⟨.nils, h, ?_, hnil _ rfl⟩
    rw [call_F (by decide) h33 F33 rfl R33]; simp only [Try.f33, Option.getD]
    simp +contextual (maxSteps := 3000000) only [↓code_seq, ↓code_region, ↓code_cond, ↓code_ret, aCond_bool, ↓ops_nil, ↓ops_cons, run_none, run_someF, ↓run0_v, ↓seqK_normal, ↓seqK_ret, ↓retK_ret, put_same, put_ne, env0_at, ev_tmp, ev_const, oc_int, oc_bool, oc_nils, o_move, o_assign, o_pick, o_bin, o_len, o_load, o_nilCheck, o_fieldAddr, g_none, g_some, pick_bool, bin_lss, resultsOf, oneOrAll, Option.bind_some, Option.map_some, Option.getD_some, decide_eq_true_eq, ↓reduceIte, Nat.reduceEqDiff, not_false_eq_true, reduceCtorEq, List.getElem?_cons_zero, List.getElem?_cons_succ, List.getElem?_toArray, ne_eq, c1]
  by_cases c2 : (ps.length : Int) < n
  · have hR : tellR ps (entD es) n = ([], 2) := by unfold tellR; rw [if_pos (.inr c2)]
    rw [hR]
    refine ⟨.nils, h, ?_, hnil _ rfl⟩
    rw [call_F (by decide) h33 F33 rfl R33]; simp only [Try.f33, Option.getD]
    simp +contextual (maxSteps := 3000000) only [↓code_seq, ↓code_region, ↓code_cond, ↓code_ret, aCond_bool, ↓ops_nil, ↓ops_cons, run_none, run_someF, ↓run0_v, ↓seqK_normal, ↓seqK_ret, ↓retK_ret, put_same, put_ne, env0_at, ev_tmp, ev_const, oc_int, oc_bool, oc_nils, o_move, o_assign, o_pick, o_bin, o_len, o_load, o_nilCheck, o_fieldAddr, g_none, g_some, pick_bool, bin_lss, bin_gtr, nil_ptr, resultsOf, oneOrAll, Option.bind_some, Option.map_some, Option.getD_some, decide_eq_true_eq, ↓reduceIte, Nat.reduceEqDiff, not_false_eq_true, Nat.reduceAdd, reduceCtorEq, List.getElem?_cons_zero, List.getElem?_cons_succ, List.getElem?_toArray, gt_iff_lt, ne_eq, fa_ptr T52 p52_0 (by decide), load_p1 T50 a50, loadc_def, c1, gt, hlenp, c2]
  obtain ⟨i, hi⟩ : ∃ i : Nat, n = ((i + 1 : Nat) : Int) := ⟨(n - 1).toNat, by omega⟩
  have hil : i < ps.length := by omega
  obtain ⟨p, hp⟩ : ∃ p, ps[i]? = some p := ⟨ps[i], List.getElem?_eq_getElem hil⟩
  have hnt : (n - 1).toNat = i := by omega
  have hR : tellR ps (entD es) n = if p.up = true then (tellL (entD es) n, 0) else ([], 0) := by
    unfold tellR; rw [if_neg (by rintro (h | h) <;> contradiction), hnt, hp]
  have c9 : IntKind.i64.wrap (n - 1) = (i : Int) := by rw [wrap_i64 (by omega) (by omega)]; omega
  obtain ⟨es2, hes2⟩ : ∃ es2, es2 = entD es := ⟨_, rfl⟩
  have hesl : es2.length = es.length := by rw [hes2, entD_len]
  obtain ⟨wv, hA, k31, hw, hwf, gA⟩ := run31 h31 (m + 9) t ps es _ h hT0 ⟨by omega, hn.2⟩
  rw [← hes2] at hw hR ⊢
  have hTA := hTb.grow gA
  obtain ⟨R, hRR⟩ : ∃ R, R = tellR ps es2 n := ⟨_, rfl⟩
  rw [← hRR] at hR ⊢
  have gA1 := gA.1
  have fresh : ∀ {v}, Fresh hA v → Fresh h v := fun hf b o l k z x e => Nat.le_trans gA1 (hf _ _ _ _ _ _ e)
  rw [call_F (by decide) h33 F33 rfl R33]; simp only [Try.f33, Option.getD]
  simp +contextual (maxSteps := 3000000) only [↓code_skip, ↓code_seq, ↓code_region, ↓code_cond, ↓code_block, ↓code_loop, aCond_bool, ↓ops_nil, ↓ops_cons, run_none, run_someF, ↓run0_v, ↓run0_r, ↓seqK_normal, put_same, put_ne, env0_at, ev_tmp, ev_const, ev_func, oc_int, oc_bool, oc_nils, o_move, o_assign, o_pick, o_bin, o_call, o_len, o_load, o_nilCheck, o_fieldAddr, g_none, g_some, pick_bool, bin_lss, bin_gtr, nil_ptr, Option.bind_some, Option.getD_some, decide_eq_true_eq, ↓reduceIte, Nat.reduceEqDiff, not_false_eq_true, Nat.reduceAdd, reduceCtorEq, List.getElem?_cons_zero, List.getElem?_cons_succ, List.getElem?_toArray, List.map_cons, List.map_nil, List.append_nil, List.nil_append, gt_iff_lt, ne_eq, fa_ptr T52 p52_0 (by decide), load_p1 T50 a50, loadc_def, c1, gt, hlenp, c2, k31, callV_fn (g := 31) (by decide)]
  refine iterL_wp (Q := fun r => ∃ v h2, r = some (.tup [v, .int .i64 R.2], h2) ∧ RowC 3 h2 v R.1.length (fl Tp.av R.1) ∧ Fresh h v ∧ Grow h h2) (N := es2.length) (Inv := fun k e h' => ∃ k1 v, k + k1 = es2.length ∧ RowC 3 h' v (tellL (es2.take k1) n).length (fl Tp.av (tellL (es2.take k1) n)) ∧ Fresh hA v ∧ Grow hA h' ∧ k1 ≤ es2.length ∧ (p.up = false → k1 = 0 ∧ v = .nils) ∧ e 0 = .ptr t 0 ∧ e 1 = .int .i64 n ∧ e 6 = v ∧ e 7 = wv ∧ e 8 = .int .i64 (k1 : Nat)) ?_ ?_ (by omega)
  · rintro k e h' K' ⟨k1, v, hk, hr, hf, hg, hkl, hu0, e0, e1, e6, e7, e8⟩ hnext hexit
    have hTk := hTA.grow hg
    have gk := hTk.g
    have hwk := hw.grow hg
    have hlw : ∀ h, aLen T 36 wv h = some (.int .i64 (es2.length : Nat)) := fun h => hw.len T36 d36
    obtain ⟨b, cs, bk, w1, w2, w3, w4, w5⟩ := loadQ hTk.p hp
    cases hu : p.up
    · rw [hu] at w5
      obtain ⟨hk0, hv0⟩ := hu0 hu
      rw [hu, if_neg (by simp)] at hR
      simp +contextual (maxSteps := 3000000) only [↓code_seq, ↓code_region, ↓code_cond, ↓code_exit, aCond_bool, ↓ops_nil, ↓ops_cons, run_none, run_someT, ↓run0_v, ↓seqK_normal, ↓seqK_exit, put_same, put_ne, ev_tmp, ev_const, oc_int, oc_bool, o_move, o_pick, o_bin, o_len, o_load, o_nilCheck, o_fieldAddr, o_indexAddr, g_none, g_some, pick_bool, bin_sub, nil_ptr, Option.bind_some, ↓reduceIte, Nat.reduceEqDiff, not_false_eq_true, Nat.reduceAdd, List.getElem?_cons_zero, List.getElem?_cons_succ, List.getElem?_toArray, Bool.false_eq_true, ne_eq, fa_ptr T52 p52_0 (by decide), load_p1 T50 a50, loadc_def, fa_ptr T120 p120_2 (by decide), load_p1 T4 a4, e0, e1, e7, e8, gk, c9, w1, w2, w5]
      refine hexit _ _ _ (by simp) ?_
      rw [hR]
      refine ⟨v, h', ?_, by rw [hv0]; exact RowC.nil _ _, fresh hf, gA.trans hg⟩
      simp +contextual (maxSteps := 3000000) only [↓code_seq, ↓code_region, ↓code_ret, ↓ops_nil, ↓ops_cons, run_none, ↓run0_v, ↓seqK_normal, ↓blkK_exit, ↓retK_ret, put_same, put_ne, ev_tmp, ev_const, oc_int, o_move, o_assign, g_none, resultsOf, oneOrAll, Option.map_some, ↓reduceIte, Nat.reduceEqDiff, not_false_eq_true, ne_eq, e6]
    rw [hu] at w5
    by_cases hk1 : k1 < es2.length
    · have d1 : (k1 : Int) < (es2.length : Int) := by omega
      obtain ⟨e, he⟩ : ∃ e, es2[k1]? = some e := ⟨es2[k1], List.getElem?_eq_getElem hk1⟩
      obtain ⟨be, ce, ke, g1, g2, g3, g4, g5, g5', g6, g7, g8, g9, g10⟩ := load6 hwk he
      have c7 : IntKind.i64.wrap ((k1 : Int) + 1) = ((k1 + 1 : Nat) : Int) := by rw [wrap_i64 (by omega) (by omega)]; rfl
      have hux : p.up = false → k1 + 1 = 0 ∧ v = .nils := fun hx => by rw [hu] at hx; cases hx
      by_cases d2 : e.po = n
      · have htk : tellL (es2.take (k1 + 1)) n = tellL (es2.take k1) n := by unfold tellL; rw [List.take_add_one, he]; simp [d2]
        simp +contextual (maxSteps := 3000000) only [↓code_skip, ↓code_seq, ↓code_region, ↓code_cond, ↓code_block, ↓code_exit, aCond_bool, ↓ops_nil, ↓ops_cons, run_none, run_someT, ↓run0_v, ↓seqK_normal, ↓seqK_exit, ↓blkK_exit, put_same, put_ne, ev_tmp, ev_const, oc_int, oc_bool, o_move, o_assign, o_pick, o_bin, o_len, o_load, o_nilCheck, o_fieldAddr, o_indexAddr, g_none, g_some, pick_bool, bin_add, bin_sub, bin_eql, bin_lss, nil_ptr, Option.bind_some, decide_eq_true_eq, ↓reduceIte, Nat.reduceEqDiff, not_false_eq_true, Nat.reduceAdd, List.getElem?_cons_zero, List.getElem?_cons_succ, List.getElem?_toArray, ne_eq, fa_ptr T52 p52_0 (by decide), load_p1 T50 a50, loadc_def, fa_ptr T120 p120_2 (by decide), load_p1 T4 a4, fa_ptr T60 p60_3 (by decide), load_p1 T3 a3, e0, e1, e7, e8, gk, c9, w1, w2, w5, d1, hlw, g1, g2, g8, eq_true d2, c7]
        refine hnext (k - 1) _ _ (by omega) ⟨k1 + 1, v, by omega, ?_, ?_, ?_, ?_, ?_, ?_, ?_, ?_, ?_, ?_⟩
        · (rw [htk]; exact hr)
        · exact hf
        · exact hg
        · omega
        · exact hux
        · simp only [put_ne, not_false_eq_true, reduceCtorEq, ne_eq, e0]
        · simp only [put_ne, Nat.reduceEqDiff, not_false_eq_true, ne_eq, e1]
        · simp only [put_ne, Nat.reduceEqDiff, not_false_eq_true, ne_eq, e6]
        · simp only [put_ne, Nat.reduceEqDiff, not_false_eq_true, ne_eq, e7]
        · simp only [put_same]
      · have htk : tellL (es2.take (k1 + 1)) n = tellL (es2.take k1) n ++ [tellT e] := by unfold tellL; rw [List.take_add_one, he]; simp [d2]
        have hll : (tellL (es2.take k1) n).length ≤ es2.length := by
          unfold tellL; rw [List.length_map]
          have := List.length_filter_le (fun e => !decide (e.po = n)) (es2.take k1)
          rw [List.length_take] at this; omega
        have huy : ∀ v', p.up = false → k1 + 1 = 0 ∧ v' = AV.nils := fun v' hx => by rw [hu] at hx; cases hx
        obtain ⟨hx, x1, x2, x3, x4⟩ := store_t h' ⟨e.lo, e.hi, e.di⟩
        obtain ⟨bx, cx, kx, m1, m2, m3, m4, m5, m5', m6, m7, m8, m9, m10⟩ := load6 (hwk.grow x4) he
        have hbx : bx = be := by rw [g1] at m1; cases m1; rfl
        subst hbx
        simp only at x1 x3
        by_cases d3 : 2 ≤ e.st
        · have ht : tellT e = ⟨e.lo, e.hi, 31⟩ := by unfold tellT; rw [if_pos d3]
          obtain ⟨hy, hhy⟩ : ∃ hy, hy = hx.put h'.next (.cells [.int .i64 e.lo, .int .i64 e.hi, .int .i64 31] .own) := ⟨_, rfl⟩
          have st31 : aStore T 3 (.ptr h'.next 2) (.int .i64 31) hx = some hy := by rw [store_1 T3 s3 rfl rfl x3 (by simp), hhy]; rfl
          have ky : hy.get h'.next = some (.cells [.int .i64 e.lo, .int .i64 e.hi, .int .i64 31] .own) := by rw [hhy, AH.get_put, if_pos rfl]
          have gy : Grow h' hy := ⟨by rw [hhy]; simp; omega, fun c hc => by rw [hhy, AH.get_put, if_neg (by omega), x4.2 c hc]⟩
          have hgy := hg.trans gy
          obtain ⟨v', h2, q1, q2, q3, q4⟩ := push_new (new := [.int .i64 e.lo, .int .i64 e.hi, .int .i64 31]) T22 d22 T62 s62 (by decide) (by rw [b62]; decide) (hr.grow gy) hf hgy rfl rfl (by rw [b62]; simp [maxBytes]; omega)
          have hcs : fl Tp.av (tellL (es2.take k1) n) ++ [.int .i64 e.lo, .int .i64 e.hi, .int .i64 31] = fl Tp.av (tellL (es2.take (k1 + 1)) n) := by rw [htk, fl_app, ht]; rfl
          have hln : (tellL (es2.take k1) n).length + 1 = (tellL (es2.take (k1 + 1)) n).length := by rw [htk]; simp
          rw [hcs, hln] at q2
          simp +contextual (maxSteps := 3000000) only [↓code_skip, ↓code_seq, ↓code_region, ↓code_cond, ↓code_block, aCond_bool, ↓ops_nil, ↓ops_cons, run_none, run_someT, ↓run0_v, ↓run0_h, ↓run0_r, ↓seqK_normal, ↓blkK_normal, put_same, put_ne, put_none, ev_tmp, ev_const, oc_int, oc_bool, o_move, o_assign, o_pick, o_bin, o_len, o_alloc, o_build, o_buildSlice, o_load, o_store, o_nilCheck, o_fieldAddr, o_indexAddr, o_append, g_none, g_some, pick_bool, bin_add, bin_sub, bin_eql, bin_lss, bin_geq, nil_ptr, Option.bind_some, Option.map_some, decide_eq_true_eq, ↓reduceIte, Nat.reduceEqDiff, not_false_eq_true, Nat.reduceAdd, Nat.reduceMul, List.getElem?_cons_zero, List.getElem?_cons_succ, List.getElem?_toArray, List.map_cons, List.map_nil, List.append_nil, List.nil_append, List.cons_append, and_true, Nat.reduceLeDiff, Nat.le_refl, ge_iff_le, ne_eq, fa_ptr T52 p52_0 (by decide), load_p1 T50 a50, loadc_def, fa_ptr T120 p120_2 (by decide), load_p1 T4 a4, fa_ptr T60 p60_3 (by decide), load_p1 T3 a3, fa_ptr T60 p60_0 (by decide), fa_ptr T60 p60_1 (by decide), fa_ptr T60 p60_2 (by decide), build_struct T62 d62, z62, parts_eq, fillA, AV.cells, AH.splice, List.take_succ_cons, List.take_zero, List.take_nil, List.drop_succ_cons, List.drop_zero, List.drop_nil, List.length_cons, List.length_nil, p62_0, p62_1, p62_2, alloc_t T62, fa_ptr T60 p60_5 (by decide), fa_ptr T62 p62_2 (by decide), run0_h, load_pA T62 a62, s62, loadn_def, buildSl T22 d22 T62 (n := 1) (by rw [s62]; decide), repl, List.length_cons, List.length_nil, List.drop_zero, List.take_succ_cons, List.take_zero, List.take_nil, Nat.zero_add, Nat.add_zero, e0, e1, e6, e7, e8, gk, c9, w1, w2, w5, d1, hlw, g1, g2, m2, g5, g6, g7, g8, m10, x1, d2, d3, st31, ky, q1, c7]
          refine hnext (k - 1) _ _ (by omega) ⟨k1 + 1, v', by omega, ?_, ?_, ?_, ?_, ?_, ?_, ?_, ?_, ?_, ?_⟩
          · exact q2
          · exact q3
          · exact q4
          · omega
          · exact huy _
          · simp only [put_ne, not_false_eq_true, reduceCtorEq, ne_eq, e0]
          · simp only [put_ne, Nat.reduceEqDiff, not_false_eq_true, ne_eq, e1]
          · simp only [put_same, put_ne, Nat.reduceEqDiff, not_false_eq_true, ne_eq]
          · simp only [put_ne, Nat.reduceEqDiff, not_false_eq_true, Nat.succ_ne_self, ne_eq, e7]
          · simp only [put_same]
        · have ht : tellT e = ⟨e.lo, e.hi, e.di⟩ := by unfold tellT; rw [if_neg d3]
          have hgx := hg.trans x4
          obtain ⟨v', h2, q1, q2, q3, q4⟩ := push_new (new := [.int .i64 e.lo, .int .i64 e.hi, .int .i64 e.di]) T22 d22 T62 s62 (by decide) (by rw [b62]; decide) (hr.grow x4) hf hgx rfl rfl (by rw [b62]; simp [maxBytes]; omega)
          have hcs : fl Tp.av (tellL (es2.take k1) n) ++ [.int .i64 e.lo, .int .i64 e.hi, .int .i64 e.di] = fl Tp.av (tellL (es2.take (k1 + 1)) n) := by rw [htk, fl_app, ht]; rfl
          have hln : (tellL (es2.take k1) n).length + 1 = (tellL (es2.take (k1 + 1)) n).length := by rw [htk]; simp
          rw [hcs, hln] at q2
          simp +contextual (maxSteps := 3000000) only [↓code_skip, ↓code_seq, ↓code_region, ↓code_cond, ↓code_block, aCond_bool, ↓ops_nil, ↓ops_cons, run_none, run_someT, ↓run0_v, ↓run0_h, ↓run0_r, ↓seqK_normal, ↓blkK_normal, put_same, put_ne, put_none, ev_tmp, ev_const, oc_int, oc_bool, o_move, o_assign, o_pick, o_bin, o_len, o_alloc, o_build, o_buildSlice, o_load, o_store, o_nilCheck, o_fieldAddr, o_indexAddr, o_append, g_none, g_some, pick_bool, bin_add, bin_sub, bin_eql, bin_lss, bin_geq, nil_ptr, Option.bind_some, Option.map_some, decide_eq_true_eq, ↓reduceIte, Nat.reduceEqDiff, not_false_eq_true, Nat.reduceAdd, Nat.reduceMul, List.getElem?_cons_zero, List.getElem?_cons_succ, List.getElem?_toArray, List.map_cons, List.map_nil, List.append_nil, List.nil_append, List.cons_append, and_true, Nat.reduceLeDiff, Nat.le_refl, ge_iff_le, ne_eq, fa_ptr T52 p52_0 (by decide), load_p1 T50 a50, loadc_def, fa_ptr T120 p120_2 (by decide), load_p1 T4 a4, fa_ptr T60 p60_3 (by decide), load_p1 T3 a3, fa_ptr T60 p60_0 (by decide), fa_ptr T60 p60_1 (by decide), fa_ptr T60 p60_2 (by decide), build_struct T62 d62, z62, parts_eq, fillA, AV.cells, AH.splice, List.take_succ_cons, List.take_zero, List.take_nil, List.drop_succ_cons, List.drop_zero, List.drop_nil, List.length_cons, List.length_nil, p62_0, p62_1, p62_2, alloc_t T62, fa_ptr T60 p60_5 (by decide), run0_h, load_pA T62 a62, s62, loadn_def, buildSl T22 d22 T62 (n := 1) (by rw [s62]; decide), repl, List.length_cons, List.length_nil, List.drop_zero, List.take_succ_cons, List.take_zero, List.take_nil, Nat.zero_add, Nat.add_zero, e0, e1, e6, e7, e8, gk, c9, w1, w2, w5, d1, hlw, g1, g2, g5, g6, g7, g8, m2, m10, x1, x3, d2, d3, q1, c7]
          refine hnext (k - 1) _ _ (by omega) ⟨k1 + 1, v', by omega, ?_, ?_, ?_, ?_, ?_, ?_, ?_, ?_, ?_, ?_⟩
          · exact q2
          · exact q3
          · exact q4
          · omega
          · exact huy _
          · simp only [put_ne, not_false_eq_true, reduceCtorEq, ne_eq, e0]
          · simp only [put_ne, Nat.reduceEqDiff, not_false_eq_true, ne_eq, e1]
          · simp only [put_same, put_ne, Nat.reduceEqDiff, not_false_eq_true, ne_eq]
          · simp only [put_ne, Nat.reduceEqDiff, not_false_eq_true, Nat.succ_ne_self, ne_eq, e7]
          · simp only [put_same]
    · have d1 : ¬ (k1 : Int) < (es2.length : Int) := by omega
      rw [hu, if_pos rfl] at hR
      rw [List.take_of_length_le (by omega)] at hr
      simp +contextual (maxSteps := 3000000) only [↓code_seq, ↓code_region, ↓code_cond, ↓code_exit, aCond_bool, ↓ops_nil, ↓ops_cons, run_none, run_someT, ↓run0_v, ↓seqK_normal, ↓seqK_exit, put_same, put_ne, ev_tmp, ev_const, oc_int, oc_bool, o_move, o_pick, o_bin, o_len, o_load, o_nilCheck, o_fieldAddr, o_indexAddr, g_none, g_some, pick_bool, bin_sub, bin_lss, nil_ptr, Option.bind_some, decide_eq_true_eq, ↓reduceIte, Nat.reduceEqDiff, not_false_eq_true, Nat.reduceAdd, List.getElem?_cons_zero, List.getElem?_cons_succ, List.getElem?_toArray, ne_eq, fa_ptr T52 p52_0 (by decide), load_p1 T50 a50, loadc_def, fa_ptr T120 p120_2 (by decide), load_p1 T4 a4, e0, e1, e7, e8, gk, c9, w1, w2, w5, d1, hlw]
      refine hexit _ _ _ (by simp) ?_
      rw [hR]
      refine ⟨v, h', ?_, hr, fresh hf, gA.trans hg⟩
      simp +contextual (maxSteps := 3000000) only [↓code_seq, ↓code_region, ↓code_ret, ↓ops_nil, ↓ops_cons, run_none, ↓run0_v, ↓seqK_normal, ↓blkK_exit, ↓retK_ret, put_same, put_ne, ev_tmp, ev_const, oc_int, o_move, o_assign, g_none, resultsOf, oneOrAll, Option.map_some, ↓reduceIte, Nat.reduceEqDiff, not_false_eq_true, ne_eq, e6]
  · refine ⟨0, .nils, by omega, ?_, ?_, ?_, ?_, ?_, ?_, ?_, ?_, ?_, ?_⟩
    · exact RowC.nil _ _
    · (intro b o l k z x e; cases e)
    · exact Grow.refl _
    · omega
    · (intro _; exact ⟨rfl, rfl⟩)
    · simp only [put_ne, env0_at, Option.getD_some, not_false_eq_true, reduceCtorEq, List.getElem?_cons_zero, ne_eq]
    · simp only [put_ne, env0_at, Option.getD_some, Nat.reduceEqDiff, not_false_eq_true, List.getElem?_cons_zero, List.getElem?_cons_succ, ne_eq]
    · simp only [put_same, put_ne, Nat.reduceEqDiff, not_false_eq_true, ne_eq]
    · simp only [put_same, put_ne, Nat.reduceEqDiff, not_false_eq_true, ne_eq]
    · simp only [put_same]; rfl
end Go.AM.X
namespace Go.AM.X
open Go Go.AM Go.Proofs Go.AM.Sx
set_option maxHeartbeats 1600000
set_option linter.unusedVariables false
theorem mt_iff {lo hi a b : Int} : mt lo hi a b = true ↔ lo ≤ b ∧ a ≤ hi := by unfold mt; simp
theorem mt_no {lo hi a b : Int} : mt lo hi a b = false ↔ ¬ (lo ≤ b ∧ a ≤ hi) := by unfold mt; simp only [Bool.and_eq_false_iff, decide_eq_false_iff_not]; omega
theorem mt_comm (lo hi a b : Int) : mt lo hi a b = mt a b lo hi := by unfold mt; rw [Bool.and_comm]
theorem isR_iff {lo hi : Int} : isR lo hi = true ↔ 1 ≤ lo ∧ lo ≤ hi ∧ hi ≤ 65279 := by unfold isR; simp [and_assoc]
def upAt (ps : List Pt) (n : Int) : Prop := 1 ≤ n ∧ ∃ p, ps[(n - 1).toNat]? = some p ∧ p.up = true
/-- What is true of an entry. -/
structure EOk (ps : List Pt) (e : E6) : Prop where
  r : 1 ≤ e.lo ∧ e.lo ≤ e.hi ∧ e.hi ≤ 65279
  d : 0 ≤ e.di ∧ e.di ≤ 15
  n : 0 ≤ e.nx
  nd : e.nx = 0 ↔ e.di = 0
  s : 0 ≤ e.st ∧ e.st < 4
  p : upAt ps e.po
def Dis (es : List E6) : Prop := es.Pairwise fun a b => mt a.lo a.hi b.lo b.hi = false
/-- What is true of a table. -/
structure TOk (ps : List Pt) (es : List E6) : Prop where
  p : ∀ p ∈ ps, isR p.lo p.hi = true
  l : ps.length ≤ 16
  e : ∀ e ∈ es, EOk ps e
  d : Dis es
def Srt (es : List E6) : Prop := es.Pairwise fun a b => a.hi < b.lo
theorem Dis.perm {a b : List E6} (h : a.Perm b) : Dis a ↔ Dis b := h.pairwise_iff fun {x y} hxy => by rw [mt_comm]; exact hxy
theorem TOk.perm {ps : List Pt} {es rs : List E6} (h : TOk ps es) (hp : es.Perm rs) : TOk ps rs := ⟨h.p, h.l, fun e he => h.e e (hp.mem_iff.2 he), (Dis.perm hp).1 h.d⟩
theorem Dis.eq {es : List E6} (hd : Dis es) {a b : E6} (ha : a ∈ es) (hb : b ∈ es) (h : mt a.lo a.hi b.lo b.hi = true) : a = b := by
  obtain ⟨i, hi, rfl⟩ := List.getElem_of_mem ha
  obtain ⟨j, hj, rfl⟩ := List.getElem_of_mem hb
  have hp := List.pairwise_iff_getElem.1 hd
  rcases Nat.lt_trichotomy i j with g | g | g
  · rw [hp i j hi hj g] at h; cases h
  · subst g; rfl
  · have := hp j i hj hi g
    rw [mt_comm, h] at this; cases this
theorem srt_of {es : List E6} (hs : es.Pairwise fun a b => a.lo ≤ b.lo) (hd : Dis es) (hr : ∀ e ∈ es, e.lo ≤ e.hi) : Srt es := by
  unfold Srt
  unfold Dis at hd
  induction es with
  | nil => exact List.Pairwise.nil
  | cons a l ih =>
    rw [List.pairwise_cons] at hs hd ⊢
    refine ⟨fun b hb => ?_, ih hs.2 hd.2 fun e he => hr e (List.mem_cons_of_mem _ he)⟩
    have h1 := hs.1 b hb
    have h2 := mt_no.1 (hd.1 b hb)
    have h3 := hr b (List.mem_cons_of_mem _ hb)
    omega
theorem perm_eq {a b : List E6} (hp : a.Perm b) (ha : Srt a) (hb : Srt b) (hr : ∀ e ∈ a, e.lo ≤ e.hi) : a = b := by
  induction a generalizing b with
  | nil => exact (List.nil_perm.1 hp).symm
  | cons x l ih =>
    cases b with
    | nil => exact absurd (List.perm_nil.1 hp) (by simp)
    | cons y k =>
      have hxy : x = y := by
        rcases List.mem_cons.1 (hp.mem_iff.1 (List.mem_cons_self ..)) with h | h
        · exact h
        rcases List.mem_cons.1 (hp.mem_iff.2 (List.mem_cons_self (a := y) (l := k))) with h' | h'
        · exact h'.symm
        have h1 := (List.pairwise_cons.1 hb).1 x h
        have h2 := (List.pairwise_cons.1 ha).1 y h'
        have h3 := hr x (List.mem_cons_self ..)
        have h4 := hr y (List.mem_cons_of_mem _ h')
        omega
      subst hxy
      rw [ih (List.perm_cons x |>.1 hp) (List.pairwise_cons.1 ha).2 (List.pairwise_cons.1 hb).2 fun e he => hr e (List.mem_cons_of_mem _ he)]
theorem srt_sorted {ps : List Pt} {es : List E6} (h : TOk ps es) : Srt (sorted6 es) :=
  srt_of (sorted6_spec es).2 ((Dis.perm (sorted6_spec es).1).2 h.d) fun e he => (h.e e ((sorted6_spec es).1.mem_iff.1 he)).r.2.1
/-- What the document's order is. -/
theorem backTo_spec (x : Int) (l : List E6) : ∀ k, k ≤ l.length → backTo x l k ≤ k ∧ (∀ i e, backTo x l k ≤ i → i < k → l[i]? = some e → x < e.lo) ∧ (∀ i e, i + 1 = backTo x l k → l[i]? = some e → e.lo ≤ x)
  | 0, _ => ⟨Nat.le_refl _, fun i e _ h => by omega, fun i e h => by simp [backTo] at h⟩
  | k + 1, hk => by
    have he : l[k]? = some l[k] := List.getElem?_eq_getElem (by omega)
    have hb : backTo x l (k + 1) = if x < (l[k]'(by omega)).lo then backTo x l k else k + 1 := by simp only [backTo, he]
    obtain ⟨h1, h2, h3⟩ := backTo_spec x l k (by omega)
    by_cases hx : x < (l[k]'(by omega)).lo
    · rw [if_pos hx] at hb
      rw [hb]
      refine ⟨by omega, fun i e g1 g2 g3 => ?_, h3⟩
      by_cases hik : i = k
      · subst hik; rw [he] at g3; cases g3; exact hx
      · exact h2 i e g1 (by omega) g3
    · rw [if_neg hx] at hb
      rw [hb]
      refine ⟨Nat.le_refl _, fun i e g1 g2 => by omega, fun i e g1 g2 => ?_⟩
      have : i = k := by omega
      subst this
      rw [he] at g2; cases g2; omega
theorem insE_perm (l : List E6) (e : E6) : (insE l e).Perm (e :: l) := by
  unfold insE
  have h1 : (l.take (backTo e.lo l l.length) ++ e :: l.drop (backTo e.lo l l.length)).Perm (e :: (l.take (backTo e.lo l l.length) ++ l.drop (backTo e.lo l l.length))) := List.perm_middle
  rwa [List.take_append_drop] at h1
theorem insE_sorted {l : List E6} (hs : l.Pairwise fun a b => a.lo ≤ b.lo) (e : E6) : (insE l e).Pairwise fun a b => a.lo ≤ b.lo := by
  obtain ⟨h1, h2, h3⟩ := backTo_spec e.lo l l.length (Nat.le_refl _)
  unfold insE
  obtain ⟨j, hj⟩ : ∃ j, j = backTo e.lo l l.length := ⟨_, rfl⟩
  rw [← hj] at h1 h2 h3 ⊢
  have hp := List.pairwise_iff_getElem.1 hs
  have hpre : ∀ a ∈ l.take j, a.lo ≤ e.lo := fun a ha => by
    obtain ⟨i, hi, rfl⟩ := List.getElem_of_mem ha
    rw [List.length_take] at hi
    rw [List.getElem_take]
    have hlast := h3 (j - 1) l[j - 1] (by omega) (List.getElem?_eq_getElem (by omega))
    by_cases hij : i = j - 1
    · subst hij; exact hlast
    · have := hp i (j - 1) (by omega) (by omega) (by omega)
      omega
  have hsuf : ∀ a ∈ l.drop j, e.lo ≤ a.lo := fun a ha => by
    obtain ⟨i, hi, rfl⟩ := List.getElem_of_mem ha
    rw [List.length_drop] at hi
    rw [List.getElem_drop]
    have := h2 (j + i) l[j + i] (by omega) (by omega) (List.getElem?_eq_getElem (by omega))
    omega
  rw [List.pairwise_append, List.pairwise_cons]
  refine ⟨hs.sublist (List.take_sublist _ _), ⟨hsuf, hs.sublist (List.drop_sublist _ _)⟩, fun a ha b hb => ?_⟩
  rcases List.mem_cons.1 hb with rfl | hb
  · exact hpre a ha
  · have g1 := hpre a ha
    have g2 := hsuf b hb
    omega
theorem foldl_insE (es : List E6) : ∀ l : List E6, (l.Pairwise fun a b => a.lo ≤ b.lo) → (es.foldl insE l).Perm (l ++ es) ∧ (es.foldl insE l).Pairwise fun a b => a.lo ≤ b.lo := by
  induction es with
  | nil => intro l hl; exact ⟨by simp, hl⟩
  | cons e es ih =>
    intro l hl
    obtain ⟨h1, h2⟩ := ih (insE l e) (insE_sorted hl e)
    refine ⟨h1.trans ?_, h2⟩
    have h3 : (insE l e ++ es).Perm ((e :: l) ++ es) := (insE_perm l e).append_right es
    exact h3.trans List.perm_middle.symm
theorem entD_spec (es : List E6) : (entD es).Perm es ∧ (entD es).Pairwise fun a b => a.lo ≤ b.lo := by
  obtain ⟨h1, h2⟩ := foldl_insE es [] List.Pairwise.nil
  exact ⟨by unfold entD; simpa using h1, h2⟩
/-- The tables are alike. -/
structure Alike (ps : List Pt) (es rs : List E6) : Prop where
  t : TOk ps es
  s : Srt es
  p : es.Perm rs
theorem Alike.ent {ps : List Pt} {es rs : List E6} (h : Alike ps es rs) : entD rs = es := by
  obtain ⟨h1, h2⟩ := entD_spec rs
  have hp := h1.trans h.p.symm
  have ht := h.t.perm hp.symm
  exact perm_eq hp (srt_of h2 ht.d fun e he => (ht.e e he).r.2.1) h.s fun e he => (ht.e e he).r.2.1
theorem Alike.find {ps : List Pt} {es rs : List E6} (h : Alike ps es rs) (n : Int) : wayV rs n = wayV es n := by
  have hu : ∀ a ∈ es, ∀ b ∈ es, hasN n a = true → hasN n b = true → a = b := fun a ha b hb h1 h2 => by
    unfold hasN at h1 h2
    simp only [Bool.and_eq_true, decide_eq_true_eq] at h1 h2
    exact h.t.d.eq ha hb (mt_iff.2 (by omega))
  have : rs.find? (hasN n) = es.find? (hasN n) := by
    cases h1 : es.find? (hasN n) with
    | none =>
      rw [List.find?_eq_none] at h1 ⊢
      exact fun x hx => h1 x (h.p.mem_iff.2 hx)
    | some e =>
      have he := List.find?_some h1
      have hm := List.mem_of_find?_eq_some h1
      cases h2 : rs.find? (hasN n) with
      | none =>
        rw [List.find?_eq_none] at h2
        exact absurd he (h2 e (h.p.mem_iff.1 hm))
      | some e' =>
        rw [hu e hm e' (h.p.mem_iff.2 (List.mem_of_find?_eq_some h2)) he (List.find?_some h2)]
  unfold wayV; rw [this]
theorem srt_filter {es : List E6} (h : Srt es) (p : E6 → Bool) : Srt (es.filter p) := List.Pairwise.filter p h
theorem TOk.filter {ps : List Pt} {es : List E6} (h : TOk ps es) (p : E6 → Bool) : TOk ps (es.filter p) := ⟨h.p, h.l, fun e he => h.e e (List.mem_filter.1 he).1, List.Pairwise.filter p h.d⟩
/-- One comes that meets none. -/
theorem TOk.add {ps : List Pt} {es : List E6} (h : TOk ps es) {x : E6} (hx : EOk ps x) (hm : ∀ e ∈ es, mt e.lo e.hi x.lo x.hi = false) : TOk ps (es ++ [x]) := by
  refine ⟨h.p, h.l, fun e he => ?_, ?_⟩
  · rcases List.mem_append.1 he with g | g
    · exact h.e e g
    · rw [List.mem_singleton.1 g]; exact hx
  · exact List.pairwise_append.2 ⟨h.d, List.pairwise_singleton _ _, fun a ha b hb => by rw [List.mem_singleton.1 hb]; exact hm a ha⟩
theorem Alike.sorted {ps : List Pt} {es rs : List E6} (h : TOk ps es) (hp : es.Perm rs) : Alike ps (sorted6 es) rs :=
  ⟨h.perm (sorted6_spec es).1.symm, srt_sorted h, (sorted6_spec es).1.trans hp⟩
theorem EOk.ports {ps ps2 : List Pt} {e : E6} (h : EOk ps e) (hu : upAt ps e.po → upAt ps2 e.po) : EOk ps2 e := ⟨h.r, h.d, h.n, h.nd, h.s, hu h.p⟩
/-- A port goes up. -/
theorem Alike.raise {ps ps2 : List Pt} {es rs : List E6} {i : Nat} {p : Pt} (h : Alike ps es rs) (hr : isR p.lo p.hi = true) (hp2 : ∀ p ∈ ps2, isR p.lo p.hi = true) (hl2 : ps2.length ≤ 16) (hu : ∀ n, upAt ps n → upAt ps2 n) (hi : upAt ps2 ((i + 1 : Nat) : Int)) :
    Alike ps2 (sorted6 (raiseE es i p)) (raiseE rs i p) := by
  have h1 : TOk ps2 (es.filter fun e => !mt e.lo e.hi p.lo p.hi) := ⟨hp2, hl2, fun e he => (h.t.e e (List.mem_filter.1 he).1).ports (hu _), List.Pairwise.filter _ h.t.d⟩
  have hr' := isR_iff.1 hr
  refine Alike.sorted (h1.add ⟨hr', ⟨Int.le_refl 0, (by decide : (0 : Int) ≤ 15)⟩, Int.le_refl 0, ⟨fun _ => rfl, fun _ => rfl⟩, ⟨Int.le_refl 0, (by decide : (0 : Int) < 4)⟩, hi⟩ fun e he => ?_) ((h.p.filter _).append_right _)
  have := (List.mem_filter.1 he).2
  simpa using this
theorem Alike.fewer {ps ps2 : List Pt} {es rs : List E6} (h : Alike ps es rs) (q : E6 → Bool) (hp2 : ∀ p ∈ ps2, isR p.lo p.hi = true) (hl2 : ps2.length ≤ 16) (hu : ∀ e ∈ es, q e = true → upAt ps2 e.po) : Alike ps2 (es.filter q) (rs.filter q) :=
  ⟨⟨hp2, hl2, fun e he => by have h1 := List.mem_filter.1 he; exact (h.t.e e h1.1).ports fun _ => hu e h1.1 h1.2, List.Pairwise.filter _ h.t.d⟩, srt_filter h.s q, h.p.filter q⟩
theorem upAt_app {ps : List Pt} {n : Int} (x : Pt) (h : upAt ps n) : upAt (ps ++ [x]) n := by
  obtain ⟨h1, p, h2, h3⟩ := h
  exact ⟨h1, p, by rw [List.getElem?_append_left (List.getElem?_eq_some_iff.1 h2).1]; exact h2, h3⟩
theorem Alike.addPort {ps : List Pt} {es rs : List E6} (h : Alike ps es rs) (lo hi : Int) :
    (addPortR ps es lo hi).1 = (addPortD ps rs lo hi).1 ∧ (addPortR ps es lo hi).2.1 = (addPortD ps rs lo hi).2.1 ∧ (addPortR ps es lo hi).2.2.1 = (addPortD ps rs lo hi).2.2.1 ∧ Alike (addPortR ps es lo hi).2.2.1 (addPortR ps es lo hi).2.2.2 (addPortD ps rs lo hi).2.2.2 := by
  have hc : (fun p : Pt => mt lo hi p.lo p.hi) = fun p => mt p.lo p.hi lo hi := funext fun p => mt_comm _ _ _ _
  unfold addPortR addPortD
  rw [hc]
  by_cases h1 : isR lo hi = false ∨ ps.any (fun p => mt p.lo p.hi lo hi) = true
  · rw [if_pos h1, if_pos h1]; exact ⟨rfl, rfl, rfl, h⟩
  rw [if_neg h1, if_neg h1]
  by_cases h2 : 16 ≤ ps.length
  · rw [if_pos h2, if_pos h2]; exact ⟨rfl, rfl, rfl, h⟩
  rw [if_neg h2, if_neg h2]
  have hr : isR lo hi = true := by
    cases hx : isR lo hi
    · exact absurd (.inl hx) h1
    · rfl
  refine ⟨rfl, rfl, rfl, h.raise (p := ⟨lo, hi, false⟩) hr (fun p hp => ?_) (by rw [List.length_append]; simp; omega) (fun n => upAt_app _) ⟨by omega, ⟨lo, hi, true⟩, ?_, rfl⟩⟩
  · rcases List.mem_append.1 hp with g | g
    · exact h.t.p p g
    · rw [List.mem_singleton.1 g]; exact hr
  · rw [show (((ps.length + 1 : Nat) : Int) - 1).toNat = ps.length by omega]; simp
theorem Alike.port {ps : List Pt} {es rs : List E6} (h : Alike ps es rs) (n : Int) (up : Bool) :
    (portR ps es n up).1 = (portD ps rs n up).1 ∧ (portR ps es n up).2.1 = (portD ps rs n up).2.1 ∧ Alike (portR ps es n up).2.1 (portR ps es n up).2.2 (portD ps rs n up).2.2 := by
  unfold portR portD
  by_cases h1 : n < 1 ∨ (ps.length : Int) < n
  · rw [if_pos h1, if_pos h1]; exact ⟨rfl, rfl, h⟩
  rw [if_neg h1, if_neg h1]
  obtain ⟨i, hi⟩ : ∃ i : Nat, n = ((i + 1 : Nat) : Int) := ⟨(n - 1).toNat, by omega⟩
  have hil : i < ps.length := by omega
  obtain ⟨p, hp⟩ : ∃ p, ps[i]? = some p := ⟨ps[i], List.getElem?_eq_getElem hil⟩
  have hnt : (n - 1).toNat = i := by omega
  have hpm := List.mem_of_getElem? hp
  rw [hnt, hp]
  simp only
  have hps : ∀ u : Bool, ∀ q ∈ ps.set i { p with up := u }, isR q.lo q.hi = true := fun u q hq => by
    rcases List.mem_or_eq_of_mem_set hq with g | g
    · exact h.t.p q g
    · rw [g]; exact h.t.p p hpm
  have hlu : ∀ u : Bool, (ps.set i { p with up := u }).length ≤ 16 := fun u => by rw [List.length_set]; exact h.t.l
  have hself : ∀ u : Bool, p.up = u → ps.set i { p with up := u } = ps := fun u hu => by
    have : ({ p with up := u } : Pt) = p := by rw [← hu]
    rw [this, ← (List.getElem?_eq_some_iff.1 hp).2, List.set_getElem_self]
  cases up with
  | true =>
    rw [if_pos rfl]
    cases hu : p.up
    · rw [if_neg (by simp), if_neg (by simp)]
      refine ⟨rfl, rfl, ?_⟩
      simp only [if_true, raiseP]
      refine h.raise (h.t.p p hpm) (hps true) (hlu true) (fun m hm => ?_) ⟨by omega, { p with up := true }, ?_, rfl⟩
      · obtain ⟨m1, q, m2, m3⟩ := hm
        by_cases hx : (m - 1).toNat = i
        · exact ⟨m1, { p with up := true }, by rw [hx, List.getElem?_set_self hil], rfl⟩
        · exact ⟨m1, q, by rw [List.getElem?_set_ne (by omega)]; exact m2, m3⟩
      · rw [show (((i + 1 : Nat) : Int) - 1).toNat = i by omega, List.getElem?_set_self hil]
    · rw [if_pos rfl, if_pos rfl]; exact ⟨rfl, rfl, h⟩
  | false =>
    rw [if_neg (by simp)]
    cases hu : p.up
    · rw [if_pos rfl, hself false hu]
      have hall : es.filter (fun e => !decide (e.po = n)) = es := List.filter_eq_self.2 fun e he => by
        obtain ⟨m1, q, m2, m3⟩ := (h.t.e e he).p
        have : ¬ e.po = n := fun hx => by
          rw [hx, hnt, hp] at m2
          cases m2; rw [hu] at m3; cases m3
        simp [this]
      rw [hall]
      exact ⟨rfl, rfl, h⟩
    · rw [if_neg (by simp)]
      refine ⟨rfl, rfl, ?_⟩
      simp only [Bool.false_eq_true, if_false]
      refine h.fewer _ (hps false) (hlu false) fun e he hq => ?_
      obtain ⟨m1, q, m2, m3⟩ := (h.t.e e he).p
      have hne : ¬ e.po = n := by simpa using hq
      exact ⟨m1, q, by rw [List.getElem?_set_ne (by omega)]; exact m2, m3⟩
def rg (e : E6) : Int × Int := (e.lo, e.hi)
theorem dis_rg {a b : List E6} (h : a.map rg = b.map rg) (hd : Dis b) : Dis a := by
  have h1 : (b.map rg).Pairwise fun x y => mt x.1 x.2 y.1 y.2 = false := List.pairwise_map.2 hd
  rw [← h] at h1
  exact List.pairwise_map.1 h1
theorem srt_rg {a b : List E6} (h : a.map rg = b.map rg) (hd : Srt b) : Srt a := by
  have h1 : (b.map rg).Pairwise fun x y => x.2 < y.1 := List.pairwise_map.2 hd
  rw [← h] at h1
  exact List.pairwise_map.1 h1
theorem older_rg (e : E6) : rg (older e) = rg e := by unfold older; split <;> rfl
theorem Alike.tick {ps : List Pt} {es rs : List E6} (h : Alike ps es rs) : Alike ps (tickE es) (tickD rs) := by
  have hm : (es.map older).map rg = es.map rg := by rw [List.map_map]; exact List.map_congr_left fun e _ => older_rg e
  have hod : rs.map olderD = rs.map older := List.map_congr_left fun e he => by
    have h1 := (h.t.e e (h.p.mem_iff.2 he)).n
    unfold olderD older
    by_cases h2 : e.nx = 0
    · rw [if_neg (by omega), if_pos h2]
    · rw [if_pos (by omega), if_neg h2]
  have hf : (fun e : E6 => !decide (4 ≤ e.st)) = fun e => decide (e.st < 4) := funext fun e => by
    by_cases h1 : e.st < 4
    · rw [decide_eq_true h1, decide_eq_false (by omega)]; rfl
    · rw [decide_eq_false h1, decide_eq_true (by omega)]; rfl
  refine ⟨⟨h.t.p, h.t.l, fun e he => ?_, List.Pairwise.filter _ (dis_rg hm h.t.d)⟩, List.Pairwise.filter _ (srt_rg hm h.s), ?_⟩
  · obtain ⟨h1, h2⟩ := List.mem_filter.1 he
    obtain ⟨a, ha, rfl⟩ := List.mem_map.1 h1
    have hk := h.t.e a ha
    have h3 : ¬ 4 ≤ (older a).st := by simpa using h2
    unfold older at h3 ⊢
    by_cases hn : a.nx = 0
    · rw [if_pos hn] at h3 ⊢; exact hk
    · rw [if_neg hn] at h3 ⊢
      simp only at h3
      exact ⟨hk.r, hk.d, hk.n, hk.nd, ⟨by have := hk.s; show 0 ≤ a.st + 1; omega, by show a.st + 1 < 4; omega⟩, hk.p⟩
  · unfold tickE tickD
    rw [hod, hf]
    exact (h.p.map older).filter _
theorem findR_no (lo hi : Int) : ∀ (es : List E6) (k : Nat), findR lo hi k es = (-1, false) → ∃ e ∈ es, ¬ (e.lo = lo ∧ e.hi = hi) ∧ mt e.lo e.hi lo hi = true
  | [], k, h => by simp [findR] at h
  | e :: es, k, h => by
    simp only [findR] at h
    by_cases h1 : e.lo = lo ∧ e.hi = hi
    · rw [if_pos h1] at h; simp at h
    · rw [if_neg h1] at h
      by_cases h2 : mt e.lo e.hi lo hi = true
      · exact ⟨e, List.mem_cons_self .., h1, h2⟩
      · rw [if_neg h2] at h
        obtain ⟨x, hx, h3⟩ := findR_no lo hi es (k + 1) h
        exact ⟨x, List.mem_cons_of_mem _ hx, h3⟩
theorem set_perm {l r : List E6} {i j : Nat} {a : E6} (y : E6) (hi : l[i]? = some a) (hj : r[j]? = some a) (hp : l.Perm r) : (l.set i y).Perm (r.set j y) := by
  obtain ⟨hi1, hi2⟩ := List.getElem?_eq_some_iff.1 hi
  obtain ⟨hj1, hj2⟩ := List.getElem?_eq_some_iff.1 hj
  have cut : ∀ (q : List E6) (k : Nat) (z : E6) (hk : k < q.length), q[k] = z → q = q.take k ++ z :: q.drop (k + 1) := fun q k z hk hz => by rw [← hz, List.getElem_cons_drop, List.take_append_drop]
  have put : ∀ (q : List E6) (k : Nat) (hk : k < q.length), (q.set k y).Perm (y :: (q.take k ++ q.drop (k + 1))) := fun q k hk => by
    rw [List.set_eq_take_append_cons_drop, if_pos hk]; exact List.perm_middle
  have h1 : l.Perm (a :: (l.take i ++ l.drop (i + 1))) := by
    conv => lhs; rw [cut l i a hi1 hi2]
    exact List.perm_middle
  have h2 : r.Perm (a :: (r.take j ++ r.drop (j + 1))) := by
    conv => lhs; rw [cut r j a hj1 hj2]
    exact List.perm_middle
  have h3 := (List.perm_cons a).1 ((h1.symm.trans hp).trans h2)
  exact ((put l i hi1).trans ((List.perm_cons y).2 h3)).trans (put r j hj1).symm
theorem TOk.set {ps : List Pt} {es : List E6} {i : Nat} {e : E6} (h : TOk ps es) (he : es[i]? = some e) {y : E6} (hy : rg y = rg e) (hk : EOk ps y) : TOk ps (es.set i y) ∧ (Srt es → Srt (es.set i y)) := by
  obtain ⟨hi1, hi2⟩ := List.getElem?_eq_some_iff.1 he
  have hm : (es.set i y).map rg = es.map rg := by
    rw [List.map_set, hy, ← hi2]
    have : rg es[i] = (es.map rg)[i]'(by rw [List.length_map]; exact hi1) := by rw [List.getElem_map]
    rw [this, List.set_getElem_self]
  refine ⟨⟨h.p, h.l, fun x hx => ?_, dis_rg hm h.d⟩, fun hs => srt_rg hm hs⟩
  rcases List.mem_or_eq_of_mem_set hx with g | g
  · exact h.e x g
  · rw [g]; exact hk
theorem Alike.hear {ps : List Pt} {es rs : List E6} (h : Alike ps es rs) {n f : Int} (hn : upAt ps n) (hf : 1 ≤ f) (x : Tp) : Alike ps (hearE n f es x) (hearD n f rs x) := by
  by_cases hb : badX x = true
  · unfold hearE hearD; rw [if_pos hb, if_pos hb]; exact h
  have hx : isR x.lo x.hi = true ∧ 0 ≤ x.di ∧ (x.di ≤ 15 ∨ x.di = 31) := by
    unfold badX at hb
    cases h0 : isR x.lo x.hi
    · rw [h0] at hb; simp at hb
    · rw [h0] at hb
      simp at hb
      refine ⟨rfl, hb.1, ?_⟩
      by_cases h1 : x.di ≤ 15
      · exact .inl h1
      · exact .inr (hb.2 (by omega))
  have hxr := isR_iff.1 hx.1
  have hnew : ∀ e, e = newX n f x → ¬ 15 ≤ x.di → EOk ps e := fun e he h15 => by
    subst he
    exact ⟨hxr, ⟨by show 0 ≤ x.di + 1; omega, by show x.di + 1 ≤ 15; omega⟩, by show 0 ≤ f; omega, by show f = 0 ↔ x.di + 1 = 0; omega, ⟨Int.le_refl 0, (by decide : (0 : Int) < 4)⟩, hn⟩
  have heq : ∀ e, eqX x e = true ↔ e.lo = x.lo ∧ e.hi = x.hi := fun e => by unfold eqX; simp
  cases hE : es.findIdx? (eqX x) with
  | none =>
    have hno : ∀ e ∈ es, ¬ (e.lo = x.lo ∧ e.hi = x.hi) := fun e he hq => by
      have := List.findIdx?_eq_none_iff.1 hE e he
      rw [(heq e).2 hq] at this; cases this
    by_cases ha : es.any (mtX x) = true
    · have h1 : hearE n f es x = es := by unfold hearE; rw [if_neg hb, hE]; simp only; rw [if_pos ha]
      obtain ⟨e, he, hm⟩ := List.any_eq_true.1 ha
      rw [h1]
      rcases findR_spec x.lo x.hi rs 0 with g | ⟨i, e', g1, g2, g3, g4⟩ | ⟨g1, g2⟩
      · have h2 : hearD n f rs x = rs := by unfold hearD; rw [if_neg hb, g]; rfl
        rw [h2]; exact h
      · exact absurd ⟨g2, g3⟩ (hno e' (h.p.mem_iff.2 (List.mem_of_getElem? g1)))
      · have := (g2 e (h.p.mem_iff.1 he)).2
        unfold mtX at hm
        rw [mt_comm, this] at hm; cases hm
    · have hnm : ∀ e ∈ es, mt e.lo e.hi x.lo x.hi = false := fun e he => by
        cases hq : mt e.lo e.hi x.lo x.hi
        · rfl
        · exact absurd (List.any_eq_true.2 ⟨e, he, by unfold mtX; rw [mt_comm]; exact hq⟩) ha
      rcases findR_spec x.lo x.hi rs 0 with g | ⟨i, e', g1, g2, g3, g4⟩ | ⟨g1, g2⟩
      · obtain ⟨e, he, _, hm⟩ := findR_no _ _ _ _ g
        rw [hnm e (h.p.mem_iff.2 he)] at hm; cases hm
      · exact absurd ⟨g2, g3⟩ (hno e' (h.p.mem_iff.2 (List.mem_of_getElem? g1)))
      · by_cases h15 : 15 ≤ x.di
        · have h1 : hearE n f es x = es := by unfold hearE; rw [if_neg hb, hE]; simp only; rw [if_neg ha, if_pos h15]
          have h2 : hearD n f rs x = rs := by unfold hearD; rw [if_neg hb, g1]; simp only; rw [if_neg (by simp), if_pos (by decide), if_pos h15]
          rw [h1, h2]; exact h
        · have h1 : hearE n f es x = sorted6 (es ++ [newX n f x]) := by unfold hearE; rw [if_neg hb, hE]; simp only; rw [if_neg ha, if_neg h15]
          have h2 : hearD n f rs x = rs ++ [newX n f x] := by unfold hearD; rw [if_neg hb, g1]; simp only; rw [if_neg (by simp), if_pos (by decide), if_neg h15]
          rw [h1, h2]
          exact Alike.sorted (h.t.add (hnew _ rfl h15) hnm) (h.p.append_right _)
  | some i =>
    obtain ⟨hi1, hi2, _⟩ := List.findIdx?_eq_some_iff_getElem.1 hE
    obtain ⟨e, he⟩ : ∃ e, es[i]? = some e := ⟨es[i], List.getElem?_eq_getElem hi1⟩
    rw [(List.getElem?_eq_some_iff.1 he).2] at hi2
    have hq := (heq e).1 hi2
    have hem := List.mem_of_getElem? he
    have hek := h.t.e e hem
    have huniq : ∀ e' ∈ rs, mt e'.lo e'.hi x.lo x.hi = true → e' = e := fun e' he' hm => by
      rw [← hq.1, ← hq.2] at hm
      exact h.t.d.eq (h.p.mem_iff.2 he') hem hm
    obtain ⟨j, hj, hfj⟩ : ∃ j : Nat, rs[j]? = some e ∧ findR x.lo x.hi 0 rs = ((j : Int), true) := by
      rcases findR_spec x.lo x.hi rs 0 with g | ⟨j, e', g1, g2, g3, g4⟩ | ⟨g1, g2⟩
      · obtain ⟨e', he', hne, hm⟩ := findR_no _ _ _ _ g
        rw [huniq e' he' hm] at hne
        exact absurd hq hne
      · have := huniq e' (List.mem_of_getElem? g1) (mt_iff.2 (by rw [g2, g3]; omega))
        rw [this] at g1
        exact ⟨j, g1, by rw [g4]; simp⟩
      · exact absurd hq (g2 e (h.p.mem_iff.1 hem)).1
    have h2 : hearD n f rs x = if 15 ≤ x.di then (if e.po = n ∧ e.nx = f then rs.set j { e with st := max e.st 2 } else rs) else if 0 < e.di ∧ givesX n f x e = true then rs.set j (newX n f x) else rs := by
      unfold hearD; rw [if_neg hb, hfj]; simp only; rw [if_neg (by simp), if_neg (by omega), Int.toNat_natCast, hj]
    have h1 : hearE n f es x = if 15 ≤ x.di then (if e.po = n ∧ e.nx = f then es.set i { e with st := max e.st 2 } else es) else if e.nx = 0 then es else if givesX n f x e = true then es.set i (newX n f x) else es := by
      unfold hearE; rw [if_neg hb, hE]; simp only; rw [he]
    rw [h1, h2]
    by_cases h15 : 15 ≤ x.di
    · rw [if_pos h15, if_pos h15]
      by_cases hp : e.po = n ∧ e.nx = f
      · rw [if_pos hp, if_pos hp]
        obtain ⟨t1, t2⟩ := h.t.set he (y := { e with st := max e.st 2 }) rfl ⟨hek.r, hek.d, hek.n, hek.nd, by have := hek.s; show 0 ≤ max e.st 2 ∧ max e.st 2 < 4; omega, hek.p⟩
        exact ⟨t1, t2 h.s, set_perm _ he hj h.p⟩
      · rw [if_neg hp, if_neg hp]; exact h
    · rw [if_neg h15, if_neg h15]
      by_cases hz : e.nx = 0
      · have hd := hek.nd.1 hz
        rw [if_pos hz, if_neg (by omega)]; exact h
      · have hd : 0 < e.di := by have h3 := hek.d.1; have h4 : ¬ e.di = 0 := fun g => hz (hek.nd.2 g); omega
        rw [if_neg hz]
        by_cases hg : givesX n f x e = true
        · rw [if_pos hg, if_pos ⟨hd, hg⟩]
          obtain ⟨t1, t2⟩ := h.t.set he (y := newX n f x) (by unfold rg newX; rw [hq.1, hq.2]) (hnew _ rfl h15)
          exact ⟨t1, t2 h.s, set_perm _ he hj h.p⟩
        · rw [if_neg hg, if_neg fun g => hg g.2]; exact h
theorem Alike.hearL {ps : List Pt} {n f : Int} (hn : upAt ps n) (hf : 1 ≤ f) (l : List Tp) : ∀ {es rs : List E6}, Alike ps es rs → Alike ps (hearL n f es l) (hearDL n f rs l) := by
  induction l with
  | nil => intro es rs h; exact h
  | cons x l ih => intro es rs h; exact ih (h.hear hn hf x)
theorem Alike.hearR {ps : List Pt} {es rs : List E6} (h : Alike ps es rs) (n f : Int) (l : List Tp) :
    (hearR ps es n f l).1 = (hearDR ps rs n f l).1 ∧ Alike ps (hearR ps es n f l).2 (hearDR ps rs n f l).2 := by
  unfold Go.AM.X.hearR hearDR
  by_cases h1 : n < 1 ∨ (ps.length : Int) < n ∨ f < 1
  · rw [if_pos h1, if_pos h1]; exact ⟨rfl, h⟩
  rw [if_neg h1, if_neg h1]
  cases hp : ps[(n - 1).toNat]? with
  | none => exact ⟨rfl, h⟩
  | some p =>
    simp only
    by_cases hu : p.up = true
    · rw [if_pos hu, if_pos hu]
      exact ⟨rfl, Alike.hearL ⟨by omega, p, hp, hu⟩ (by omega) l h⟩
    · rw [if_neg hu, if_neg hu]; exact ⟨rfl, h⟩
/-- What is told at a port of an entry. -/
theorem Alike.apart {ps : List Pt} {es rs : List E6} (h : Alike ps es rs) {e : E6} (he : e ∈ es) : tellR ps es e.po = (tellL es e.po, 0) ∧ ∀ x ∈ tellL es e.po, ¬ x.lo = e.lo := by
  obtain ⟨h1, p, h2, h3⟩ := (h.t.e e he).p
  have hl := (List.getElem?_eq_some_iff.1 h2).1
  refine ⟨?_, fun x hx hq => ?_⟩
  · unfold tellR
    rw [if_neg (by omega), h2]
    simp only
    rw [if_pos h3]
  · unfold tellL at hx
    obtain ⟨a, ha, rfl⟩ := List.mem_map.1 hx
    obtain ⟨ha1, ha2⟩ := List.mem_filter.1 ha
    have r1 := (h.t.e a ha1).r
    have r2 := (h.t.e e he).r
    have hq' : a.lo = e.lo := hq
    have := h.t.d.eq ha1 he (mt_iff.2 (by omega))
    rw [this] at ha2
    simp at ha2
end Go.AM.X
