/- Printers: who is served, who waits, as told. Own work. -/
import Derived.Test.YtleefbnanliliaaDoorPwgC
namespace Go.AM.X
open Go Go.AM Go.Proofs Go.AM.Sx
set_option maxHeartbeats 3200000
set_option maxRecDepth 100000
set_option linter.unusedVariables false
theorem F14 : F 14 = some { body := (Tryd.f14.body.getD .skip), results := Tryd.f14.results.toList, rf := false } := by kernel_rfl
theorem R14 : regsOk T (Tryd.f14.body.getD .skip) = true := by kernel_rfl
theorem F16 : F 16 = some { body := (Tryd.f16.body.getD .skip), results := Tryd.f16.results.toList, rf := false } := by kernel_rfl
theorem R16 : regsOk T (Tryd.f16.body.getD .skip) = true := by kernel_rfl
/-- A row that is all new since a heap. -/
def Fresh (h : AH) (v : AV) : Prop := ∀ b o l k z x, v = .sl b o l k z x → h.next ≤ b
theorem Fresh.off {h : AH} {v : AV} (hv : Fresh h v) {c : Nat} (hc : c < h.next) : offRow v c := by
  intro b o l k z x e
  have := hv _ _ _ _ _ _ e
  omega
theorem push_new {T : TT} {t el : Nat} {ti te : TI} {sz n : Nat} {h0 h : AH} {v : AV} {cs new : List AV} (ht : T t = some ti) (hd : ti.desc = .slice el) (he : T el = some te) (hz : te.size = sz) (hs0 : 0 < sz) (hb : 0 < te.bytes) (hr : RowC sz h v n cs) (hf : Fresh h0 v) (hg : Grow h0 h)
    (hl : new.length = sz) (hone : new.all AV.one = true) (hsm : (n + 1) * te.bytes < maxBytes) :
    ∃ v' h2, aAppend T t t v (.sl h.next 0 1 1 sz true) (h.alloc (.cells new .own)) = some (v', h2) ∧ RowC sz h2 v' (n + 1) (cs ++ new) ∧ Fresh h0 v' ∧ Grow h0 h2 := by
  obtain ⟨v', h2, q1, q2, q3, q4, q5⟩ := hr.push ht hd he hz hs0 hb hl hone hsm
  have g1 := hg.1
  refine ⟨v', h2, q1, q2, fun b o l k z x e => ?_, by omega, fun c hc => ?_⟩
  · rcases q5 _ _ _ _ _ _ e with h | ⟨_, _, _, _, _, h⟩
    · omega
    · exact hf _ _ _ _ _ _ h
  · rw [q4 c (by omega) (hf.off hc), hg.2 c hc]
def sI (ss : List Sv) : List AV := ss.map fun s => .int .i64 s.c
def wI (ws : List Wt) : List AV := ws.map fun w => .int .i64 w.c
theorem run14 {I : Nat → Option (List AV → AH → Rs)} (h32 : I 32 = none) (h14 : I 14 = none) (m p : Nat) (P : Pr) (h : AH) (hP : OkP h p P) (hq : ¬ P.q = 0) :
    ∃ v h2, call F I T (m + 200) 14 [.ptr p 0] h = some (v, h2) ∧ RowC 1 h2 v P.ss.length (sI P.ss) ∧ Fresh h v ∧ Grow h h2 := by
  have k1 := run32 h32 (m + 198) p P.q P.r P.wv P.sv P.jv P.lf h hP.g hq
  have hp : h.get p = some (.cells [.int .i64 P.q, .int .i64 P.r, P.wv, P.sv, P.jv, .int .i64 P.lf] .own) := hP.g
  have hlen : ∀ h, aLen T 71 P.sv h = some (.int .i64 (P.ss.length : Nat)) := fun h => hP.s.len T71 d71
  have hsl := hP.sl
  rw [call_F (by decide) h14 F14 rfl R14]; simp only [Tryd.f14, Option.getD]
  simp +contextual (maxSteps := 3000000) only [↓code_skip, ↓code_seq, ↓code_region, ↓code_cond, ↓code_block, ↓code_loop, aCond_bool, ↓ops_nil, ↓ops_cons, run_none, ↓run0_v, ↓run0_r, ↓seqK_normal, put_same, put_ne, env0_at, ev_tmp, ev_const, ev_func, oc_int, oc_nils, o_move, o_assign, o_call, o_len, o_load, o_nilCheck, o_fieldAddr, g_none, nil_ptr, Option.getD_some, ↓reduceIte, not_false_eq_true, Nat.reduceAdd, reduceCtorEq, List.getElem?_cons_zero, List.getElem?_cons_succ, Bool.false_eq_true, List.map_cons, List.map_nil, List.append_nil, List.nil_append, ne_eq, fa_ptr T73 p73_3 (by decide), load_p1 T71 a71, loadc_def, k1, hp, hlen, callV_fn (g := 32) (by decide)]
  refine iterL_wp (Q := fun r => ∃ v h2, r = some (v, h2) ∧ RowC 1 h2 v P.ss.length (sI P.ss) ∧ Fresh h v ∧ Grow h h2) (N := P.ss.length) (Inv := fun k e h' => ∃ i v, k + i = P.ss.length ∧ RowC 1 h' v i (sI (P.ss.take i)) ∧ Fresh h v ∧ Grow h h' ∧ i ≤ P.ss.length ∧ e 3 = v ∧ e 11 = P.sv ∧ e 12 = .int .i64 (P.ss.length : Nat) ∧ e 13 = .int .i64 (i : Nat)) ?_ ?_ (by omega)
  · rintro k e h' K' ⟨i, v, hk, hr, hf, hg, hil, e3, e11, e12, e13⟩ hnext hexit
    by_cases hi : i < P.ss.length
    · have c1 : (i : Int) < (P.ss.length : Int) := by omega
      obtain ⟨s, hs⟩ : ∃ s, P.ss[i]? = some s := ⟨P.ss[i], List.getElem?_eq_getElem hi⟩
      obtain ⟨b, cs, bk, g1, g2, g3⟩ := loadS ((hP.grow hg).s) hs
      have g4 := ((hP.grow hg).b s (List.mem_of_getElem? hs)).2
      unfold Sv.ok Sv.enc at g4
      obtain ⟨v', h2, q1, q2, q3, q4⟩ := push_new (new := [.int .i64 s.c]) T31 d31 T3 s3 (by decide) (by rw [b3]; decide) hr hf hg rfl rfl (by rw [b3]; simp [maxBytes]; omega)
      have c7 : IntKind.i64.wrap ((i : Int) + 1) = ((i + 1 : Nat) : Int) := by rw [wrap_i64 (by omega) (by omega)]; rfl
      have htk : sI (P.ss.take i) ++ [.int .i64 s.c] = sI (P.ss.take (i + 1)) := by
        rw [List.take_add_one, hs]; simp [sI]
      rw [htk] at q2
      simp +contextual (maxSteps := 3000000) only [↓code_skip, ↓code_seq, ↓code_region, ↓code_cond, ↓code_block, aCond_bool, ↓ops_nil, ↓ops_cons, run_none, ↓run0_v, ↓run0_r, ↓seqK_normal, ↓blkK_normal, put_same, put_ne, ev_tmp, ev_const, oc_int, o_move, o_assign, o_bin, o_buildSlice, o_load, o_nilCheck, o_fieldAddr, o_indexAddr, o_append, g_none, bin_add, bin_lss, nil_ptr, Option.bind_some, decide_eq_true_eq, ↓reduceIte, Nat.reduceEqDiff, not_false_eq_true, Nat.reduceAdd, Nat.reduceMul, List.getElem?_cons_zero, List.map_cons, List.map_nil, List.append_nil, List.nil_append, and_true, Nat.le_refl, ne_eq, loadc_def, load_p1 T82 a82, fa_ptr T84 p84_0 (by decide), load_p1 T3 a3, buildSl T31 d31 T3 (n := 1) (by rw [s3]; decide), s3, z3, parts_eq, fillA, AV.cells, AH.splice, List.take_zero, List.drop_succ_cons, List.drop_nil, List.length_cons, List.length_nil, repl, e3, e11, e12, e13, c1, g1, g2, g3, g4, q1, c7]
      refine hnext (k - 1) _ _ (by omega) ⟨i + 1, v', by omega, ?_, ?_, ?_, ?_, ?_, ?_, ?_, ?_⟩
      · exact q2
      · exact q3
      · exact q4
      · omega
      · simp only [put_same, put_ne, Nat.reduceEqDiff, not_false_eq_true, ne_eq]
      · simp only [put_ne, Nat.reduceEqDiff, not_false_eq_true, ne_eq, e11]
      · simp only [put_ne, Nat.reduceEqDiff, not_false_eq_true, ne_eq, e12]
      · simp only [put_same]
    · have c1 : ¬ (i : Int) < (P.ss.length : Int) := by omega
      have hin : i = P.ss.length := by omega
      rw [hin, List.take_length] at hr
      simp +contextual (maxSteps := 3000000) only [↓code_seq, ↓code_region, ↓code_cond, ↓code_exit, aCond_bool, ↓ops_nil, ↓ops_cons, run_none, ↓run0_v, ↓seqK_normal, ↓seqK_exit, put_same, ev_tmp, o_bin, g_none, bin_lss, decide_eq_true_eq, ↓reduceIte, e12, e13, c1]
      refine hexit _ _ _ (by simp) ⟨v, h', ?_, hr, hf, hg⟩
      simp +contextual (maxSteps := 3000000) only [↓code_seq, ↓code_region, ↓code_ret, ↓ops_nil, ↓ops_cons, run_none, ↓run0_v, ↓seqK_normal, ↓blkK_exit, ↓retK_ret, put_same, put_ne, ev_tmp, o_move, o_assign, g_none, resultsOf, oneOrAll, Option.map_some, ↓reduceIte, Nat.reduceEqDiff, not_false_eq_true, ne_eq, e3]
  · refine ⟨0, .nils, by omega, ?_, ?_, ?_, ?_, ?_, ?_, ?_, ?_⟩
    · exact RowC.nil 1 h
    · (intro b o l k z x e; cases e)
    · exact Grow.refl _
    · omega
    · simp only [put_same, put_ne, Nat.reduceEqDiff, not_false_eq_true, ne_eq]
    · simp only [put_same, put_ne, Nat.reduceEqDiff, not_false_eq_true, ne_eq]
    · simp only [put_same, put_ne, Nat.reduceEqDiff, not_false_eq_true, ne_eq]
    · simp only [put_same]; rfl
theorem store_w (h : AH) (w : Wt) (hb : okB w.b) : ∃ h2, aStore T 81 (.ptr h.next 0) (.agg [.int .i64 w.c, .int .i64 w.w, w.b]) (h.alloc (.cells [.int .i64 0, .int .i64 0, .nilp] .own)) = some h2 ∧ h2.next = h.next + 1 ∧ h2.get h.next = some (.cells [.int .i64 w.c, .int .i64 w.w, w.b] .own) ∧ Grow h h2 := by
  have h1 := store_n (T := T) (t := 81) (b := h.next) (o := 0) (v := .agg [.int .i64 w.c, .int .i64 w.w, w.b]) (vs := [.int .i64 w.c, .int .i64 w.w, w.b]) (h := h.alloc (.cells [.int .i64 0, .int .i64 0, .nilp] .own)) (cs := [.int .i64 0, .int .i64 0, .nilp]) T81 rfl (by rw [s81]; rfl)
    (by simp only [List.all_cons, List.all_nil, hb.one.1]; rfl) (by rw [AH.get_alloc, if_pos rfl]) (by simp)
  refine ⟨_, h1, by simp, by rw [AH.get_put, if_pos rfl]; rfl, by simp, fun c hc => ?_⟩
  rw [AH.get_put, if_neg (by omega), AH.get_alloc, if_neg (by omega)]
theorem run16 {I : Nat → Option (List AV → AH → Rs)} (h32 : I 32 = none) (h16 : I 16 = none) (m p : Nat) (P : Pr) (h : AH) (hP : OkP h p P) (hq : ¬ P.q = 0) :
    ∃ v h2, call F I T (m + 200) 16 [.ptr p 0] h = some (v, h2) ∧ RowC 1 h2 v P.ws.length (wI P.ws) ∧ Fresh h v ∧ Grow h h2 := by
  have k1 := run32 h32 (m + 198) p P.q P.r P.wv P.sv P.jv P.lf h hP.g hq
  have hp : h.get p = some (.cells [.int .i64 P.q, .int .i64 P.r, P.wv, P.sv, P.jv, .int .i64 P.lf] .own) := hP.g
  have hlen : ∀ h, aLen T 70 P.wv h = some (.int .i64 (P.ws.length : Nat)) := fun h => hP.w.len T70 d70
  have hwl := hP.wl
  rw [call_F (by decide) h16 F16 rfl R16]; simp only [Tryd.f16, Option.getD]
  simp +contextual (maxSteps := 3000000) only [↓code_skip, ↓code_seq, ↓code_region, ↓code_cond, ↓code_block, ↓code_loop, aCond_bool, ↓ops_nil, ↓ops_cons, run_none, ↓run0_v, ↓run0_r, ↓seqK_normal, put_same, put_ne, env0_at, ev_tmp, ev_const, ev_func, oc_int, oc_nils, o_move, o_assign, o_call, o_len, o_load, o_nilCheck, o_fieldAddr, g_none, nil_ptr, Option.getD_some, ↓reduceIte, not_false_eq_true, Nat.reduceAdd, reduceCtorEq, List.getElem?_cons_zero, List.getElem?_cons_succ, Bool.false_eq_true, List.map_cons, List.map_nil, List.append_nil, List.nil_append, ne_eq, fa_ptr T73 p73_2 (by decide), load_p1 T70 a70, loadc_def, k1, hp, hlen, callV_fn (g := 32) (by decide)]
  refine iterL_wp (Q := fun r => ∃ v h2, r = some (v, h2) ∧ RowC 1 h2 v P.ws.length (wI P.ws) ∧ Fresh h v ∧ Grow h h2) (N := P.ws.length) (Inv := fun k e h' => ∃ i v, k + i = P.ws.length ∧ RowC 1 h' v i (wI (P.ws.take i)) ∧ Fresh h v ∧ Grow h h' ∧ i ≤ P.ws.length ∧ e 3 = v ∧ e 11 = P.wv ∧ e 12 = .int .i64 (P.ws.length : Nat) ∧ e 13 = .int .i64 (i : Nat)) ?_ ?_ (by omega)
  · rintro k e h' K' ⟨i, v, hk, hr, hf, hg, hil, e3, e11, e12, e13⟩ hnext hexit
    by_cases hi : i < P.ws.length
    · have c1 : (i : Int) < (P.ws.length : Int) := by omega
      obtain ⟨w, hw⟩ : ∃ w, P.ws[i]? = some w := ⟨P.ws[i], List.getElem?_eq_getElem hi⟩
      obtain ⟨b, cs, bk, g1, g2, g3, g4⟩ := loadW ((hP.grow hg).w) hw
      unfold Wt.enc at g4
      have hob := hP.wb w (List.mem_of_getElem? hw)
      have c7 : IntKind.i64.wrap ((i : Int) + 1) = ((i + 1 : Nat) : Int) := by rw [wrap_i64 (by omega) (by omega)]; rfl
      obtain ⟨hz, y1, y2, y3, y4⟩ := store_w h' w hob
      obtain ⟨v', h2, q1, q2, q3, q4⟩ := push_new (new := [.int .i64 w.c]) T31 d31 T3 s3 (by decide) (by rw [b3]; decide) (hr.grow y4) hf (hg.trans y4) rfl rfl (by rw [b3]; simp [maxBytes]; omega)
      have htk : wI (P.ws.take i) ++ [.int .i64 w.c] = wI (P.ws.take (i + 1)) := by
        rw [List.take_add_one, hw]; simp [wI]
      rw [htk] at q2
      simp +contextual (maxSteps := 3000000) only [↓code_skip, ↓code_seq, ↓code_region, ↓code_cond, ↓code_block, aCond_bool, ↓ops_nil, ↓ops_cons, run_none, ↓run0_v, ↓run0_h, ↓run0_r, ↓seqK_normal, ↓blkK_normal, put_same, put_ne, put_none, ev_tmp, ev_const, oc_int, o_move, o_assign, o_bin, o_alloc, o_buildSlice, o_load, o_store, o_fieldAddr, o_indexAddr, o_append, g_none, bin_add, bin_lss, Option.bind_some, Option.map_some, decide_eq_true_eq, ↓reduceIte, Nat.reduceEqDiff, not_false_eq_true, Nat.reduceAdd, Nat.reduceMul, List.getElem?_cons_zero, List.map_cons, List.map_nil, List.append_nil, List.nil_append, and_true, Nat.le_refl, ne_eq, loadc_def, load_pA T81 a81, s81, loadn_def, alloc_t T81, z81, fa_ptr T81 p81_0 (by decide), load_p1 T3 a3, buildSl T31 d31 T3 (n := 1) (by rw [s3]; decide), s3, z3, parts_eq, fillA, AV.cells, AH.splice, List.take_zero, List.drop_succ_cons, List.drop_nil, List.length_cons, List.length_nil, repl, e3, e11, e12, e13, c1, g1, g2, g3, g4, c7, y1, y3, q1]
      refine hnext (k - 1) _ _ (by omega) ⟨i + 1, v', by omega, ?_, ?_, ?_, ?_, ?_, ?_, ?_, ?_⟩
      · exact q2
      · exact q3
      · exact q4
      · omega
      · simp only [put_same, put_ne, Nat.reduceEqDiff, not_false_eq_true, ne_eq]
      · simp only [put_ne, Nat.reduceEqDiff, not_false_eq_true, ne_eq, e11]
      · simp only [put_ne, Nat.reduceEqDiff, not_false_eq_true, ne_eq, e12]
      · simp only [put_same]
    · have c1 : ¬ (i : Int) < (P.ws.length : Int) := by omega
      have hin : i = P.ws.length := by omega
      rw [hin, List.take_length] at hr
      simp +contextual (maxSteps := 3000000) only [↓code_seq, ↓code_region, ↓code_cond, ↓code_exit, aCond_bool, ↓ops_nil, ↓ops_cons, run_none, ↓run0_v, ↓seqK_normal, ↓seqK_exit, put_same, ev_tmp, o_bin, g_none, bin_lss, decide_eq_true_eq, ↓reduceIte, e12, e13, c1]
      refine hexit _ _ _ (by simp) ⟨v, h', ?_, hr, hf, hg⟩
      simp +contextual (maxSteps := 3000000) only [↓code_seq, ↓code_region, ↓code_ret, ↓ops_nil, ↓ops_cons, run_none, ↓run0_v, ↓seqK_normal, ↓blkK_exit, ↓retK_ret, put_same, put_ne, ev_tmp, o_move, o_assign, g_none, resultsOf, oneOrAll, Option.map_some, ↓reduceIte, Nat.reduceEqDiff, not_false_eq_true, ne_eq, e3]
  · refine ⟨0, .nils, by omega, ?_, ?_, ?_, ?_, ?_, ?_, ?_, ?_⟩
    · exact RowC.nil 1 h
    · (intro b o l k z x e; cases e)
    · exact Grow.refl _
    · omega
    · simp only [put_same, put_ne, Nat.reduceEqDiff, not_false_eq_true, ne_eq]
    · simp only [put_same, put_ne, Nat.reduceEqDiff, not_false_eq_true, ne_eq]
    · simp only [put_same, put_ne, Nat.reduceEqDiff, not_false_eq_true, ne_eq]
    · simp only [put_same]; rfl
end Go.AM.X
namespace Go.AM.X
open Go Go.AM Go.Proofs Go.AM.Sx
set_option maxHeartbeats 3200000
set_option maxRecDepth 100000
set_option linter.unusedVariables false
theorem F34 : F 34 = some { body := (Tryd.f34.body.getD .skip), results := Tryd.f34.results.toList, rf := false } := by kernel_rfl
theorem R34 : regsOk T (Tryd.f34.body.getD .skip) = true := by kernel_rfl
theorem repl_len (z : List AV) : ∀ n : Nat, (repl z n).length = n * z.length
  | 0 => by simp [repl]
  | n + 1 => by simp only [repl, List.length_append, repl_len z n, Nat.add_mul, Nat.one_mul]; omega
theorem repl_one (z : List AV) (h : z.all AV.one = true) : ∀ n : Nat, (repl z n).all AV.one = true
  | 0 => rfl
  | n + 1 => by simp only [repl, List.all_append, h, repl_one z h n]; rfl
theorem _root_.Go.AM.Sx.RowC.trunc {T : TT} {t el : Nat} {ti te : TI} {sz n j : Nat} {h : AH} {v : AV} {cs : List AV} (ht : T t = some ti) (hd : ti.desc = .slice el) (he : T el = some te) (hz : te.size = sz) (hs0 : 0 < sz) (hzl : te.zero.length = sz) (hz1 : te.zero.all AV.one = true)
    (hr : RowC sz h v n cs) (hn : 0 < n) (hj : j ≤ n) :
    ∃ x38 h2 v2, aSlice T t v (some (.int .i64 (j : Nat))) none none = some x38 ∧ aClear T t x38 h = some h2 ∧ aSlice T t v none (some (.int .i64 (j : Nat))) none = some v2 ∧
      RowC sz h2 v2 j (cs.take (j * sz)) ∧ h2.next = h.next ∧ (∀ c, offRow v c → h2.get c = h.get c) ∧ (∀ b o l k z x, v2 = .sl b o l k z x → ∃ o l k z x, v = .sl b o l k z x) := by
  rcases hr with ⟨rfl, rfl, rfl⟩ | ⟨b, cap, ex, rest, rfl, h1, h2, h3, h4⟩
  · omega
  have hncap : n ≤ cap := Nat.le_of_mul_le_mul_right (show n * sz ≤ cap * sz by omega) hs0
  have e1 : j * sz ≤ n * sz := Nat.mul_le_mul_right _ hj
  have e2 : (n - j) * sz = n * sz - j * sz := Nat.sub_mul _ _ _
  obtain ⟨A, hA⟩ : ∃ A, A = cs.take (j * sz) := ⟨_, rfl⟩
  have hAl : A.length = j * sz := by rw [hA, List.length_take]; omega
  have hrl : (repl te.zero (n - j)).length = n * sz - j * sz := by rw [repl_len, hzl, e2]
  have hsp : AH.splice (cs ++ rest) (0 + j * sz) (repl te.zero (n - j)) = A ++ (repl te.zero (n - j) ++ rest) := by
    unfold AH.splice
    rw [Nat.zero_add, List.take_append_of_le_length (by omega), ← hA, hrl, show j * sz + (n * sz - j * sz) = cs.length by omega, List.drop_left, List.append_assoc]
  refine ⟨_, h.put b (.cells (A ++ (repl te.zero (n - j) ++ rest)) .own), .sl b 0 j cap sz (ex || false), sl_slC ht hd he hz (m := cap) (u := n) rfl rfl bnd_nat (by omega) hncap (Nat.le_refl _) (by simp), ?_, ?_, ?_, rfl, fun c hoff => ?_, fun b' o l k z x hv => by cases hv; exact ⟨_, _, _, _, _, rfl⟩⟩
  · simp only [aClear, ht, hd, he]
    rw [if_pos hz]
    simp only [AH.storen, h4]
    rw [if_pos ⟨by rw [hrl, List.length_append]; omega, repl_one _ hz1 _⟩, hsp]
  · have := sl_slC (T := T) (b := b) (o := 0) (ex := ex) (mx := none) ht hd he hz (m := cap) (l := 0) (len := n) (cap := cap) (lo := none) rfl (bnd_nat (i := j)) rfl (by omega) (by omega) (Nat.le_refl _) (by simp)
    simpa using this
  · refine .inr ⟨b, cap, ex || false, _, rfl, by rw [← hA]; exact hAl, ?_, h3, by rw [AH.get_put, if_pos rfl, ← hA]⟩
    rw [← hA, hAl, List.length_append, hrl]
    omega
  · rw [AH.get_put, if_neg (hoff _ _ _ _ _ _ rfl)]
theorem scs_set (L : List Sv) (j : Nat) (s : Sv) : (scs L).set j (.ptr s.a 0) = scs (L.set j s) := by simp [scs, List.map_set]
theorem _root_.Go.AM.Sx.RowC.setS {h : AH} {v : AV} {L : List Sv} {j : Nat} (s : Sv) (hr : RowC 1 h v L.length (scs L)) (hj : j < L.length) :
    ∃ b cs, aIndexAddr T 71 v (.int .i64 (j : Nat)) = some (.ptr b j) ∧ h.get b = some (.cells cs .own) ∧ j < cs.length ∧ RowC 1 (h.put b (.cells (cs.set j (.ptr s.a 0)) .own)) v (L.set j s).length (scs (L.set j s)) ∧ (∀ c, offRow v c → c ≠ b) := by
  rcases hr with ⟨rfl, h0, _⟩ | ⟨b, cap, ex, rest, rfl, h1, h2, h3, h4⟩
  · omega
  obtain ⟨b', rest', ⟨cap', ex', hv⟩, g1, g2, g3⟩ := RowC.at_ (h := h) (cs := scs L) T71 d71 T82 s82 (.inr ⟨b, cap, ex, rest, rfl, h1, h2, h3, h4⟩) hj
  cases hv
  rw [Nat.mul_one] at g1
  refine ⟨b, scs L ++ rest, g1, h4, by rw [List.length_append, scs_len]; omega, .inr ⟨b, cap, ex, rest, by rw [List.length_set], by rw [scs_len], ?_, h3, ?_⟩, fun c ho => ho _ _ _ _ _ _ rfl⟩
  · rw [scs_len, List.length_set]; rw [scs_len] at h2; exact h2
  · rw [AH.get_put, if_pos rfl, List.set_append_left _ _ (by rw [scs_len]; omega), scs_set]
def keepS (s : Sv) : Bool := !decide (s.s = 30)
def goS (s : Sv) : Bool := decide (s.s = 30)
theorem filter_all : ∀ (l : List Sv) (k : Nat), idxAt goS k l = -1 → l.filter keepS = l
  | [], _, _ => rfl
  | s :: l, k, h => by
    simp only [idxAt] at h
    by_cases hs : goS s = true
    · rw [if_pos hs] at h; omega
    · rw [if_neg hs] at h
      rw [List.filter_cons_of_pos (by unfold keepS; unfold goS at hs; simpa using hs), filter_all l _ h]
theorem filter_take {l : List Sv} {i : Nat} (h : l.findIdx? goS = some i) : (l.take (i + 1)).filter keepS = l.take i := by
  induction l generalizing i with
  | nil => simp at h
  | cons s l ih =>
    rw [List.findIdx?_cons] at h
    cases hs : goS s
    · rw [hs] at h
      simp at h
      obtain ⟨j, hj, rfl⟩ := h
      rw [List.take_succ_cons, List.filter_cons_of_pos (by unfold keepS; unfold goS at hs; simpa using hs), ih hj, List.take_succ_cons]
    · rw [hs] at h
      simp at h
      subst h
      simp [keepS]
      unfold goS at hs
      simpa using hs
theorem run34 {I : Nat → Option (List AV → AH → Rs)} (h57 : I 57 = none) (h34 : I 34 = none) (h35 : I 35 = none) (m : Nat) (v : AV) (ss : List Sv) (h : AH) (hr : RowC 1 h v ss.length (scs ss)) (hn : ss.length ≤ 100) (hok : ∀ s ∈ ss, s.ok h ∧ offRow v s.a) :
    ∃ v2 h2, call F I T (m + 301) 34 [v, .fn 35 [] []] h = some (v2, h2) ∧ RowC 1 h2 v2 (ss.filter keepS).length (scs (ss.filter keepS)) ∧ h2.next = h.next ∧ (∀ c, offRow v c → h2.get c = h.get c) ∧ (∀ b o l k z x, v2 = .sl b o l k z x → ∃ o l k z x, v = .sl b o l k z x) := by
  have k1 := run57 h57 m 35 (by decide) [] goS v ss h hr (by omega) fun m s hs => run35 h35 m s h (hok s hs).1
  have hlen : ∀ h, aLen T 71 v h = some (.int .i64 (ss.length : Nat)) := fun h => hr.len T71 d71
  rcases idx_find goS ss 0 with ⟨i, i1, i2, i3⟩ | ⟨i1, i2⟩
  rotate_left
  · refine ⟨v, h, ?_, by rw [filter_all ss 0 i1]; exact hr, rfl, fun _ _ => rfl, fun b o l k z x e => ⟨_, _, _, _, _, e⟩⟩
    rw [i1] at k1
    rw [call_F (by decide) h34 F34 rfl R34]; simp only [Tryd.f34, Option.getD]
    simp +contextual (maxSteps := 3000000) only [↓code_seq, ↓code_region, ↓code_cond, ↓code_ret, aCond_bool, ↓ops_nil, ↓ops_cons, run_none, ↓run0_v, ↓run0_r, ↓seqK_normal, ↓seqK_ret, ↓retK_ret, put_same, put_ne, env0_at, ev_tmp, ev_const, ev_func, oc_int, oc_nils, o_move, o_assign, o_bin, o_call, g_none, bin_eql, resultsOf, oneOrAll, Option.map_some, Option.getD_some, decide_eq_true_eq, ↓reduceIte, Nat.reduceEqDiff, not_false_eq_true, reduceCtorEq, List.getElem?_cons_zero, List.getElem?_cons_succ, List.map_cons, List.map_nil, List.append_nil, List.nil_append, ne_eq, k1, callV_fn (g := 57) (by decide)]
  rw [i1, Nat.zero_add] at k1
  have c1 : ¬ ((i : Nat) : Int) = -1 := by omega
  have c7 : IntKind.i64.wrap ((i : Int) + 1) = ((i + 1 : Nat) : Int) := by rw [wrap_i64 (by omega) (by omega)]; rfl
  rw [call_F (by decide) h34 F34 rfl R34]; simp only [Tryd.f34, Option.getD]
  simp +contextual (maxSteps := 3000000) only [↓code_skip, ↓code_seq, ↓code_region, ↓code_cond, ↓code_block, ↓code_loop, aCond_bool, ↓ops_nil, ↓ops_cons, run_none, ↓run0_v, ↓run0_r, ↓seqK_normal, put_same, put_ne, env0_at, ev_tmp, ev_const, ev_func, oc_int, oc_nils, o_move, o_assign, o_bin, o_call, g_none, bin_add, bin_eql, Option.getD_some, decide_eq_true_eq, ↓reduceIte, Nat.reduceEqDiff, not_false_eq_true, reduceCtorEq, List.getElem?_cons_zero, List.getElem?_cons_succ, List.map_cons, List.map_nil, List.append_nil, List.nil_append, ne_eq, k1, c1, callV_fn (g := 57) (by decide)]
  refine iterL_wp (Q := fun r => ∃ v2 h2, r = some (v2, h2) ∧ RowC 1 h2 v2 (ss.filter keepS).length (scs (ss.filter keepS)) ∧ h2.next = h.next ∧ (∀ c, offRow v c → h2.get c = h.get c) ∧ (∀ b o l k z x, v2 = .sl b o l k z x → ∃ o l k z x, v = .sl b o l k z x)) (N := ss.length - (i + 1)) (Inv := fun k e h' => ∃ y x j L, k + y = ss.length - (i + 1) ∧ x = i + 1 + y ∧ RowC 1 h' v L.length (scs L) ∧ L.length = ss.length ∧ L.take j = (ss.take x).filter keepS ∧ L.drop x = ss.drop x ∧ j < x ∧ x ≤ ss.length ∧ h'.next = h.next ∧ (∀ c, offRow v c → h'.get c = h.get c) ∧ e 0 = v ∧ e 1 = .fn 35 [] [] ∧ e 5 = .int .i64 (j : Nat) ∧ e 6 = .int .i64 (x : Nat)) ?_ ?_ (by omega)
  · rintro k e h' K' ⟨y, x, j, L, hk, hy, hL, hLl, ht, hd, hjx, hx, hnx, hfr, e0, e1, e5, e6⟩ hnext hexit
    by_cases hi : x < ss.length
    · have d1 : (x : Int) < (ss.length : Int) := by omega
      have hLx : L[x]? = some ss[x] := by
        have := congrArg (fun l => l[0]?) hd
        simpa [List.getElem?_drop, List.getElem?_eq_getElem hi] using this
      obtain ⟨b, cs, bk, g1, g2, g3⟩ := loadS hL hLx
      have hm : ss[x] ∈ ss := List.getElem_mem hi
      have hs' : (ss[x]).ok h' := by unfold Sv.ok; rw [hfr _ (hok _ hm).2]; exact (hok _ hm).1
      have kc := fun m => run35 h35 m ss[x] h' hs'
      have d7 : IntKind.i64.wrap ((x : Int) + 1) = ((x + 1 : Nat) : Int) := by rw [wrap_i64 (by omega) (by omega)]; rfl
      have d8 : IntKind.i64.wrap ((j : Int) + 1) = ((j + 1 : Nat) : Int) := by rw [wrap_i64 (by omega) (by omega)]; rfl
      have htk : ss.take (x + 1) = ss.take x ++ [ss[x]] := by rw [List.take_add_one, List.getElem?_eq_getElem hi]; rfl
      have hdd : L.drop (x + 1) = ss.drop (x + 1) := by
        have := congrArg (List.drop 1) hd
        rwa [List.drop_drop, List.drop_drop] at this
      by_cases hz : (ss[x]).s = 30
      · have hk : keepS ss[x] = false := by unfold keepS; simp [hz]
        simp +contextual (maxSteps := 3000000) only [↓code_skip, ↓code_seq, ↓code_region, ↓code_cond, ↓code_block, aCond_bool, ↓ops_nil, ↓ops_cons, run_none, ↓run0_v, ↓run0_r, ↓seqK_normal, ↓blkK_normal, put_same, put_ne, ev_tmp, ev_const, oc_int, o_move, o_assign, o_bin, o_call, o_len, o_load, o_un, o_indexAddr, g_none, bin_add, bin_lss, un_not, decide_eq_true_eq, ↓reduceIte, Nat.reduceEqDiff, not_false_eq_true, reduceCtorEq, Bool.false_eq_true, List.map_cons, List.map_nil, List.append_nil, List.nil_append, Bool.not_true, ne_eq, load_p1 T82 a82, loadc_def, e0, e1, e6, d1, hlen, g1, g2, g3, callV_fn (g := 35) (by decide), kc, decide_eq_true hz, d7]
        refine hnext (k - 1) _ _ (by omega) ⟨y + 1, x + 1, j, L, by omega, ?_, ?_, ?_, ?_, ?_, ?_, ?_, ?_, ?_, ?_, ?_, ?_, ?_⟩
        · omega
        · exact hL
        · exact hLl
        · (rw [htk, List.filter_append, ht, List.filter_cons_of_neg (by rw [hk]; simp)]; simp)
        · exact hdd
        · omega
        · omega
        · exact hnx
        · exact hfr
        · simp only [put_ne, not_false_eq_true, reduceCtorEq, ne_eq, e0]
        · simp only [put_ne, Nat.reduceEqDiff, not_false_eq_true, ne_eq, e1]
        · simp only [put_ne, Nat.reduceEqDiff, not_false_eq_true, ne_eq, e5]
        · simp only [put_same]
      · have hk : keepS ss[x] = true := by unfold keepS; simp [hz]
        obtain ⟨b', cs', q1, q2, q3, q4, q5⟩ := hL.setS (j := j) ss[x] (by omega)
        simp +contextual (maxSteps := 3000000) only [↓code_skip, ↓code_seq, ↓code_region, ↓code_cond, ↓code_block, aCond_bool, ↓ops_nil, ↓ops_cons, run_none, ↓run0_v, ↓run0_h, ↓run0_r, ↓seqK_normal, ↓blkK_normal, put_same, put_ne, put_none, ev_tmp, ev_const, oc_int, o_move, o_assign, o_bin, o_call, o_len, o_load, o_store, o_un, o_indexAddr, g_none, bin_add, bin_lss, un_not, decide_eq_true_eq, ↓reduceIte, Nat.reduceEqDiff, not_false_eq_true, reduceCtorEq, Nat.succ_ne_self, List.map_cons, List.map_nil, List.append_nil, List.nil_append, Bool.not_false, ne_eq, load_p1 T82 a82, loadc_def, run0_h, e0, e1, e5, e6, d1, hlen, g1, g2, g3, callV_fn (g := 35) (by decide), kc, decide_eq_false hz, d7, d8, q1, store_1 (v := .ptr ss[x].a 0) T82 s82 rfl rfl q2 q3]
        refine hnext (k - 1) _ _ (by omega) ⟨y + 1, x + 1, j + 1, L.set j ss[x], by omega, ?_, ?_, ?_, ?_, ?_, ?_, ?_, ?_, ?_, ?_, ?_, ?_, ?_⟩
        · omega
        · exact q4
        · (rw [List.length_set]; exact hLl)
        · (rw [htk, List.filter_append, ← ht, List.filter_cons_of_pos hk, List.filter_nil, List.take_add_one, List.getElem?_set_self (by omega), List.take_set_of_le (Nat.le_refl _)]; rfl)
        · (rw [List.drop_set_of_lt (by omega)]; exact hdd)
        · omega
        · omega
        · exact hnx
        · (intro c hc; rw [AH.get_put, if_neg (q5 c hc)]; exact hfr c hc)
        · simp only [put_ne, not_false_eq_true, reduceCtorEq, ne_eq, e0]
        · simp only [put_ne, Nat.reduceEqDiff, not_false_eq_true, ne_eq, e1]
        · simp only [put_same, put_ne, Nat.reduceEqDiff, not_false_eq_true, ne_eq]
        · simp only [put_same]
    · have d1 : ¬ (x : Int) < (ss.length : Int) := by omega
      have hin : x = ss.length := by omega
      rw [hin, List.take_length] at ht
      obtain ⟨x38, h2, v2, q1, q2, q3, q4, q5, q6, q7⟩ := hL.trunc (j := j) T71 d71 T82 s82 (by decide) (by rw [z82]; rfl) (by rw [z82]; rfl) (by omega) (by omega)
      have hjl : (ss.filter keepS).length = j := by rw [← ht, List.length_take]; omega
      have htk : (scs L).take (j * 1) = scs (ss.filter keepS) := by rw [← ht, Nat.mul_one]; simp [scs, List.map_take]
      rw [htk, ← hjl] at q4
      simp +contextual (maxSteps := 3000000) only [↓code_seq, ↓code_region, ↓code_cond, ↓code_exit, aCond_bool, ↓ops_nil, ↓ops_cons, run_none, ↓run0_v, ↓seqK_normal, ↓seqK_exit, put_same, put_ne, ev_tmp, o_move, o_bin, o_len, g_none, bin_lss, decide_eq_true_eq, ↓reduceIte, Nat.reduceEqDiff, not_false_eq_true, reduceCtorEq, ne_eq, e0, e6, d1, hlen]
      refine hexit _ _ _ (by simp) ⟨v2, h2, ?_, q4, q5.trans hnx, fun c hc => (q6 c hc).trans (hfr c hc), q7⟩
      simp +contextual (maxSteps := 3000000) only [↓code_seq, ↓code_region, ↓code_ret, ↓ops_nil, ↓ops_cons, run_none, ↓run0_v, ↓run0_h, ↓seqK_normal, ↓blkK_exit, ↓retK_ret, put_same, put_ne, put_none, ev_tmp, o_move, o_assign, o_slice, g_none, resultsOf, oneOrAll, Option.map_some, Option.map_none, ↓reduceIte, Nat.reduceEqDiff, not_false_eq_true, reduceCtorEq, ne_eq, run0_h, e0, e5, o_clear, q1, q2, q3]
  · refine ⟨0, i + 1, i, ss, by omega, ?_, ?_, ?_, ?_, ?_, ?_, ?_, ?_, ?_, ?_, ?_, ?_, ?_⟩
    · omega
    · exact hr
    · rfl
    · exact (filter_take i2).symm
    · rfl
    · omega
    · omega
    · rfl
    · exact fun _ _ => rfl
    · simp only [put_ne, env0_at, Option.getD_some, not_false_eq_true, reduceCtorEq, List.getElem?_cons_zero, ne_eq, c7]
    · simp only [put_ne, env0_at, Option.getD_some, Nat.reduceEqDiff, not_false_eq_true, List.getElem?_cons_zero, List.getElem?_cons_succ, ne_eq, c7]
    · simp only [put_same, put_ne, Nat.reduceEqDiff, not_false_eq_true, ne_eq, c7]
    · simp only [put_same, c7]
end Go.AM.X
