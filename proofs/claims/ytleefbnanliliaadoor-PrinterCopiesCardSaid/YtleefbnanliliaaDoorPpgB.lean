/- Printers: what reads, and what goes. Own work. -/
import Derived.Test.YtleefbnanliliaaDoorPpgA
namespace Go.AM.X
open Go Go.AM Go.Proofs Go.AM.Sx
set_option maxHeartbeats 3200000
set_option maxRecDepth 100000
set_option linter.unusedVariables false
theorem F30 : F 30 = some { body := (Tryd.f30.body.getD .skip), results := Tryd.f30.results.toList, rf := false } := by kernel_rfl
theorem R30 : regsOk T (Tryd.f30.body.getD .skip) = true := by kernel_rfl
theorem F32 : F 32 = some { body := (Tryd.f32.body.getD .skip), results := Tryd.f32.results.toList, rf := false } := by kernel_rfl
theorem R32 : regsOk T (Tryd.f32.body.getD .skip) = true := by kernel_rfl
theorem F36 : F 36 = some { body := (Tryd.f36.body.getD .skip), results := Tryd.f36.results.toList, rf := false } := by kernel_rfl
theorem R36 : regsOk T (Tryd.f36.body.getD .skip) = true := by kernel_rfl
theorem F39 : F 39 = some { body := (Tryd.f39.body.getD .skip), results := Tryd.f39.results.toList, rf := false } := by kernel_rfl
theorem R39 : regsOk T (Tryd.f39.body.getD .skip) = true := by kernel_rfl
theorem F57 : F 57 = some { body := (Tryd.f57.body.getD .skip), results := Tryd.f57.results.toList, rf := false } := by kernel_rfl
theorem R57 : regsOk T (Tryd.f57.body.getD .skip) = true := by kernel_rfl
theorem F58 : F 58 = some { body := (Tryd.f58.body.getD .skip), results := Tryd.f58.results.toList, rf := false } := by kernel_rfl
theorem R58 : regsOk T (Tryd.f58.body.getD .skip) = true := by kernel_rfl
theorem F59 : F 59 = some { body := (Tryd.f59.body.getD .skip), results := Tryd.f59.results.toList, rf := false } := by kernel_rfl
theorem R59 : regsOk T (Tryd.f59.body.getD .skip) = true := by kernel_rfl
theorem F60 : F 60 = some { body := (Tryd.f60.body.getD .skip), results := Tryd.f60.results.toList, rf := false } := by kernel_rfl
theorem R60 : regsOk T (Tryd.f60.body.getD .skip) = true := by kernel_rfl
theorem F37 : F 37 = some { body := (Tryd.f37.body.getD .skip), results := Tryd.f37.results.toList, rf := false } := by kernel_rfl
theorem R37 : regsOk T (Tryd.f37.body.getD .skip) = true := by kernel_rfl
theorem F38 : F 38 = some { body := (Tryd.f38.body.getD .skip), results := Tryd.f38.results.toList, rf := false } := by kernel_rfl
theorem R38 : regsOk T (Tryd.f38.body.getD .skip) = true := by kernel_rfl
theorem F35 : F 35 = some { body := (Tryd.f35.body.getD .skip), results := Tryd.f35.results.toList, rf := false } := by kernel_rfl
theorem R35 : regsOk T (Tryd.f35.body.getD .skip) = true := by kernel_rfl
def within (n a b : Int) : Bool := decide (a ≤ n) && decide (n ≤ b)
theorem K30 {I : Nat → Option (List AV → AH → Rs)} (h30 : I 30 = none) (m : Nat) (n a b : Int) (h : AH) : call F I T (m + 1) 30 [.int .i64 n, .int .i64 a, .int .i64 b] h = some (.bool (within n a b), h) := by
  rw [call_F (by decide) h30 F30 rfl R30]; simp only [Tryd.f30, Option.getD]
  simp +contextual (maxSteps := 3000000) only [↓code_seq, ↓code_region, ↓code_ret, ↓ops_nil, ↓ops_cons, run_none, run_someT, ↓run0_v, ↓seqK_normal, ↓retK_ret, put_same, put_ne, env0_at, ev_tmp, ev_const, oc_bool, o_move, o_assign, o_pick, o_bin, g_none, g_some, pick_bool, bin_leq, bin_geq, resultsOf, oneOrAll, Option.bind_some, Option.map_some, Option.getD_some, decide_eq_true_eq, ↓reduceIte, Nat.reduceEqDiff, not_false_eq_true, reduceCtorEq, List.getElem?_cons_zero, List.getElem?_cons_succ, List.getElem?_toArray, ge_iff_le, ne_eq, within]
  (repeat' split) <;> (try simp_all) <;> (try omega)
/-- A printer's block. -/
def pB (q r : Int) (w s j : AV) (l : Int) : AB := .cells [.int .i64 q, .int .i64 r, w, s, j, .int .i64 l] .own
theorem run32 {I : Nat → Option (List AV → AH → Rs)} (h32 : I 32 = none) (m p : Nat) (q r : Int) (w s j : AV) (l : Int) (h : AH) (hp : h.get p = some (pB q r w s j l)) (hq : ¬ q = 0) : call F I T (m + 1) 32 [.ptr p 0] h = some (.bool false, h) := by
  unfold pB at hp
  rw [call_F (by decide) h32 F32 rfl R32]; simp only [Tryd.f32, Option.getD]
  simp +contextual (maxSteps := 3000000) only [↓code_seq, ↓code_region, ↓code_ret, ↓ops_nil, ↓ops_cons, run_none, run_someF, ↓run0_v, ↓seqK_normal, ↓retK_ret, put_same, put_ne, env0_at, ev_tmp, ev_const, oc_int, oc_bool, oc_nilp, o_move, o_assign, o_pick, o_bin, o_load, o_nilCheck, o_fieldAddr, g_none, g_some, pick_bool, bin_eql, nil_ptr, resultsOf, oneOrAll, Option.bind_some, Option.map_some, Option.getD_some, ↓reduceIte, Nat.reduceEqDiff, not_false_eq_true, Nat.reduceAdd, reduceCtorEq, List.getElem?_cons_zero, List.getElem?_cons_succ, List.getElem?_toArray, Bool.false_eq_true, ne_eq, pn_eql T23 d23, fa_ptr T73 p73_0 (by decide), load_p1 T3 a3, loadc_def, hp, hq]
  rfl
/-- Those that wait. -/
structure Wt where
  c : Int
  w : Int
  b : AV
def Wt.enc (w : Wt) : List AV := [.int .i64 w.c, .int .i64 w.w, w.b]
def okB (v : AV) : Prop := v = .nilp ∨ ∃ b o, v = .ptr b o
theorem okB.one {v : AV} (h : okB v) : v.one = true ∧ v.cells = some [v] := by rcases h with rfl | ⟨b, o, rfl⟩ <;> exact ⟨rfl, rfl⟩
def wcs (ws : List Wt) : List AV := ws.flatMap Wt.enc
theorem wcs_len (ws : List Wt) : (wcs ws).length = ws.length * 3 := by
  induction ws with
  | nil => rfl
  | cons w ws ih => unfold wcs at ih ⊢; rw [List.flatMap_cons, List.length_append, ih]; simp [Wt.enc]; omega
theorem wcs_one {ws : List Wt} (h : ∀ w ∈ ws, okB w.b) : (wcs ws).all AV.one = true := by
  rw [List.all_eq_true]
  intro x hx
  obtain ⟨w, hw, hx⟩ := List.mem_flatMap.1 hx
  simp [Wt.enc] at hx
  rcases hx with rfl | rfl | rfl
  · rfl
  · rfl
  · exact (h w hw).one.1
theorem wcs_take : ∀ (ws : List Wt) (i : Nat), (wcs ws).take (i * 3) = wcs (ws.take i)
  | [], i => by simp [wcs]
  | w :: ws, 0 => by simp [wcs]
  | w :: ws, i + 1 => by
    have ih := wcs_take ws i
    unfold wcs at ih ⊢
    rw [List.flatMap_cons, List.take_succ_cons, List.flatMap_cons, ← ih, show (i + 1) * 3 = i * 3 + 3 by omega]
    rfl
theorem wcs_drop : ∀ (ws : List Wt) (i : Nat), (wcs ws).drop (i * 3) = wcs (ws.drop i)
  | [], i => by simp [wcs]
  | w :: ws, 0 => by simp
  | w :: ws, i + 1 => by
    have ih := wcs_drop ws i
    unfold wcs at ih ⊢
    rw [List.flatMap_cons, List.drop_succ_cons, ← ih, show (i + 1) * 3 = 3 + i * 3 by omega, ← List.drop_drop]
    rfl
theorem wcs_app (a b : List Wt) : wcs (a ++ b) = wcs a ++ wcs b := by simp [wcs]
theorem wcs_at {ws : List Wt} {i : Nat} {w : Wt} (hw : ws[i]? = some w) (rest : List AV) : ((wcs ws ++ rest).drop (i * 3)).take 3 = w.enc := by
  have hi := (List.getElem?_eq_some_iff.1 hw).1
  have he := (List.getElem?_eq_some_iff.1 hw).2
  rw [List.drop_append_of_le_length (by rw [wcs_len]; omega), wcs_drop, List.drop_eq_getElem_cons hi, he]
  rfl
theorem loadW {h : AH} {v : AV} {ws : List Wt} {i : Nat} {w : Wt} (hr : RowC 3 h v ws.length (wcs ws)) (hw : ws[i]? = some w) :
    ∃ b cs k, aIndexAddr T 70 v (.int .i64 (i : Nat)) = some (.ptr b (i * 3)) ∧ h.get b = some (.cells cs k) ∧ i * 3 + 3 ≤ cs.length ∧ (cs.drop (i * 3)).take 3 = w.enc := by
  have hi := (List.getElem?_eq_some_iff.1 hw).1
  obtain ⟨b, rest, _, h1, h2, h3⟩ := hr.at_ T70 d70 T81 s81 hi
  exact ⟨b, _, _, h1, h2, by rw [List.length_append, wcs_len]; omega, wcs_at hw _⟩
theorem run59 {I : Nat → Option (List AV → AH → Rs)} (h59 : I 59 = none) (m k : Nat) (x : Int) (w : Wt) (h : AH) (hk : h.get k = some (.cells [.int .i64 x] .own)) (hlt : k < h.next) : call F I T (m + 1) 59 [.agg w.enc, .ptr k 0] h = some (.bool (decide (w.c = x)), h.alloc (.cells w.enc .own)) := by
  have hk2 : (h.alloc (.cells [.int .i64 w.c, .int .i64 w.w, w.b] .own)).get k = some (.cells [.int .i64 x] .own) := by rw [AH.get_alloc, if_neg (by omega)]; exact hk
  unfold Wt.enc
  rw [call_F (by decide) h59 F59 rfl R59]; simp only [Tryd.f59, Option.getD]
  simp +contextual (maxSteps := 3000000) only [↓code_seq, ↓code_region, ↓code_ret, ↓ops_nil, ↓ops_cons, run_none, ↓run0_v, ↓run0_r, ↓seqK_normal, ↓retK_ret, put_same, put_ne, env0_at, ev_tmp, ev_const, oc_bool, o_assign, o_bin, o_box, o_load, o_fieldAddr, g_none, bin_eql, resultsOf, oneOrAll, Option.map_some, Option.getD_some, Nat.reduceEqDiff, not_false_eq_true, Nat.reduceAdd, List.getElem?_cons_zero, List.getElem?_cons_succ, ne_eq, box_agg, fa_ptr T81 p81_0 (by decide), load_p1 T3 a3, loadc_def, hk2, (show (h.alloc (.cells [.int .i64 w.c, .int .i64 w.w, w.b] .own)).get h.next = some (.cells [.int .i64 w.c, .int .i64 w.w, w.b] .own) by rw [AH.get_alloc, if_pos rfl])]
def pW (x : Int) (w : Wt) : Bool := decide (w.c = x)
theorem run58 {I : Nat → Option (List AV → AH → Rs)} (h58 : I 58 = none) (h59 : I 59 = none) (m kb : Nat) (x : Int) (v : AV) (ws : List Wt) (h : AH) (hr : RowC 3 h v ws.length (wcs ws)) (hn : ws.length ≤ 200) (hkb : h.get kb = some (.cells [.int .i64 x] .own)) (hlt : kb < h.next) :
    ∃ h2, call F I T (m + 300) 58 [v, .fn 59 [] [.ptr kb 0]] h = some (.int .i64 (idxAt (pW x) 0 ws), h2) ∧ Grow h h2 := by
  have hlen : ∀ h, aLen T 70 v h = some (.int .i64 (ws.length : Nat)) := fun h => hr.len T70 d70
  rw [call_F (by decide) h58 F58 rfl R58]; simp only [Tryd.f58, Option.getD]
  simp +contextual (maxSteps := 3000000) only [↓code_seq, ↓code_region, ↓code_block, ↓code_loop, ↓ops_nil, ↓ops_cons, run_none, ↓run0_v, ↓seqK_normal, put_same, put_ne, env0_at, ev_tmp, ev_const, oc_int, o_move, o_assign, o_len, g_none, Option.getD_some, not_false_eq_true, reduceCtorEq, List.getElem?_cons_zero, ne_eq, hlen]
  refine iterL_wp (Q := fun r => ∃ h2, r = some (.int .i64 (idxAt (pW x) 0 ws), h2) ∧ Grow h h2) (N := ws.length) (Inv := fun k e h' => ∃ i, k + i = ws.length ∧ idxAt (pW x) 0 ws = idxAt (pW x) i (ws.drop i) ∧ Grow h h' ∧ i ≤ ws.length ∧ e 0 = v ∧ e 1 = .fn 59 [] [.ptr kb 0] ∧ e 7 = .int .i64 (ws.length : Nat) ∧ e 8 = .int .i64 (i : Nat)) ?_ ?_ (by omega)
  · rintro k e h' K' ⟨i, hk, hix, hg, hil, e0, e1, e7, e8⟩ hnext hexit
    by_cases hi : i < ws.length
    · have c1 : (i : Int) < (ws.length : Int) := by omega
      obtain ⟨w, hw⟩ : ∃ w, ws[i]? = some w := ⟨ws[i], List.getElem?_eq_getElem hi⟩
      obtain ⟨b, cs, bk, g1, g2, g3, g4⟩ := loadW (hr.grow hg) hw
      have hk' : h'.get kb = some (.cells [.int .i64 x] .own) := by rw [hg.2 kb hlt]; exact hkb
      have kc := fun m => run59 h59 m kb x w h' hk' (by have := hg.1; omega)
      have c7 : IntKind.i64.wrap ((i : Int) + 1) = ((i + 1 : Nat) : Int) := by rw [wrap_i64 (by omega) (by omega)]; rfl
      rw [List.drop_eq_getElem_cons hi, (List.getElem?_eq_some_iff.1 hw).2] at hix
      simp only [idxAt] at hix
      by_cases hz : w.c = x
      · rw [if_pos (by unfold pW; exact decide_eq_true hz)] at hix
        simp +contextual (maxSteps := 3000000) only [↓code_skip, ↓code_seq, ↓code_region, ↓code_cond, ↓code_block, ↓code_ret, aCond_bool, ↓ops_nil, ↓ops_cons, run_none, ↓run0_v, ↓run0_r, ↓seqK_normal, ↓seqK_ret, ↓blkK_ret, put_same, put_ne, ev_tmp, o_move, o_assign, o_bin, o_call, o_load, o_indexAddr, g_none, bin_lss, Option.map_some, decide_eq_true_eq, ↓reduceIte, Nat.reduceEqDiff, not_false_eq_true, reduceCtorEq, List.map_cons, List.map_nil, List.nil_append, List.cons_append, ne_eq, load_pA T81 a81, s81, loadn_def, e0, e1, e7, e8, c1, g1, g2, g3, g4, callV_fn (g := 59) (by decide), List.cons_append, List.nil_append, kc, decide_eq_true hz]
        refine hexit _ _ _ (by simp) ⟨h'.alloc (.cells w.enc .own), ?_, hg.trans (Grow.alloc _ _)⟩
        simp +contextual (maxSteps := 3000000) only [↓seqK_ret, ↓blkK_ret, ↓retK_ret, put_same, resultsOf, oneOrAll, Option.map_some, hix]
      · rw [if_neg (by unfold pW; simp [hz])] at hix
        simp +contextual (maxSteps := 3000000) only [↓code_skip, ↓code_seq, ↓code_region, ↓code_cond, ↓code_block, aCond_bool, ↓ops_nil, ↓ops_cons, run_none, ↓run0_v, ↓run0_r, ↓seqK_normal, ↓blkK_normal, put_same, put_ne, ev_tmp, ev_const, oc_int, o_move, o_assign, o_bin, o_call, o_load, o_indexAddr, g_none, bin_add, bin_lss, Option.map_some, decide_eq_true_eq, ↓reduceIte, Nat.reduceEqDiff, not_false_eq_true, reduceCtorEq, Bool.false_eq_true, List.map_cons, List.map_nil, List.nil_append, List.cons_append, ne_eq, load_pA T81 a81, s81, loadn_def, e0, e1, e7, e8, c1, g1, g2, g3, g4, callV_fn (g := 59) (by decide), List.cons_append, List.nil_append, kc, decide_eq_false hz, c7]
        refine hnext (k - 1) _ _ (by omega) ⟨i + 1, by omega, ?_, ?_, ?_, ?_, ?_, ?_, ?_⟩
        · exact hix
        · exact hg.trans (Grow.alloc _ _)
        · omega
        · simp only [put_ne, not_false_eq_true, reduceCtorEq, ne_eq, e0]
        · simp only [put_ne, Nat.reduceEqDiff, not_false_eq_true, ne_eq, e1]
        · simp only [put_ne, Nat.reduceEqDiff, not_false_eq_true, ne_eq, e7]
        · simp only [put_same]
    · have c1 : ¬ (i : Int) < (ws.length : Int) := by omega
      rw [List.drop_eq_nil_of_le (by omega)] at hix
      simp +contextual (maxSteps := 3000000) only [↓code_seq, ↓code_region, ↓code_cond, ↓code_exit, aCond_bool, ↓ops_nil, ↓ops_cons, run_none, ↓run0_v, ↓seqK_normal, ↓seqK_exit, put_same, ev_tmp, o_bin, g_none, bin_lss, decide_eq_true_eq, ↓reduceIte, e7, e8, c1]
      refine hexit _ _ _ (by simp) ⟨h', ?_, hg⟩
      simp +contextual (maxSteps := 3000000) only [↓code_seq, ↓code_region, ↓code_ret, ↓ops_nil, ↓ops_cons, run_none, ↓run0_v, ↓seqK_normal, ↓blkK_exit, ↓retK_ret, put_same, ev_const, oc_int, o_assign, g_none, resultsOf, oneOrAll, Option.map_some, ↓reduceIte, hix, idxAt]
  · refine ⟨0, by omega, ?_, ?_, ?_, ?_, ?_, ?_, ?_⟩
    · rfl
    · exact Grow.refl _
    · omega
    · simp only [put_ne, env0_at, Option.getD_some, not_false_eq_true, reduceCtorEq, List.getElem?_cons_zero, ne_eq]
    · simp only [put_ne, env0_at, Option.getD_some, Nat.reduceEqDiff, not_false_eq_true, List.getElem?_cons_zero, List.getElem?_cons_succ, ne_eq]
    · simp only [put_same, put_ne, Nat.reduceEqDiff, not_false_eq_true, ne_eq]
    · simp only [put_same]; rfl
end Go.AM.X
namespace Go.AM.X
open Go Go.AM Go.Proofs Go.AM.Sx
set_option maxHeartbeats 3200000
set_option maxRecDepth 100000
set_option linter.unusedVariables false
/-- One that is served. -/
structure Sv where
  a : Nat
  c : Int
  b : AV
  j : Int
  q : Int
  s : Int
  d : AV
def Sv.enc (s : Sv) : List AV := [.int .i64 s.c, s.b, .int .i64 s.j, .int .i64 s.q, .int .i64 s.s, s.d]
def Sv.ok (h : AH) (s : Sv) : Prop := h.get s.a = some (.cells s.enc .own)
def scs (l : List Sv) : List AV := l.map fun s => .ptr s.a 0
theorem scs_len (l : List Sv) : (scs l).length = l.length * 1 := by simp [scs]
theorem scs_one (l : List Sv) : (scs l).all AV.one = true := by
  rw [List.all_eq_true]
  intro x hx
  obtain ⟨s, _, rfl⟩ := List.mem_map.1 hx
  rfl
theorem scs_at {ss : List Sv} {i : Nat} {s : Sv} (hs : ss[i]? = some s) (rest : List AV) : (scs ss ++ rest)[i]? = some (.ptr s.a 0) := by
  have hi := (List.getElem?_eq_some_iff.1 hs).1
  rw [List.getElem?_append_left (by rw [scs_len]; omega)]
  simp [scs, hs]
theorem loadS {h : AH} {v : AV} {ss : List Sv} {i : Nat} {s : Sv} (hr : RowC 1 h v ss.length (scs ss)) (hs : ss[i]? = some s) :
    ∃ b cs k, aIndexAddr T 71 v (.int .i64 (i : Nat)) = some (.ptr b i) ∧ h.get b = some (.cells cs k) ∧ cs[i]? = some (.ptr s.a 0) := by
  have hi := (List.getElem?_eq_some_iff.1 hs).1
  obtain ⟨b, rest, _, h1, h2, h3⟩ := hr.at_ T71 d71 T82 s82 hi
  rw [Nat.mul_one] at h1
  exact ⟨b, _, _, h1, h2, scs_at hs _⟩
theorem run60 {I : Nat → Option (List AV → AH → Rs)} (h60 : I 60 = none) (m k : Nat) (x : Int) (s : Sv) (h : AH) (hs : s.ok h) (hk : h.get k = some (.cells [.int .i64 x] .own)) : call F I T (m + 1) 60 [.ptr s.a 0, .ptr k 0] h = some (.bool (decide (s.c = x)), h) := by
  unfold Sv.ok Sv.enc at hs
  rw [call_F (by decide) h60 F60 rfl R60]; simp only [Tryd.f60, Option.getD]
  simp +contextual (maxSteps := 3000000) only [↓code_seq, ↓code_region, ↓code_ret, ↓ops_nil, ↓ops_cons, run_none, ↓run0_v, ↓seqK_normal, ↓retK_ret, put_same, put_ne, env0_at, ev_tmp, ev_const, oc_bool, o_move, o_assign, o_bin, o_load, o_nilCheck, o_fieldAddr, g_none, bin_eql, nil_ptr, resultsOf, oneOrAll, Option.map_some, Option.getD_some, Nat.reduceEqDiff, not_false_eq_true, Nat.reduceAdd, reduceCtorEq, List.getElem?_cons_zero, List.getElem?_cons_succ, ne_eq, fa_ptr T84 p84_0 (by decide), load_p1 T3 a3, loadc_def, hs, hk]
theorem run35 {I : Nat → Option (List AV → AH → Rs)} (h35 : I 35 = none) (m : Nat) (s : Sv) (h : AH) (hs : s.ok h) : call F I T (m + 1) 35 [.ptr s.a 0] h = some (.bool (decide (s.s = 30)), h) := by
  unfold Sv.ok Sv.enc at hs
  rw [call_F (by decide) h35 F35 rfl R35]; simp only [Tryd.f35, Option.getD]
  simp +contextual (maxSteps := 3000000) only [↓code_seq, ↓code_region, ↓code_ret, ↓ops_nil, ↓ops_cons, run_none, ↓run0_v, ↓seqK_normal, ↓retK_ret, put_same, put_ne, env0_at, ev_tmp, ev_const, oc_int, oc_bool, o_move, o_assign, o_bin, o_load, o_nilCheck, o_fieldAddr, g_none, bin_eql, nil_ptr, resultsOf, oneOrAll, Option.map_some, Option.getD_some, not_false_eq_true, Nat.reduceAdd, reduceCtorEq, List.getElem?_cons_zero, List.getElem?_cons_succ, ne_eq, fa_ptr T84 p84_4 (by decide), load_p1 T3 a3, loadc_def, hs]
theorem run57 {I : Nat → Option (List AV → AH → Rs)} (h57 : I 57 = none) (m g : Nat) (hg : Nat.beq g YLD = false) (cx : List AV) (pr : Sv → Bool) (v : AV) (ss : List Sv) (h : AH) (hr : RowC 1 h v ss.length (scs ss)) (hn : ss.length ≤ 200)
    (kc : ∀ m s, s ∈ ss → call F I T (m + 1) g (.ptr s.a 0 :: cx) h = some (.bool (pr s), h)) :
    call F I T (m + 300) 57 [v, .fn g [] cx] h = some (.int .i64 (idxAt pr 0 ss), h) := by
  have hlen : ∀ h, aLen T 71 v h = some (.int .i64 (ss.length : Nat)) := fun h => hr.len T71 d71
  rw [call_F (by decide) h57 F57 rfl R57]; simp only [Tryd.f57, Option.getD]
  simp +contextual (maxSteps := 3000000) only [↓code_seq, ↓code_region, ↓code_block, ↓code_loop, ↓ops_nil, ↓ops_cons, run_none, ↓run0_v, ↓seqK_normal, put_same, put_ne, env0_at, ev_tmp, ev_const, oc_int, o_move, o_assign, o_len, g_none, Option.getD_some, not_false_eq_true, reduceCtorEq, List.getElem?_cons_zero, ne_eq, hlen]
  refine iterL_wp (Q := fun r => r = some (.int .i64 (idxAt pr 0 ss), h)) (N := ss.length) (Inv := fun k e h' => ∃ i, k + i = ss.length ∧ idxAt pr 0 ss = idxAt pr i (ss.drop i) ∧ h' = h ∧ i ≤ ss.length ∧ e 0 = v ∧ e 1 = .fn g [] cx ∧ e 7 = .int .i64 (ss.length : Nat) ∧ e 8 = .int .i64 (i : Nat)) ?_ ?_ (by omega)
  · rintro k e h' K' ⟨i, hk, hix, hh, hil, e0, e1, e7, e8⟩ hnext hexit
    subst hh
    by_cases hi : i < ss.length
    · have c1 : (i : Int) < (ss.length : Int) := by omega
      obtain ⟨s, hs⟩ : ∃ s, ss[i]? = some s := ⟨ss[i], List.getElem?_eq_getElem hi⟩
      obtain ⟨b, cs, bk, g1, g2, g3⟩ := loadS hr hs
      have kc2 := fun m => kc m s (List.mem_of_getElem? hs)
      have c7 : IntKind.i64.wrap ((i : Int) + 1) = ((i + 1 : Nat) : Int) := by rw [wrap_i64 (by omega) (by omega)]; rfl
      rw [List.drop_eq_getElem_cons hi, (List.getElem?_eq_some_iff.1 hs).2] at hix
      simp only [idxAt] at hix
      cases hz : pr s
      · rw [hz, if_neg (by simp)] at hix
        simp +contextual (maxSteps := 3000000) only [↓code_skip, ↓code_seq, ↓code_region, ↓code_cond, ↓code_block, aCond_bool, ↓ops_nil, ↓ops_cons, run_none, ↓run0_v, ↓run0_r, ↓seqK_normal, ↓blkK_normal, put_same, put_ne, ev_tmp, ev_const, oc_int, o_move, o_assign, o_bin, o_call, o_load, o_indexAddr, g_none, bin_add, bin_lss, decide_eq_true_eq, ↓reduceIte, Nat.reduceEqDiff, not_false_eq_true, reduceCtorEq, Bool.false_eq_true, List.map_cons, List.map_nil, List.nil_append, List.cons_append, ne_eq, load_p1 T82 a82, loadc_def, e0, e1, e7, e8, c1, g1, g2, g3, callV_fn hg, List.cons_append, List.nil_append, kc2, hz, c7]
        refine hnext (k - 1) _ _ (by omega) ⟨i + 1, by omega, ?_, ?_, ?_, ?_, ?_, ?_, ?_⟩
        · exact hix
        · rfl
        · omega
        · simp only [put_ne, not_false_eq_true, reduceCtorEq, ne_eq, e0]
        · simp only [put_ne, Nat.reduceEqDiff, not_false_eq_true, ne_eq, e1]
        · simp only [put_ne, Nat.reduceEqDiff, not_false_eq_true, ne_eq, e7]
        · simp only [put_same]
      · rw [hz, if_pos rfl] at hix
        simp +contextual (maxSteps := 3000000) only [↓code_skip, ↓code_seq, ↓code_region, ↓code_cond, ↓code_block, ↓code_ret, aCond_bool, ↓ops_nil, ↓ops_cons, run_none, ↓run0_v, ↓run0_r, ↓seqK_normal, ↓seqK_ret, ↓blkK_ret, put_same, put_ne, ev_tmp, o_move, o_assign, o_bin, o_call, o_load, o_indexAddr, g_none, bin_lss, decide_eq_true_eq, ↓reduceIte, Nat.reduceEqDiff, not_false_eq_true, reduceCtorEq, List.map_cons, List.map_nil, List.nil_append, List.cons_append, ne_eq, load_p1 T82 a82, loadc_def, e0, e1, e7, e8, c1, g1, g2, g3, callV_fn hg, List.cons_append, List.nil_append, kc2, hz]
        refine hexit _ _ _ (by simp) ?_
        simp +contextual (maxSteps := 3000000) only [↓seqK_ret, ↓blkK_ret, ↓retK_ret, put_same, resultsOf, oneOrAll, Option.map_some, hix]
    · have c1 : ¬ (i : Int) < (ss.length : Int) := by omega
      rw [List.drop_eq_nil_of_le (by omega)] at hix
      simp +contextual (maxSteps := 3000000) only [↓code_seq, ↓code_region, ↓code_cond, ↓code_exit, aCond_bool, ↓ops_nil, ↓ops_cons, run_none, ↓run0_v, ↓seqK_normal, ↓seqK_exit, put_same, ev_tmp, o_bin, g_none, bin_lss, decide_eq_true_eq, ↓reduceIte, e7, e8, c1]
      refine hexit _ _ _ (by simp) ?_
      simp +contextual (maxSteps := 3000000) only [↓code_seq, ↓code_region, ↓code_ret, ↓ops_nil, ↓ops_cons, run_none, ↓run0_v, ↓seqK_normal, ↓blkK_exit, ↓retK_ret, put_same, ev_const, oc_int, o_assign, g_none, resultsOf, oneOrAll, Option.map_some, ↓reduceIte, hix, idxAt]
  · refine ⟨0, by omega, ?_, ?_, ?_, ?_, ?_, ?_, ?_⟩
    · rfl
    · rfl
    · omega
    · simp only [put_ne, env0_at, Option.getD_some, not_false_eq_true, reduceCtorEq, List.getElem?_cons_zero, ne_eq]
    · simp only [put_ne, env0_at, Option.getD_some, Nat.reduceEqDiff, not_false_eq_true, List.getElem?_cons_zero, List.getElem?_cons_succ, ne_eq]
    · simp only [put_same, put_ne, Nat.reduceEqDiff, not_false_eq_true, ne_eq]
    · simp only [put_same]; rfl
/-- What a printer is: its cells, those that wait, those that are served. -/
structure Pr where
  q : Int
  r : Int
  lf : Int
  wv : AV
  sv : AV
  jv : AV
  ws : List Wt
  ss : List Sv
def Pr.blk (P : Pr) : AB := pB P.q P.r P.wv P.sv P.jv P.lf
structure OkP (h : AH) (p : Nat) (P : Pr) : Prop where
  lt : p < h.next
  g : h.get p = some P.blk
  w : RowC 3 h P.wv P.ws.length (wcs P.ws)
  s : RowC 1 h P.sv P.ss.length (scs P.ss)
  b : ∀ x ∈ P.ss, x.a < h.next ∧ x.ok h
  wp : offRow P.wv p
  sp : offRow P.sv p
  wsv : ∀ b o l k z x, P.wv = .sl b o l k z x → offRow P.sv b
  ap : ∀ x ∈ P.ss, p ≠ x.a ∧ offRow P.wv x.a ∧ offRow P.sv x.a
  nd : (P.ss.map Sv.a).Nodup
  wb : ∀ x ∈ P.ws, okB x.b
  jc : P.jv.cells = some [P.jv] ∧ P.jv.one = true
  wl : P.ws.length ≤ 100
  sl : P.ss.length ≤ 100
theorem OkP.grow {h h2 : AH} {p : Nat} {P : Pr} (hP : OkP h p P) (hg : Grow h h2) : OkP h2 p P :=
  { lt := by have := hP.lt; have := hg.1; omega
    g := by rw [hg.2 p hP.lt]; exact hP.g
    w := hP.w.grow hg
    s := hP.s.grow hg
    b := fun x hx => ⟨by have := (hP.b x hx).1; have := hg.1; omega, by unfold Sv.ok; rw [hg.2 _ (hP.b x hx).1]; exact (hP.b x hx).2⟩
    wp := hP.wp, sp := hP.sp, wsv := hP.wsv, ap := hP.ap, nd := hP.nd, wb := hP.wb, jc := hP.jc, wl := hP.wl, sl := hP.sl }
def pS (x : Int) (s : Sv) : Bool := decide (s.c = x)
theorem run37 {I : Nat → Option (List AV → AH → Rs)} (h58 : I 58 = none) (h37 : I 37 = none) (h59 : I 59 = none) (m p : Nat) (x : Int) (P : Pr) (h : AH) (hP : OkP h p P) :
    ∃ h2, call F I T (m + 301) 37 [.ptr p 0, .int .i64 x] h = some (.int .i64 (idxAt (pW x) 0 P.ws), h2) ∧ Grow h h2 := by
  have hp : (h.alloc (.cells [.int .i64 x] .own)).get p = some (.cells [.int .i64 P.q, .int .i64 P.r, P.wv, P.sv, P.jv, .int .i64 P.lf] .own) := by rw [AH.get_alloc, if_neg (by have := hP.lt; omega)]; exact hP.g
  have hg := Grow.alloc h (.cells [.int .i64 x] .own)
  obtain ⟨h2, k1, k2⟩ := run58 h58 h59 m h.next x P.wv P.ws _ (hP.w.grow hg) (by have := hP.wl; omega) (by rw [AH.get_alloc, if_pos rfl]) (by simp)
  refine ⟨h2, ?_, hg.trans k2⟩
  rw [call_F (by decide) h37 F37 rfl R37]; simp only [Tryd.f37, Option.getD]
  simp +contextual (maxSteps := 3000000) only [↓code_seq, ↓code_region, ↓code_ret, ↓ops_nil, ↓ops_cons, run_none, ↓run0_v, ↓run0_r, ↓seqK_normal, ↓retK_ret, put_same, put_ne, env0_at, ev_tmp, ev_const, ev_func, oc_int, o_move, o_assign, o_call, o_box, o_load, o_nilCheck, o_makeFunc, o_fieldAddr, g_none, nil_ptr, resultsOf, oneOrAll, Option.map_some, Option.getD_some, Nat.reduceEqDiff, not_false_eq_true, Nat.reduceAdd, reduceCtorEq, List.getElem?_cons_zero, List.getElem?_cons_succ, List.map_cons, List.map_nil, List.append_nil, List.nil_append, ne_eq, box_int, fa_ptr T73 p73_2 (by decide), load_p1 T70 a70, loadc_def, hp, k1, callV_fn (g := 58) (by decide)]
theorem run38 {I : Nat → Option (List AV → AH → Rs)} (h57 : I 57 = none) (h38 : I 38 = none) (h60 : I 60 = none) (m p : Nat) (x : Int) (P : Pr) (h : AH) (hP : OkP h p P) :
    call F I T (m + 301) 38 [.ptr p 0, .int .i64 x] h = some (.int .i64 (idxAt (pS x) 0 P.ss), h.alloc (.cells [.int .i64 x] .own)) := by
  have hp : (h.alloc (.cells [.int .i64 x] .own)).get p = some (.cells [.int .i64 P.q, .int .i64 P.r, P.wv, P.sv, P.jv, .int .i64 P.lf] .own) := by rw [AH.get_alloc, if_neg (by have := hP.lt; omega)]; exact hP.g
  have hg := Grow.alloc h (.cells [.int .i64 x] .own)
  have k1 := run57 h57 m 60 (by decide) [.ptr h.next 0] (pS x) P.sv P.ss _ (hP.s.grow hg) (by have := hP.sl; omega) (fun m s hs => run60 h60 m h.next x s _ ((hP.grow hg).b s hs).2 (by rw [AH.get_alloc, if_pos rfl]))
  rw [call_F (by decide) h38 F38 rfl R38]; simp only [Tryd.f38, Option.getD]
  simp +contextual (maxSteps := 3000000) only [↓code_seq, ↓code_region, ↓code_ret, ↓ops_nil, ↓ops_cons, run_none, ↓run0_v, ↓run0_r, ↓seqK_normal, ↓retK_ret, put_same, put_ne, env0_at, ev_tmp, ev_const, ev_func, oc_int, o_move, o_assign, o_call, o_box, o_load, o_nilCheck, o_makeFunc, o_fieldAddr, g_none, nil_ptr, resultsOf, oneOrAll, Option.map_some, Option.getD_some, Nat.reduceEqDiff, not_false_eq_true, Nat.reduceAdd, reduceCtorEq, List.getElem?_cons_zero, List.getElem?_cons_succ, List.map_cons, List.map_nil, List.append_nil, List.nil_append, ne_eq, box_int, fa_ptr T73 p73_3 (by decide), load_p1 T71 a71, loadc_def, hp, k1, callV_fn (g := 57) (by decide)]
end Go.AM.X
namespace Go.AM.X
open Go Go.AM Go.Proofs Go.AM.Sx
set_option maxHeartbeats 3200000
set_option maxRecDepth 100000
set_option linter.unusedVariables false
theorem wcs_del (ws : List Wt) (i : Nat) : (wcs ws).take (i * 3) ++ (wcs ws).drop ((i + 1) * 3) = wcs (ws.eraseIdx i) := by
  rw [wcs_take, wcs_drop, List.eraseIdx_eq_take_drop_succ, wcs_app]
theorem scs_del (ss : List Sv) (i : Nat) : (scs ss).take (i * 1) ++ (scs ss).drop ((i + 1) * 1) = scs (ss.eraseIdx i) := by
  rw [Nat.mul_one, Nat.mul_one, List.eraseIdx_eq_take_drop_succ]
  simp [scs, List.map_take, List.map_drop]
theorem run36 {I : Nat → Option (List AV → AH → Rs)} (h36 : I 36 = none) (m i : Nat) (v : AV) (ws : List Wt) (h : AH) (hr : RowC 3 h v ws.length (wcs ws)) (hw : ∀ w ∈ ws, okB w.b) (hi : i < ws.length) (hn : ws.length ≤ 200) :
    ∃ v2 h2, call F I T (m + 1) 36 [v, .int .i64 (i : Nat), .int .i64 ((i + 1 : Nat) : Int)] h = some (v2, h2) ∧ RowC 3 h2 v2 (ws.eraseIdx i).length (wcs (ws.eraseIdx i)) ∧ h2.next = h.next ∧ (∀ c, offRow v c → h2.get c = h.get c) ∧ (∀ b o l k z x, v2 = .sl b o l k z x → ∃ o l k z x, v = .sl b o l k z x) := by
  have hlen : ∀ h, aLen T 70 v h = some (.int .i64 (ws.length : Nat)) := fun h => hr.len T70 d70
  obtain ⟨x13, v22, v25, v26, h1, x31, h2, a1, a2, a3, a4, a5, a6, a7, a8, a9, a10, a11⟩ := del_facts T70 d70 T81 s81 (by decide) (by rw [z81]; rfl) (by rw [z81]; rfl) hr (wcs_one hw) hi
  have c1 : ¬ ((i : Int) = ((i + 1 : Nat) : Int)) := by omega
  refine ⟨v26, h2, ?_, ?_, a9, a10, a11⟩
  · rw [call_F (by decide) h36 F36 rfl R36]; simp only [Tryd.f36, Option.getD]
    simp +contextual (maxSteps := 3000000) only [↓code_skip, ↓code_seq, ↓code_region, ↓code_cond, ↓code_ret, aCond_bool, ↓ops_nil, ↓ops_cons, run_none, ↓run0_v, ↓run0_h, ↓run0_r, ↓seqK_normal, ↓retK_ret, put_same, put_ne, put_none, env0_at, ev_tmp, ev_const, oc_nils, o_move, o_assign, o_bin, o_len, o_slice, o_append, g_none, bin_eql, resultsOf, oneOrAll, Option.map_some, Option.map_none, Option.getD_some, decide_eq_true_eq, ↓reduceIte, Nat.reduceEqDiff, not_false_eq_true, reduceCtorEq, List.getElem?_cons_zero, List.getElem?_cons_succ, ne_eq, hlen, o_clear, a1, a2, a3, a4, a5, a6, a7, c1]
  · rw [wcs_del] at a8
    rw [List.length_eraseIdx, if_pos hi]
    exact a8
theorem run39 {I : Nat → Option (List AV → AH → Rs)} (h39 : I 39 = none) (m i : Nat) (v : AV) (ss : List Sv) (h : AH) (hr : RowC 1 h v ss.length (scs ss)) (hi : i < ss.length) (hn : ss.length ≤ 200) :
    ∃ v2 h2, call F I T (m + 1) 39 [v, .int .i64 (i : Nat), .int .i64 ((i + 1 : Nat) : Int)] h = some (v2, h2) ∧ RowC 1 h2 v2 (ss.eraseIdx i).length (scs (ss.eraseIdx i)) ∧ h2.next = h.next ∧ (∀ c, offRow v c → h2.get c = h.get c) ∧ (∀ b o l k z x, v2 = .sl b o l k z x → ∃ o l k z x, v = .sl b o l k z x) := by
  have hlen : ∀ h, aLen T 71 v h = some (.int .i64 (ss.length : Nat)) := fun h => hr.len T71 d71
  obtain ⟨x13, v22, v25, v26, h1, x31, h2, a1, a2, a3, a4, a5, a6, a7, a8, a9, a10, a11⟩ := del_facts T71 d71 T82 s82 (by decide) (by rw [z82]; rfl) (by rw [z82]; rfl) hr (scs_one ss) hi
  have c1 : ¬ ((i : Int) = ((i + 1 : Nat) : Int)) := by omega
  refine ⟨v26, h2, ?_, ?_, a9, a10, a11⟩
  · rw [call_F (by decide) h39 F39 rfl R39]; simp only [Tryd.f39, Option.getD]
    simp +contextual (maxSteps := 3000000) only [↓code_skip, ↓code_seq, ↓code_region, ↓code_cond, ↓code_ret, aCond_bool, ↓ops_nil, ↓ops_cons, run_none, ↓run0_v, ↓run0_h, ↓run0_r, ↓seqK_normal, ↓retK_ret, put_same, put_ne, put_none, env0_at, ev_tmp, ev_const, oc_nils, o_move, o_assign, o_bin, o_len, o_slice, o_append, g_none, bin_eql, resultsOf, oneOrAll, Option.map_some, Option.map_none, Option.getD_some, decide_eq_true_eq, ↓reduceIte, Nat.reduceEqDiff, not_false_eq_true, reduceCtorEq, List.getElem?_cons_zero, List.getElem?_cons_succ, ne_eq, hlen, o_clear, a1, a2, a3, a4, a5, a6, a7, c1]
  · rw [scs_del] at a8
    rw [List.length_eraseIdx, if_pos hi]
    exact a8
end Go.AM.X
