/- Tables of routes: a deed done to both. Own work. -/
import Derived.Test.YtekoffjfbjonmaaRtgI
namespace Go.AM.X
open Go Go.AM Go.Proofs Go.AM.Sx
set_option maxHeartbeats 3200000
set_option maxRecDepth 100000
set_option linter.unusedVariables false
theorem F27 : F 27 = some { body := (Try.f27.body.getD .skip), results := Try.f27.results.toList, rf := false } := by kernel_rfl
theorem R27 : regsOk T (Try.f27.body.getD .skip) = true := by kernel_rfl
theorem F16 : F 16 = some { body := (Try.f16.body.getD .skip), results := Try.f16.results.toList, rf := false } := by kernel_rfl
theorem R16 : regsOk T (Try.f16.body.getD .skip) = true := by kernel_rfl
theorem F24 : F 24 = some { body := (Try.f24.body.getD .skip), results := Try.f24.results.toList, rf := false } := by kernel_rfl
theorem R24 : regsOk T (Try.f24.body.getD .skip) = true := by kernel_rfl
theorem F29 : F 29 = some { body := (Try.f29.body.getD .skip), results := Try.f29.results.toList, rf := false } := by kernel_rfl
/-- A deed. -/
structure Ac where
  dd : Int
  po : Int
  fr : Int
  tu : List Tp
def Ac.av (a : Ac) : List AV := [.int .i64 a.dd, .int .i64 a.po, .int .i64 a.fr, .lst false 3 a.tu.length (fl Tp.av a.tu)]
theorem Ac.len (a : Ac) : a.av.length = 4 := rfl
/-- Both tables, as a deed finds and leaves them. -/
def Two (h : AH) (t r : Nat) (ps : List Pt) (es rs : List E6) : Prop := ∃ oP oD, TbV true h t ps es oP ∧ TbV false h r ps rs oD ∧ Apt oP oD ∧ Alike ps es rs
theorem Two.grow {h h2 : AH} {t r : Nat} {ps : List Pt} {es rs : List E6} (hT : Two h t r ps es rs) (hg : Grow h h2) : Two h2 t r ps es rs := by
  obtain ⟨oP, oD, h1, h2, h3, h4⟩ := hT
  exact ⟨oP, oD, h1.grow hg, h2.grow hg, h3, h4⟩
theorem loadA {l : List Ac} {i : Nat} {a : Ac} (hx : l[i]? = some a) : ∃ pl, aIndexAddr T 45 (.lst false 4 l.length (fl Ac.av l)) (.int .i64 (i : Nat)) = some (.fp pl) ∧ (∀ h, aLoad T 55 (.fp pl) h = some (.agg [.int .i64 a.dd, .int .i64 a.po, .int .i64 a.fr, .lst false 3 a.tu.length (fl Tp.av a.tu)])) ∧ 4 ≤ pl.length ∧ pl[3]? = some (.lst false 3 a.tu.length (fl Tp.av a.tu)) := by
  have hi := (List.getElem?_eq_some_iff.1 hx).1
  have h1 := fl_at Ac.av 4 Ac.len hx []
  rw [List.append_nil] at h1
  have hlt : (i + 1) * 4 ≤ l.length * 4 := Nat.mul_le_mul_right _ hi
  have h2 : 4 ≤ ((fl Ac.av l).drop (i * 4)).length := by rw [List.length_drop, fl_len Ac.av 4 Ac.len]; omega
  refine ⟨(fl Ac.av l).drop (i * 4), ?_, fun h => ?_, h2, ?_⟩
  · rw [ia_lst T45 d45 T55 s55, if_pos ⟨by omega, by omega⟩]; simp
  · simp only [aLoad, T55, a55, s55]
    rw [if_pos h2, h1]; rfl
  · have := congrArg (fun l => l[3]?) h1
    simp only [List.getElem?_take] at this
    rw [if_pos (by decide)] at this
    exact this
theorem sameL_tp : ∀ l : List Tp, sameL (fl Tp.av l) (fl Tp.av l) = true
  | [] => rfl
  | x :: l => by
    have h := sameL_tp l
    unfold fl at h ⊢
    rw [List.flatMap_cons]
    simp [Tp.av, sameL, same_int, h]
theorem run29 {I : Nat → Option (List AV → AH → Rs)} (h53 : I 53 = none) (h104 : I 104 = none) (h88 : I 88 = none) (h108 : I 108 = some (srtG 109)) (h114 : I 114 = none) (h110 : I 110 = none) (h109 : I 109 = none) (h96 : I 96 = none) (h60 : I 60 = none) (h71 : I 71 = none) (h103 : I 103 = none) (h86 : I 86 = none) (h47 : I 47 = none) (h48 : I 48 = none) (h106 : I 106 = none) (h90 : I 90 = none) (h49 : I 49 = none) (h91 : I 91 = none) (h50 : I 50 = none) (h98 : I 98 = none) (h99 : I 99 = none) (h68 : I 68 = none) (h97 : I 97 = none) (h67 : I 67 = none) (h111 : I 111 = none) (h100 : I 100 = none) (h69 : I 69 = none) (h70 : I 70 = none) (h29 : I 29 = none) (h56 : I 56 = none) (h87 : I 87 = none) (h89 : I 89 = none) (h95 : I 95 = none) (h105 : I 105 = none) (h107 : I 107 = none) (m t r : Nat) (a : Ac) (ps : List Pt) (es rs : List E6) (h : AH) (hT : Two h t r ps es rs) (hn : es.length + a.tu.length ≤ m ∧ es.length + a.tu.length ≤ 10000000) :
    ∃ h2 ps2 es2 rs2, call F I T (m + 200) 29 [.ptr t 0, .ptr r 0, .agg [.int .i64 a.dd, .int .i64 a.po, .int .i64 a.fr, .lst false 3 a.tu.length (fl Tp.av a.tu)]] h = some (.bool true, h2) ∧ Two h2 t r ps2 es2 rs2 ∧ es2.length ≤ es.length + a.tu.length + 1 := by
  obtain ⟨oP, oD, hP, hD, hA, hal⟩ := hT
  obtain ⟨h0, hh0⟩ : ∃ h0, h0 = h.alloc (.cells [.int .i64 a.dd, .int .i64 a.po, .int .i64 a.fr, .lst false 3 a.tu.length (fl Tp.av a.tu)] .own) := ⟨_, rfl⟩
  have g0 : Grow h h0 := by rw [hh0]; exact Grow.alloc _ _
  have n0 : h0.next = h.next + 1 := by rw [hh0]; rfl
  have k0 : h0.get h.next = some (.cells [.int .i64 a.dd, .int .i64 a.po, .int .i64 a.fr, .lst false 3 a.tu.length (fl Tp.av a.tu)] .own) := by rw [hh0, AH.get_alloc, if_pos rfl]
  have bP : oP h.next := hP.off_ge (Nat.le_refl _)
  have hP0 := hP.grow g0
  have hD0 := hD.grow g0
  have hrl : rs.length = es.length := hal.p.length_eq.symm
  have hpl := hal.t.l
  by_cases c0 : a.dd = 0
  · obtain ⟨h1, oP1, q1, q2, q3⟩ := run47 h53 h104 h88 h108 h114 h110 h109 h96 h60 h71 h103 h86 h47 h56 h95 h87 (m + 119) t a.po a.fr ps es oP h0 hP0 ⟨by omega, by omega⟩ hpl
    obtain ⟨hD1, hA1⟩ := hD0.other hA q3
    obtain ⟨h2, oD2, r1, r2, r3⟩ := run67 h98 h99 h68 h97 h67 (m + 119) r a.po a.fr ps rs oD h1 hD1 ⟨by omega, by omega⟩ hpl
    obtain ⟨hP2, hA2⟩ := q2.other hA1.symm r3
    obtain ⟨x1, x2, x3, x4⟩ := hal.addPort a.po a.fr
    have k1 : h1.get h.next = some (.cells [.int .i64 a.dd, .int .i64 a.po, .int .i64 a.fr, .lst false 3 a.tu.length (fl Tp.av a.tu)] .own) := by rw [(q3.2 _ (by omega) bP).1]; exact k0
    rw [x1, x2] at q1
    rw [← x3] at r2
    refine ⟨h2, _, _, _, ?_, ⟨oP1, oD2, hP2, r2, hA2.symm, x4⟩, ?_⟩
    · rw [call_code (by decide) h29 F29 rfl]; simp only [Try.f29, Option.getD]
      simp +contextual (maxSteps := 3000000) only [aCond_bool, ↓ops_nil, ↓ops_cons, run_none, run_someT, ↓run0_v, ↓run0_r, ↓seqK_normal, ↓seqK_ret, ↓blkK_ret, ↓retK_ret, put_same, put_ne, env0_at, ev_tmp, ev_const, ev_func, oc_int, oc_bool, o_move, o_assign, o_pick, o_bin, o_call, o_box, o_load, o_fieldAddr, o_extract, g_none, g_some, pick_bool, bin_eql, extract_tup, resultsOf, oneOrAll, Option.bind_some, Option.map_some, Option.getD_some, ↓reduceIte, Nat.reduceEqDiff, not_false_eq_true, Nat.reduceAdd, reduceCtorEq, List.getElem?_cons_zero, List.getElem?_cons_succ, List.getElem?_toArray, List.map_cons, List.map_nil, List.append_nil, List.nil_append, ne_eq, ↓cd_seq, ↓cd_region, ↓cd_cond, ↓cd_block, ↓cd_ret, box_agg, fa_ptr T55 p55_0 (by decide), load_p1 T3 a3, loadc_def, fa_ptr T55 p55_1 (by decide), fa_ptr T55 p55_2 (by decide), ← hh0, k0, eq_true c0, decide_true, q1, k1, r1, callV_fn (g := 47) (by decide), callV_fn (g := 67) (by decide)]
    · unfold addPortR
      repeat' split
      all_goals simp only
      · omega
      · omega
      · rw [sorted6_len]; unfold raiseE; rw [List.length_append]
        have := List.length_filter_le (fun e : E6 => !mt e.lo e.hi a.po a.fr) es
        simp; omega
  by_cases c3 : a.dd = 1 ∨ a.dd = 2
  · obtain ⟨up, hup⟩ : ∃ up, up = decide (a.dd = 1) := ⟨_, rfl⟩
    obtain ⟨h1, oP1, q1, q2, q3⟩ := run48 h104 h88 h108 h114 h110 h109 h96 h60 h71 h48 h56 h95 h89 (m + 119) t a.po up ps es oP h0 hP0 ⟨by omega, by omega⟩ (by omega)
    obtain ⟨hD1, hA1⟩ := hD0.other hA q3
    obtain ⟨h2, oD2, r1, r2, r3⟩ := run68 h98 h99 h68 (m + 159) r a.po up ps rs oD h1 hD1 ⟨by omega, by omega⟩ (by omega)
    obtain ⟨hP2, hA2⟩ := q2.other hA1.symm r3
    obtain ⟨x1, x3, x4⟩ := hal.port a.po up
    have k1 : h1.get h.next = some (.cells [.int .i64 a.dd, .int .i64 a.po, .int .i64 a.fr, .lst false 3 a.tu.length (fl Tp.av a.tu)] .own) := by rw [(q3.2 _ (by omega) bP).1]; exact k0
    rw [x1] at q1
    rw [← x3] at r2
    refine ⟨h2, _, _, _, ?_, ⟨oP1, oD2, hP2, r2, hA2.symm, x4⟩, ?_⟩
    · rcases c3 with c1 | c2
      · rw [decide_eq_true c1] at hup
        subst hup
        rw [call_code (by decide) h29 F29 rfl]; simp only [Try.f29, Option.getD]
        simp +contextual (maxSteps := 3000000) only [aCond_bool, ↓ops_nil, ↓ops_cons, run_none, ↓run0_v, ↓run0_r, ↓seqK_normal, put_same, put_ne, env0_at, ev_tmp, ev_const, oc_int, oc_bool, o_assign, o_bin, o_box, o_load, o_fieldAddr, g_none, bin_eql, Option.getD_some, decide_eq_true_eq, ↓reduceIte, Nat.reduceEqDiff, not_false_eq_true, Nat.reduceAdd, List.getElem?_cons_zero, List.getElem?_cons_succ, ne_eq, ↓cd_skip, ↓cd_seq, ↓cd_region, ↓cd_cond, ↓cd_block, box_agg, fa_ptr T55 p55_0 (by decide), load_p1 T3 a3, loadc_def, ← hh0, k0, c0, eq_true c1]
        rw [code_soft (ss := [(9, 0, 13), (11, 0, 13)]) (by kernel_rfl) (by kernel_rfl) (by simp)]
        simp +contextual (maxSteps := 3000000) only [run_none, ↓run0_v, ↓run0_r, ↓seqK_normal, ↓seqK_ret, ↓blkK_ret, ↓retK_ret, put_same, put_ne, env0_at, ev_tmp, ev_const, ev_func, oc_int, o_move, o_assign, o_bin, o_call, o_load, o_fieldAddr, g_none, bin_eql, resultsOf, oneOrAll, Option.map_some, Option.getD_some, Nat.reduceEqDiff, not_false_eq_true, Nat.reduceAdd, reduceCtorEq, List.getElem?_cons_zero, List.getElem?_cons_succ, List.map_cons, List.map_nil, List.append_nil, List.nil_append, List.cons_append, ne_eq, ↓cd_ret, fa_ptr T55 p55_0 (by decide), load_p1 T3 a3, loadc_def, fa_ptr T55 p55_1 (by decide), opsTr_nil, opsTr_cons, k0, eq_true c1, decide_true, q1, k1, r1, callV_fn (g := 48) (by decide), callV_fn (g := 68) (by decide)]
        refine soft_Q (fun r => r = some (.bool true, h2)) ?_ ?_
        rotate_left
        · simp +contextual (maxSteps := 3000000) only [run_none, ↓run0_v, put_same, ev_tmp, o_load, g_none, Nat.reduceAdd, List.getElem?_cons_zero, List.getElem?_cons_succ, List.getElem?_toArray, load_p1 T3 a3, loadc_def, softOk, sameAt, stepV, same_int, Bool.and_true, k0, k1]
        rfl
      · have c1 : ¬ a.dd = 1 := by omega
        rw [decide_eq_false c1] at hup
        subst hup
        rw [call_code (by decide) h29 F29 rfl]; simp only [Try.f29, Option.getD]
        simp +contextual (maxSteps := 3000000) only [aCond_bool, ↓ops_nil, ↓ops_cons, run_none, ↓run0_v, ↓run0_r, ↓seqK_normal, put_same, put_ne, env0_at, ev_tmp, ev_const, oc_int, oc_bool, o_assign, o_bin, o_box, o_load, o_fieldAddr, g_none, bin_eql, Option.getD_some, decide_eq_true_eq, ↓reduceIte, Nat.reduceEqDiff, not_false_eq_true, Nat.reduceAdd, List.getElem?_cons_zero, List.getElem?_cons_succ, ne_eq, ↓cd_seq, ↓cd_region, ↓cd_cond, ↓cd_block, box_agg, fa_ptr T55 p55_0 (by decide), load_p1 T3 a3, loadc_def, ← hh0, k0, c0, c1, eq_true c2]
        rw [code_soft (ss := [(9, 0, 13), (11, 0, 13)]) (by kernel_rfl) (by kernel_rfl) (by simp)]
        simp +contextual (maxSteps := 3000000) only [run_none, ↓run0_v, ↓run0_r, ↓seqK_normal, ↓seqK_ret, ↓blkK_ret, ↓retK_ret, put_same, put_ne, env0_at, ev_tmp, ev_const, ev_func, oc_int, o_move, o_assign, o_bin, o_call, o_load, o_fieldAddr, g_none, bin_eql, resultsOf, oneOrAll, Option.map_some, Option.getD_some, Nat.reduceEqDiff, not_false_eq_true, Nat.reduceAdd, reduceCtorEq, List.getElem?_cons_zero, List.getElem?_cons_succ, List.map_cons, List.map_nil, List.append_nil, List.nil_append, List.cons_append, ne_eq, ↓cd_ret, fa_ptr T55 p55_0 (by decide), load_p1 T3 a3, loadc_def, fa_ptr T55 p55_1 (by decide), opsTr_nil, opsTr_cons, k0, c1, decide_false, q1, k1, r1, callV_fn (g := 48) (by decide), callV_fn (g := 68) (by decide)]
        refine soft_Q (fun r => r = some (.bool true, h2)) ?_ ?_
        rotate_left
        · simp +contextual (maxSteps := 3000000) only [run_none, ↓run0_v, put_same, ev_tmp, o_load, g_none, Nat.reduceAdd, List.getElem?_cons_zero, List.getElem?_cons_succ, List.getElem?_toArray, load_p1 T3 a3, loadc_def, softOk, sameAt, stepV, same_int, Bool.and_true, k0, k1]
        rfl
    · unfold portR
      repeat' split
      all_goals simp only
      all_goals first | omega | (rw [sorted6_len]; unfold raiseE; rw [List.length_append]; have := List.length_filter_le (fun e : E6 => !mt e.lo e.hi ‹Pt›.lo ‹Pt›.hi) es; simp; omega) | (have := List.length_filter_le (fun e : E6 => !decide (e.po = a.po)) es; omega)
  have c1 : ¬ a.dd = 1 := fun g => c3 (.inl g)
  have c2 : ¬ a.dd = 2 := fun g => c3 (.inr g)
  by_cases c4 : a.dd = 3
  · obtain ⟨h1, oP1, q1, q2, q3⟩ := run49 h71 h53 h108 h114 h110 h109 h96 h104 h106 h90 h49 h105 h56 h107 (m + 109) t a.po a.fr a.tu _ ps es oP h0 hP0 ⟨by omega, by omega⟩ (by omega) (RdT.lst _ _ _)
    obtain ⟨hD1, hA1⟩ := hD0.other hA q3
    obtain ⟨h2, oD2, r1, r2, r3⟩ := run69 h97 h98 h111 h100 h69 (m + 139) r a.po a.fr a.tu _ ps rs oD h1 hD1 ⟨by omega, by omega⟩ (by omega) (RdT.lst _ _ _)
    obtain ⟨hP2, hA2⟩ := q2.other hA1.symm r3
    obtain ⟨x1, x4⟩ := hal.hearR a.po a.fr a.tu
    have k1 : h1.get h.next = some (.cells [.int .i64 a.dd, .int .i64 a.po, .int .i64 a.fr, .lst false 3 a.tu.length (fl Tp.av a.tu)] .own) := by rw [(q3.2 _ (by omega) bP).1]; exact k0
    rw [x1] at q1
    refine ⟨h2, _, _, _, ?_, ⟨oP1, oD2, hP2, r2, hA2.symm, x4⟩, ?_⟩
    · rw [call_code (by decide) h29 F29 rfl]; simp only [Try.f29, Option.getD]
      simp +contextual (maxSteps := 3000000) only [aCond_bool, ↓ops_nil, ↓ops_cons, run_none, ↓run0_v, ↓run0_r, ↓seqK_normal, put_same, put_ne, env0_at, ev_tmp, ev_const, oc_int, oc_bool, o_assign, o_bin, o_box, o_load, o_fieldAddr, g_none, bin_eql, Option.getD_some, decide_eq_true_eq, ↓reduceIte, Nat.reduceEqDiff, not_false_eq_true, Nat.reduceAdd, List.getElem?_cons_zero, List.getElem?_cons_succ, ne_eq, ↓cd_seq, ↓cd_region, ↓cd_cond, ↓cd_block, box_agg, fa_ptr T55 p55_0 (by decide), load_p1 T3 a3, loadc_def, ← hh0, k0, c0, c1, c2, eq_true c4]
      rw [code_soft (ss := [(10, 0, 15), (12, 0, 15), (14, 0, 15)]) (by kernel_rfl) (by kernel_rfl) (by simp)]
      simp +contextual (maxSteps := 3000000) only [run_none, ↓run0_v, ↓run0_r, ↓seqK_normal, ↓seqK_ret, ↓blkK_ret, ↓retK_ret, put_same, put_ne, env0_at, ev_tmp, ev_func, o_move, o_assign, o_bin, o_call, o_load, o_fieldAddr, g_none, bin_eql, resultsOf, oneOrAll, Option.map_some, Option.getD_some, Nat.reduceEqDiff, not_false_eq_true, Nat.reduceAdd, reduceCtorEq, List.getElem?_cons_zero, List.getElem?_cons_succ, List.map_cons, List.map_nil, List.append_nil, List.nil_append, List.cons_append, ne_eq, ↓cd_ret, load_p1 T3 a3, loadc_def, fa_ptr T55 p55_1 (by decide), fa_ptr T55 p55_2 (by decide), fa_ptr T55 p55_3 (by decide), load_p1 T22 a22, opsTr_nil, opsTr_cons, k0, decide_true, q1, k1, r1, callV_fn (g := 49) (by decide), callV_fn (g := 69) (by decide)]
      refine soft_Q (fun r => r = some (.bool true, h2)) ?_ ?_
      rotate_left
      · simp +contextual (maxSteps := 3000000) only [run_none, ↓run0_v, put_same, ev_tmp, o_load, g_none, Nat.reduceAdd, List.getElem?_cons_zero, List.getElem?_cons_succ, List.getElem?_toArray, load_p1 T3 a3, loadc_def, load_p1 T22 a22, softOk, sameAt, stepV, same_int, Bool.and_true, k0, same_lst (sameL_tp a.tu), k1]
      rfl
    · unfold hearR
      repeat' split
      all_goals simp only
      all_goals first | omega | (have := hearL_len a.po a.fr a.tu es; omega)
  have hst : ∀ e ∈ es, 0 ≤ e.st ∧ e.st ≤ 100 := fun e he => by have := (hal.t.e e he).s; omega
  obtain ⟨h1, oD1, r1, r2, r3⟩ := run70 h70 (m + 179) r ps rs oD h0 hD0 ⟨by omega, by omega⟩ (fun e he => hst e (hal.p.mem_iff.2 he))
  obtain ⟨hP1, hA1⟩ := hP0.other hA.symm r3
  obtain ⟨h2, oP2, q1, q2, q3⟩ := run50 h71 h104 h88 h91 h50 (m + 119) t ps es oP h1 hP1 ⟨by omega, by omega⟩ hst
  obtain ⟨hD2, hA2⟩ := r2.other hA1.symm q3
  refine ⟨h2, _, _, _, ?_, ⟨oP2, oD1, q2, hD2, hA2, hal.tick⟩, ?_⟩
  · rw [call_code (by decide) h29 F29 rfl]; simp only [Try.f29, Option.getD]
    simp +contextual (maxSteps := 3000000) only [aCond_bool, ↓ops_nil, ↓ops_cons, run_none, ↓run0_v, ↓run0_r, ↓seqK_normal, ↓blkK_normal, ↓retK_ret, put_same, put_ne, env0_at, ev_tmp, ev_const, ev_func, oc_int, oc_bool, o_move, o_assign, o_bin, o_call, o_box, o_load, o_fieldAddr, g_none, bin_eql, resultsOf, oneOrAll, Option.map_some, Option.getD_some, decide_eq_true_eq, ↓reduceIte, Nat.reduceEqDiff, not_false_eq_true, Nat.reduceAdd, reduceCtorEq, List.getElem?_cons_zero, List.getElem?_cons_succ, List.map_cons, List.map_nil, List.append_nil, List.nil_append, ne_eq, ↓cd_skip, ↓cd_seq, ↓cd_region, ↓cd_cond, ↓cd_block, ↓cd_ret, box_agg, fa_ptr T55 p55_0 (by decide), load_p1 T3 a3, loadc_def, ← hh0, k0, c0, c1, c2, c4, decide_true, r1, q1, callV_fn (g := 70) (by decide), callV_fn (g := 50) (by decide)]
  · unfold tickE
    have := List.length_filter_le (fun e : E6 => !decide (4 ≤ e.st)) (es.map older)
    rw [List.length_map] at this
    omega
end Go.AM.X
namespace Go.AM.X
open Go Go.AM Go.Proofs Go.AM.Sx
set_option maxHeartbeats 3200000
set_option maxRecDepth 100000
set_option linter.unusedVariables false
def longL (l : List Ac) : Bool := l.any (fun a => decide (80 < a.tu.length)) || decide (120 < l.length)
theorem run27 {I : Nat → Option (List AV → AH → Rs)} (h27 : I 27 = none) (m : Nat) (l : List Ac) (h : AH) (hl : l.length ≤ m ∧ l.length < 140737488355328) : call F I T (m + 20) 27 [.lst false 4 l.length (fl Ac.av l)] h = some (.bool (longL l), h) := by
  have hlen : ∀ h, aLen T 45 (.lst false 4 l.length (fl Ac.av l)) h = some (.int .i64 (l.length : Nat)) := fun h => by simp [aLen, T45, d45]
  obtain ⟨V, hV⟩ : ∃ V, V = AV.lst false 4 l.length (fl Ac.av l) := ⟨_, rfl⟩
  rw [← hV] at hlen ⊢
  rw [call_F (by decide) h27 F27 rfl R27]; simp only [Try.f27, Option.getD]
  simp +contextual (maxSteps := 3000000) only [↓code_seq, ↓code_region, ↓code_block, ↓code_loop, ↓ops_nil, ↓ops_cons, run_none, ↓run0_v, ↓seqK_normal, ev_const, oc_int, oc_bool, o_assign, g_none]
  refine iterL_wp (Q := fun r => r = some (.bool (longL l), h)) (N := l.length) (Inv := fun k e h' => ∃ i, k + i = l.length ∧ h' = h ∧ (l.take i).any (fun a => decide (80 < a.tu.length)) = false ∧ i ≤ l.length ∧ e 0 = V ∧ e 2 = .bool false ∧ e 3 = .int .i64 (i : Nat)) ?_ ?_ (by omega)
  · rintro k e h' K' ⟨i, hk, hh, hany, hil, e0, e2, e3⟩ hnext hexit
    subst hh
    by_cases hi : i < l.length
    · have c1 : (i : Int) < (l.length : Int) := by omega
      obtain ⟨a, ha⟩ : ∃ a, l[i]? = some a := ⟨l[i], List.getElem?_eq_getElem hi⟩
      obtain ⟨pl, g1, g2, g3, g4⟩ := loadA ha
      rw [← hV] at g1
      have g5 : ¬ pl.length < 3 := by omega
      have g6 : (pl.drop 3)[0]? = some (.lst false 3 a.tu.length (fl Tp.av a.tu)) := by rw [List.getElem?_drop]; exact g4
      have g7 : ∀ h, aLen T 22 (.lst false 3 a.tu.length (fl Tp.av a.tu)) h = some (.int .i64 (a.tu.length : Nat)) := fun h => by simp [aLen, T22, d22]
      have c7 : IntKind.i64.wrap ((i : Int) + 1) = ((i + 1 : Nat) : Int) := by rw [wrap_i64 (by omega) (by omega)]; rfl
      by_cases c2 : (80 : Int) < (a.tu.length : Int)
      · have hL : longL l = true := by unfold longL; rw [List.any_eq_true.2 ⟨a, List.mem_of_getElem? ha, by simp; omega⟩]; rfl
        simp +contextual (maxSteps := 3000000) only [↓code_skip, ↓code_seq, ↓code_region, ↓code_cond, ↓code_block, ↓code_ret, aCond_bool, ↓ops_nil, ↓ops_cons, run_none, ↓run0_v, ↓seqK_normal, ↓seqK_ret, ↓blkK_ret, put_same, put_ne, ev_tmp, ev_const, oc_int, oc_bool, o_move, o_assign, o_bin, o_len, o_load, o_fieldAddr, o_indexAddr, g_none, bin_lss, bin_gtr, decide_eq_true_eq, ↓reduceIte, Nat.reduceEqDiff, not_false_eq_true, reduceCtorEq, gt_iff_lt, ne_eq, fa_fp T55 p55_3 (by decide), load_fp1 T22 a22, len_lst T22 d22, e0, e3, c1, hlen, g1, g5, g6, c2]
        refine hexit _ _ _ (by simp) ?_
        simp +contextual (maxSteps := 3000000) only [↓seqK_ret, ↓blkK_ret, ↓retK_ret, put_same, resultsOf, oneOrAll, Option.map_some, hL]
      · simp +contextual (maxSteps := 3000000) only [↓code_skip, ↓code_seq, ↓code_region, ↓code_cond, ↓code_block, aCond_bool, ↓ops_nil, ↓ops_cons, run_none, ↓run0_v, ↓seqK_normal, ↓blkK_normal, put_same, put_ne, ev_tmp, ev_const, oc_int, o_move, o_assign, o_bin, o_len, o_load, o_fieldAddr, o_indexAddr, g_none, bin_add, bin_lss, bin_gtr, decide_eq_true_eq, ↓reduceIte, Nat.reduceEqDiff, not_false_eq_true, reduceCtorEq, gt_iff_lt, ne_eq, fa_fp T55 p55_3 (by decide), load_fp1 T22 a22, len_lst T22 d22, e0, e3, c1, hlen, g1, g5, g6, c2, c7]
        refine hnext (k - 1) _ _ (by omega) ⟨i + 1, by omega, ?_, ?_, ?_, ?_, ?_, ?_⟩
        · rfl
        · (rw [List.take_add_one, ha, List.any_append, hany]; simp; omega)
        · omega
        · simp only [put_ne, not_false_eq_true, reduceCtorEq, ne_eq, e0]
        · simp only [put_ne, Nat.reduceEqDiff, not_false_eq_true, ne_eq, e2]
        · simp only [put_same]
    · have c1 : ¬ (i : Int) < (l.length : Int) := by omega
      rw [List.take_of_length_le (by omega)] at hany
      have hL : longL l = decide ((120 : Int) < (l.length : Int)) := by unfold longL; rw [hany, Bool.false_or]; exact decide_eq_decide.2 (by omega)
      simp +contextual (maxSteps := 3000000) only [↓code_seq, ↓code_region, ↓code_cond, ↓code_exit, aCond_bool, ↓ops_nil, ↓ops_cons, run_none, ↓run0_v, ↓seqK_normal, ↓seqK_exit, put_same, put_ne, ev_tmp, o_move, o_bin, o_len, g_none, bin_lss, decide_eq_true_eq, ↓reduceIte, Nat.reduceEqDiff, not_false_eq_true, reduceCtorEq, ne_eq, e0, e3, c1, hlen]
      refine hexit _ _ _ (by simp) ?_
      simp +contextual (maxSteps := 3000000) only [↓code_seq, ↓code_region, ↓code_ret, ↓ops_nil, ↓ops_cons, run_none, ↓run0_v, ↓seqK_normal, ↓blkK_exit, ↓retK_ret, put_same, put_ne, ev_tmp, ev_const, oc_int, o_move, o_assign, o_bin, o_len, g_none, bin_gtr, resultsOf, oneOrAll, Option.map_some, ↓reduceIte, not_false_eq_true, reduceCtorEq, gt_iff_lt, ne_eq, e0, hlen, hL]
  · refine ⟨0, by omega, ?_, ?_, ?_, ?_, ?_, ?_⟩
    · rfl
    · rfl
    · omega
    · simp only [put_ne, env0_at, Option.getD_some, not_false_eq_true, reduceCtorEq, List.getElem?_cons_zero, ne_eq]
    · simp only [put_same, put_ne, Nat.reduceEqDiff, not_false_eq_true, ne_eq]
    · simp only [put_same]; rfl
noncomputable def g13 : List AV → Option AV
  | [] => some (.bool true)
  | _ => none
theorem K13 {I : Nat → Option (List AV → AH → Rs)} (h13 : I 13 = some (pureG g13)) (m : Nat) (h : AH) : call F I T (m + 1) 13 [] h = some (.bool true, h) := by
  rw [call_I (by decide) h13]; simp [pureG, flatL, g13]
theorem st_neq {t : Nat} {ti : TI} {xs ys : List AV} {b : Bool} {h : AH} {fs : Array Field} (ht : T t = some ti) (hd : ti.desc = .struct fs) (h1 : conf ti.eqk xs = true) (h2 : conf ti.eqk ys = true) (h3 : ti.eqk.isEmpty = false) (he : eqCells xs ys = b) :
    aBin T .neq t (.agg xs) (.agg ys) h = some (.bool (!b)) := by simp [aBin, eqV, ht, hd, h1, h2, h3, he]
theorem conf60 (e : E6) : conf tt60.eqk e.av = true := by kernel_rfl
theorem conf62 (e : Tp) : conf tt62.eqk e.av = true := by kernel_rfl
theorem eqk60 : tt60.eqk.isEmpty = false := by kernel_rfl
theorem eqk62 : tt62.eqk.isEmpty = false := by kernel_rfl
theorem eqc60 (e : E6) : eqCells e.av e.av = true := by simp [E6.av, E6.ints, eqCells]
theorem eqc62 (e : Tp) : eqCells e.av e.av = true := by simp [Tp.av, eqCells]
theorem neq60 (e : E6) (h : AH) : aBin T .neq 60 (.agg [.int .i64 e.lo, .int .i64 e.hi, .int .i64 e.di, .int .i64 e.po, .int .i64 e.nx, .int .i64 e.st]) (.agg [.int .i64 e.lo, .int .i64 e.hi, .int .i64 e.di, .int .i64 e.po, .int .i64 e.nx, .int .i64 e.st]) h = some (.bool false) := by
  exact st_neq T60 d60 (conf60 e) (conf60 e) eqk60 (eqc60 e)
theorem neq62 (e : Tp) (h : AH) : aBin T .neq 62 (.agg [.int .i64 e.lo, .int .i64 e.hi, .int .i64 e.di]) (.agg [.int .i64 e.lo, .int .i64 e.hi, .int .i64 e.di]) h = some (.bool false) := by
  exact st_neq T62 d62 (conf62 e) (conf62 e) eqk62 (eqc62 e)
theorem run16 {I : Nat → Option (List AV → AH → Rs)} (h16 : I 16 = none) (m : Nat) (v w : AV) (es : List E6) (h : AH) (hv : RowC 6 h v es.length (fl E6.av es)) (hw : RowC 6 h w es.length (fl E6.av es)) (hn : es.length ≤ m ∧ es.length ≤ 100000000) : call F I T (m + 20) 16 [v, w] h = some (.bool true, h) := by
  have l1 : ∀ h, aLen T 36 v h = some (.int .i64 (es.length : Nat)) := fun h => hv.len T36 d36
  have l2 : ∀ h, aLen T 36 w h = some (.int .i64 (es.length : Nat)) := fun h => hw.len T36 d36
  rw [call_F (by decide) h16 F16 rfl R16]; simp only [Try.f16, Option.getD]
  simp +contextual (maxSteps := 3000000) only [↓code_skip, ↓code_seq, ↓code_region, ↓code_cond, ↓code_block, ↓code_loop, aCond_bool, ↓ops_nil, ↓ops_cons, run_none, ↓run0_v, ↓seqK_normal, put_same, put_ne, env0_at, ev_tmp, ev_const, oc_int, oc_bool, o_move, o_assign, o_bin, o_len, g_none, bin_neq, Option.getD_some, ↓reduceIte, Nat.reduceEqDiff, not_false_eq_true, reduceCtorEq, List.getElem?_cons_zero, List.getElem?_cons_succ, Bool.false_eq_true, Bool.not_true, ne_eq, l1, l2, decide_true]
  refine iterL_wp (Q := fun r => r = some (.bool true, h)) (N := es.length) (Inv := fun k e h' => ∃ i, k + i = es.length ∧ h' = h ∧ i ≤ es.length ∧ e 0 = v ∧ e 1 = w ∧ e 5 = .int .i64 (i : Nat)) ?_ ?_ (by omega)
  · rintro k e h' K' ⟨i, hk, hh, hil, e0, e1, e5⟩ hnext hexit
    subst hh
    by_cases hi : i < es.length
    · have c1 : (i : Int) < (es.length : Int) := by omega
      obtain ⟨e, he⟩ : ∃ e, es[i]? = some e := ⟨es[i], List.getElem?_eq_getElem hi⟩
      obtain ⟨b1, x1, y1, g1, g2, g3, g4⟩ := loadE hv he
      obtain ⟨b2, x2, y2, q1, q2, q3, q4⟩ := loadE hw he
      have c7 : IntKind.i64.wrap ((i : Int) + 1) = ((i + 1 : Nat) : Int) := by rw [wrap_i64 (by omega) (by omega)]; rfl
      simp +contextual (maxSteps := 3000000) only [↓code_skip, ↓code_seq, ↓code_region, ↓code_cond, ↓code_block, aCond_bool, ↓ops_nil, ↓ops_cons, run_none, ↓run0_v, ↓seqK_normal, ↓blkK_normal, put_same, put_ne, ev_tmp, ev_const, oc_int, o_move, o_assign, o_bin, o_len, o_load, o_indexAddr, g_none, bin_add, bin_lss, Option.map_some, decide_eq_true_eq, ↓reduceIte, Nat.reduceEqDiff, not_false_eq_true, reduceCtorEq, Bool.false_eq_true, ne_eq, load_pA T60 a60, s60, loadn_def, e0, e1, e5, c1, l1, g1, g2, g3, g4, q1, q2, q3, q4, neq60, c7]
      refine hnext (k - 1) _ _ (by omega) ⟨i + 1, by omega, ?_, ?_, ?_, ?_, ?_⟩
      · rfl
      · omega
      · simp only [put_ne, not_false_eq_true, reduceCtorEq, ne_eq, e0]
      · simp only [put_ne, Nat.reduceEqDiff, not_false_eq_true, ne_eq, e1]
      · simp only [put_same]
    · have c1 : ¬ (i : Int) < (es.length : Int) := by omega
      simp +contextual (maxSteps := 3000000) only [↓code_seq, ↓code_region, ↓code_cond, ↓code_exit, aCond_bool, ↓ops_nil, ↓ops_cons, run_none, ↓run0_v, ↓seqK_normal, ↓seqK_exit, put_same, put_ne, ev_tmp, o_move, o_bin, o_len, g_none, bin_lss, decide_eq_true_eq, ↓reduceIte, Nat.reduceEqDiff, not_false_eq_true, reduceCtorEq, ne_eq, e0, e5, c1, l1]
      refine hexit _ _ _ (by simp) ?_
      simp +contextual (maxSteps := 3000000) only [↓code_seq, ↓code_region, ↓code_ret, ↓ops_nil, ↓ops_cons, run_none, ↓run0_v, ↓seqK_normal, ↓blkK_exit, ↓retK_ret, put_same, ev_const, oc_bool, o_assign, g_none, resultsOf, oneOrAll, Option.map_some, ↓reduceIte]
  · refine ⟨0, by omega, ?_, ?_, ?_, ?_, ?_⟩
    · rfl
    · omega
    · simp only [put_ne, env0_at, Option.getD_some, not_false_eq_true, reduceCtorEq, List.getElem?_cons_zero, ne_eq]
    · simp only [put_ne, env0_at, Option.getD_some, Nat.reduceEqDiff, not_false_eq_true, List.getElem?_cons_zero, List.getElem?_cons_succ, ne_eq]
    · simp only [put_same]; rfl
theorem loadT {h : AH} {v : AV} {l : List Tp} {i : Nat} {x : Tp} (hr : RowC 3 h v l.length (fl Tp.av l)) (hx : l[i]? = some x) :
    ∃ b cs kk, aIndexAddr T 22 v (.int .i64 (i : Nat)) = some (.ptr b (i * 3)) ∧ h.get b = some (.cells cs kk) ∧ i * 3 + 3 ≤ cs.length ∧ (cs.drop (i * 3)).take 3 = [.int .i64 x.lo, .int .i64 x.hi, .int .i64 x.di] ∧ cs[i * 3]? = some (.int .i64 x.lo) := by
  obtain ⟨b, cs, kk, h1, h2, h3, h4⟩ := loadR Tp.av 3 Tp.len T22 d22 T62 s62 hr hx
  have w5 := congrArg (fun l => l[0]?) h4
  simp [List.getElem?_drop, Tp.av] at w5
  exact ⟨b, cs, kk, h1, h2, h3, h4, w5⟩
theorem run24 {I : Nat → Option (List AV → AH → Rs)} (h24 : I 24 = none) (m : Nat) (v w : AV) (l : List Tp) (h : AH) (hv : RowC 3 h v l.length (fl Tp.av l)) (hw : RowC 3 h w l.length (fl Tp.av l)) (hn : l.length ≤ m ∧ l.length ≤ 100000000) : call F I T (m + 20) 24 [v, w] h = some (.bool true, h) := by
  have l1 : ∀ h, aLen T 22 v h = some (.int .i64 (l.length : Nat)) := fun h => hv.len T22 d22
  have l2 : ∀ h, aLen T 22 w h = some (.int .i64 (l.length : Nat)) := fun h => hw.len T22 d22
  rw [call_F (by decide) h24 F24 rfl R24]; simp only [Try.f24, Option.getD]
  simp +contextual (maxSteps := 3000000) only [↓code_skip, ↓code_seq, ↓code_region, ↓code_cond, ↓code_block, ↓code_loop, aCond_bool, ↓ops_nil, ↓ops_cons, run_none, ↓run0_v, ↓seqK_normal, put_same, put_ne, env0_at, ev_tmp, ev_const, oc_int, oc_bool, o_move, o_assign, o_bin, o_len, g_none, bin_neq, Option.getD_some, ↓reduceIte, Nat.reduceEqDiff, not_false_eq_true, reduceCtorEq, List.getElem?_cons_zero, List.getElem?_cons_succ, Bool.false_eq_true, Bool.not_true, ne_eq, l1, l2, decide_true]
  refine iterL_wp (Q := fun r => r = some (.bool true, h)) (N := l.length) (Inv := fun k e h' => ∃ i, k + i = l.length ∧ h' = h ∧ i ≤ l.length ∧ e 0 = v ∧ e 1 = w ∧ e 5 = .int .i64 (i : Nat)) ?_ ?_ (by omega)
  · rintro k e h' K' ⟨i, hk, hh, hil, e0, e1, e5⟩ hnext hexit
    subst hh
    by_cases hi : i < l.length
    · have c1 : (i : Int) < (l.length : Int) := by omega
      obtain ⟨e, he⟩ : ∃ e, l[i]? = some e := ⟨l[i], List.getElem?_eq_getElem hi⟩
      obtain ⟨b1, x1, y1, g1, g2, g3, g4, _⟩ := loadT hv he
      obtain ⟨b2, x2, y2, q1, q2, q3, q4, _⟩ := loadT hw he
      have c7 : IntKind.i64.wrap ((i : Int) + 1) = ((i + 1 : Nat) : Int) := by rw [wrap_i64 (by omega) (by omega)]; rfl
      simp +contextual (maxSteps := 3000000) only [↓code_skip, ↓code_seq, ↓code_region, ↓code_cond, ↓code_block, aCond_bool, ↓ops_nil, ↓ops_cons, run_none, ↓run0_v, ↓seqK_normal, ↓blkK_normal, put_same, put_ne, ev_tmp, ev_const, oc_int, o_move, o_assign, o_bin, o_len, o_load, o_indexAddr, g_none, bin_add, bin_lss, Option.map_some, decide_eq_true_eq, ↓reduceIte, Nat.reduceEqDiff, not_false_eq_true, reduceCtorEq, Bool.false_eq_true, ne_eq, load_pA T62 a62, s62, loadn_def, e0, e1, e5, c1, l1, g1, g2, g3, g4, q1, q2, q3, q4, neq62, c7]
      refine hnext (k - 1) _ _ (by omega) ⟨i + 1, by omega, ?_, ?_, ?_, ?_, ?_⟩
      · rfl
      · omega
      · simp only [put_ne, not_false_eq_true, reduceCtorEq, ne_eq, e0]
      · simp only [put_ne, Nat.reduceEqDiff, not_false_eq_true, ne_eq, e1]
      · simp only [put_same]
    · have c1 : ¬ (i : Int) < (l.length : Int) := by omega
      simp +contextual (maxSteps := 3000000) only [↓code_seq, ↓code_region, ↓code_cond, ↓code_exit, aCond_bool, ↓ops_nil, ↓ops_cons, run_none, ↓run0_v, ↓seqK_normal, ↓seqK_exit, put_same, put_ne, ev_tmp, o_move, o_bin, o_len, g_none, bin_lss, decide_eq_true_eq, ↓reduceIte, Nat.reduceEqDiff, not_false_eq_true, reduceCtorEq, ne_eq, e0, e5, c1, l1]
      refine hexit _ _ _ (by simp) ?_
      simp +contextual (maxSteps := 3000000) only [↓code_seq, ↓code_region, ↓code_ret, ↓ops_nil, ↓ops_cons, run_none, ↓run0_v, ↓seqK_normal, ↓blkK_exit, ↓retK_ret, put_same, ev_const, oc_bool, o_assign, g_none, resultsOf, oneOrAll, Option.map_some, ↓reduceIte]
  · refine ⟨0, by omega, ?_, ?_, ?_, ?_, ?_⟩
    · rfl
    · omega
    · simp only [put_ne, env0_at, Option.getD_some, not_false_eq_true, reduceCtorEq, List.getElem?_cons_zero, ne_eq]
    · simp only [put_ne, env0_at, Option.getD_some, Nat.reduceEqDiff, not_false_eq_true, List.getElem?_cons_zero, List.getElem?_cons_succ, ne_eq]
    · simp only [put_same]; rfl
/-- Two new tables. -/
theorem two0 {I : Nat → Option (List AV → AH → Rs)} (h28 : I 28 = none) (m : Nat) (h : AH) : ∃ t h2, call F I T (m + 1) 28 [] h = some (.ptr t 0, h2) ∧ Two (h2.alloc (.cells [.nils, .nils] .own)) t h2.next [] [] [] := by
  obtain ⟨h2, off, k1, k2, k3, k4, k5⟩ := run28 h28 m h
  refine ⟨h.next + 1, h2, k1, off, tOff h2.next .nils .nils, k2.grow (Grow.alloc _ _), ⟨.nils, .nils, ?_, rfl, fun h => by cases h⟩, fun c => ?_, ?_⟩
  · exact { lt := by simp
            g := by rw [AH.get_alloc, if_pos rfl]
            p := RowC.nil _ _
            e := RowC.nil _ _
            tp := fun b o l k z x e => by cases e
            te := fun b o l k z x e => by cases e
            pe := fun b o l k z x e => by cases e }
  · by_cases hc : c = h2.next
    · exact .inl (k2.off_ge (by omega))
    · exact .inr ⟨hc, (fun b o l k z x e => by cases e), fun b o l k z x e => by cases e⟩
  · exact ⟨⟨fun p hp => (by cases hp), Nat.zero_le _, fun e he => (by cases he), List.Pairwise.nil⟩, List.Pairwise.nil, List.Perm.refl _⟩
theorem longL_no {l : List Ac} (h : longL l = false) : l.length ≤ 120 ∧ ∀ a ∈ l, a.tu.length ≤ 80 := by
  unfold longL at h
  simp only [Bool.or_eq_false_iff, decide_eq_false_iff_not, List.any_eq_false, decide_eq_true_eq] at h
  exact ⟨by omega, fun a ha => by have := h.1 a ha; omega⟩
end Go.AM.X
