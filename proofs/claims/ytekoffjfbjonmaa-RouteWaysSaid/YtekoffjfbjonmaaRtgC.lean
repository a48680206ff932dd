/- Tables of routes: ports come, go up and down. Own work. -/
import Derived.Test.YtekoffjfbjonmaaRtgB
namespace Go.AM.X
open Go Go.AM Go.Proofs Go.AM.Sx
set_option maxHeartbeats 3200000
set_option maxRecDepth 100000
set_option linter.unusedVariables false
theorem F47 : F 47 = some { body := (Try.f47.body.getD .skip), results := Try.f47.results.toList, rf := false } := by kernel_rfl
theorem R47 : regsOk T (Try.f47.body.getD .skip) = true := by kernel_rfl
theorem F48 : F 48 = some { body := (Try.f48.body.getD .skip), results := Try.f48.results.toList, rf := false } := by kernel_rfl
theorem R48 : regsOk T (Try.f48.body.getD .skip) = true := by kernel_rfl
theorem run87 {I : Nat → Option (List AV → AH → Rs)} (h56 : I 56 = none) (h87 : I 87 = none) (m k1 k2 : Nat) (lo hi : Int) (p : Pt) (c1 c2 : BK) (h : AH) (g1 : h.get k1 = some (.cells [.int .i64 lo] c1)) (g2 : h.get k2 = some (.cells [.int .i64 hi] c2)) (l1 : k1 < h.next) (l2 : k2 < h.next) :
    call F I T (m + 2) 87 [.agg [.int .i64 p.lo, .int .i64 p.hi, .bool p.up], .ptr k1 0, .ptr k2 0] h = some (.bool (mt lo hi p.lo p.hi), h.alloc (.cells [.int .i64 p.lo, .int .i64 p.hi, .bool p.up] .own)) := by
  obtain ⟨hA, hhA⟩ : ∃ hA, hA = h.alloc (.cells [.int .i64 p.lo, .int .i64 p.hi, .bool p.up] .own) := ⟨_, rfl⟩
  have q1 : hA.get h.next = some (.cells [.int .i64 p.lo, .int .i64 p.hi, .bool p.up] .own) := by rw [hhA, AH.get_alloc, if_pos rfl]
  have q2 : hA.get k1 = some (.cells [.int .i64 lo] c1) := by rw [hhA, AH.get_alloc, if_neg (by omega)]; exact g1
  have q3 : hA.get k2 = some (.cells [.int .i64 hi] c2) := by rw [hhA, AH.get_alloc, if_neg (by omega)]; exact g2
  rw [← hhA]
  rw [call_F (by decide) h87 F87 rfl R87]; simp only [Try.f87, Option.getD]
  simp +contextual (maxSteps := 3000000) only [↓code_seq, ↓code_region, ↓code_ret, ↓ops_nil, ↓ops_cons, run_none, ↓run0_v, ↓run0_r, ↓seqK_normal, ↓retK_ret, put_same, put_ne, env0_at, ev_tmp, ev_const, ev_func, oc_bool, o_assign, o_call, o_box, o_load, o_fieldAddr, g_none, resultsOf, oneOrAll, Option.map_some, Option.getD_some, Nat.reduceEqDiff, not_false_eq_true, List.getElem?_cons_zero, List.getElem?_cons_succ, List.map_cons, List.map_nil, List.append_nil, List.nil_append, ne_eq, box_agg, load_p1 T3 a3, loadc_def, fa_ptr T105 p105_0 (by decide), fa_ptr T105 p105_1 (by decide), callV_fn (g := 56) (by decide), K56 h56, ← hhA, q1, q2, q3, Nat.zero_add, Nat.add_zero]
theorem run89 {I : Nat → Option (List AV → AH → Rs)} (h89 : I 89 = none) (m k : Nat) (n : Int) (e : E6) (kk : BK) (h : AH) (g1 : h.get k = some (.cells [.int .i64 n] kk)) (l1 : k < h.next) :
    call F I T (m + 1) 89 [.agg [.int .i64 e.lo, .int .i64 e.hi, .int .i64 e.di, .int .i64 e.po, .int .i64 e.nx, .int .i64 e.st], .ptr k 0] h = some (.bool (decide (e.po = n)), h.alloc (.cells [.int .i64 e.lo, .int .i64 e.hi, .int .i64 e.di, .int .i64 e.po, .int .i64 e.nx, .int .i64 e.st] .own)) := by
  obtain ⟨hA, hhA⟩ : ∃ hA, hA = h.alloc (.cells [.int .i64 e.lo, .int .i64 e.hi, .int .i64 e.di, .int .i64 e.po, .int .i64 e.nx, .int .i64 e.st] .own) := ⟨_, rfl⟩
  have q1 : hA.get h.next = some (.cells [.int .i64 e.lo, .int .i64 e.hi, .int .i64 e.di, .int .i64 e.po, .int .i64 e.nx, .int .i64 e.st] .own) := by rw [hhA, AH.get_alloc, if_pos rfl]
  have q2 : hA.get k = some (.cells [.int .i64 n] kk) := by rw [hhA, AH.get_alloc, if_neg (by omega)]; exact g1
  rw [← hhA]
  rw [call_F (by decide) h89 F89 rfl R89]; simp only [Try.f89, Option.getD]
  simp +contextual (maxSteps := 3000000) only [↓code_seq, ↓code_region, ↓code_ret, ↓ops_nil, ↓ops_cons, run_none, ↓run0_v, ↓run0_r, ↓seqK_normal, ↓retK_ret, put_same, put_ne, env0_at, ev_tmp, ev_const, oc_bool, o_assign, o_bin, o_box, o_load, o_fieldAddr, g_none, bin_eql, resultsOf, oneOrAll, Option.map_some, Option.getD_some, Nat.reduceEqDiff, not_false_eq_true, List.getElem?_cons_zero, List.getElem?_cons_succ, ne_eq, box_agg, fa_ptr T60 p60_3 (by decide), load_p1 T3 a3, loadc_def, ← hhA, q1, q2, Nat.zero_add]
/-- Tables as the program and the document have them; the program's have a row of ports always. -/
def TbV (nn : Bool) (h : AH) (t : Nat) (ps : List Pt) (es : List E6) (off : Nat → Prop) : Prop := ∃ pv ev, Tb h t pv ev ps es ∧ off = tOff t pv ev ∧ (nn = true → ∃ b o l k z x, pv = .sl b o l k z x)
theorem TbV.grow {nn : Bool} {h h2 : AH} {t : Nat} {ps : List Pt} {es : List E6} {off : Nat → Prop} (hT : TbV nn h t ps es off) (hg : Grow h h2) : TbV nn h2 t ps es off := by
  obtain ⟨pv, ev, h1, h2, h3⟩ := hT
  exact ⟨pv, ev, h1.grow hg, h2, h3⟩
theorem TbV.off_ge {nn : Bool} {h : AH} {t : Nat} {ps : List Pt} {es : List E6} {off : Nat → Prop} (hT : TbV nn h t ps es off) {c : Nat} (hc : h.next ≤ c) : off c := by
  obtain ⟨pv, ev, h1, rfl, h3⟩ := hT
  exact h1.off_ge hc
theorem TbV.other {nn : Bool} {h h2 : AH} {t : Nat} {ps : List Pt} {es : List E6} {off o o2 : Nat → Prop} (hT : TbV nn h t ps es off) (hA : Apt o off) (hS : Stf h h2 o o2) : TbV nn h2 t ps es off ∧ Apt o2 off := by
  refine ⟨?_, hA.step hS fun _ hc => hT.off_ge hc⟩
  obtain ⟨pv, ev, h1, rfl, h3⟩ := hT
  exact ⟨pv, ev, h1.keep hS.1 fun c hc hn => (hS.2 c hc ((hA c).resolve_right hn)).1, rfl, h3⟩
def addPortR (ps : List Pt) (es : List E6) (lo hi : Int) : Int × Int × List Pt × List E6 :=
  if isR lo hi = false ∨ ps.any (fun p => mt lo hi p.lo p.hi) = true then (0, 60, ps, es)
  else if 16 ≤ ps.length then (0, 4, ps, es)
  else (((ps.length + 1 : Nat) : Int), 0, ps ++ [⟨lo, hi, true⟩], sorted6 (raiseE es ps.length ⟨lo, hi, false⟩))
theorem run47 {I : Nat → Option (List AV → AH → Rs)} (h53 : I 53 = none) (h104 : I 104 = none) (h88 : I 88 = none) (h108 : I 108 = some (srtG 109)) (h114 : I 114 = none) (h110 : I 110 = none) (h109 : I 109 = none) (h96 : I 96 = none) (h60 : I 60 = none) (h71 : I 71 = none) (h103 : I 103 = none) (h86 : I 86 = none) (h47 : I 47 = none) (h56 : I 56 = none) (h95 : I 95 = none) (h87 : I 87 = none) (m t : Nat) (lo hi : Int) (ps : List Pt) (es : List E6) (off : Nat → Prop) (h : AH) (hT : TbV true h t ps es off) (hn : es.length ≤ m ∧ es.length ≤ 100000000) (hpl : ps.length ≤ 16) :
    ∃ h2 off2, call F I T (m + 80) 47 [.ptr t 0, .int .i64 lo, .int .i64 hi] h = some (.tup [.int .i64 (addPortR ps es lo hi).1, .int .i64 (addPortR ps es lo hi).2.1], h2) ∧ TbV true h2 t (addPortR ps es lo hi).2.2.1 (addPortR ps es lo hi).2.2.2 off2 ∧ Stf h h2 off off2 := by
  have hT0 := hT
  obtain ⟨pv, ev, hTb, rfl, hs⟩ := hT
  obtain ⟨hA, hhA⟩ : ∃ hA, hA = h.alloc (.cells [.int .i64 lo] .own) := ⟨_, rfl⟩
  obtain ⟨hB, hhB⟩ : ∃ hB, hB = hA.alloc (.cells [.int .i64 hi] .own) := ⟨_, rfl⟩
  have gA : Grow h hA := by rw [hhA]; exact Grow.alloc _ _
  have gB : Grow hA hB := by rw [hhB]; exact Grow.alloc _ _
  have gAB := gA.trans gB
  have nA : hA.next = h.next + 1 := by rw [hhA]; rfl
  have nB : hB.next = h.next + 2 := by rw [hhB]; simp [nA]
  have k1 : hB.get h.next = some (.cells [.int .i64 lo] .own) := by rw [hhB, AH.get_alloc, if_neg (by omega), hhA, AH.get_alloc, if_pos rfl]
  have k2 : hB.get hA.next = some (.cells [.int .i64 hi] .own) := by rw [hhB, AH.get_alloc, if_pos rfl]
  rw [nA] at k2
  have hTB := hTb.grow gAB
  have c71 := fun m => run71 h71 m t pv ev ps es hB hTB (hs rfl)
  have gt := hTB.g
  have hlen : ∀ h, aLen T 81 pv h = some (.int .i64 (ps.length : Nat)) := fun h => hTB.p.len T81 d81
  cases hr : isR lo hi
  · have hR : addPortR ps es lo hi = (0, 60, ps, es) := by unfold addPortR; rw [if_pos (.inl hr)]
    rw [hR]
    refine ⟨hB, _, ?_, hT0.grow gAB, Stf.grow _ gAB⟩
    rw [call_F (by decide) h47 F47 rfl R47]; simp only [Try.f47, Option.getD]
    simp +contextual (maxSteps := 3000000) only [↓code_seq, ↓code_region, ↓code_cond, ↓code_block, ↓code_ret, aCond_bool, ↓ops_nil, ↓ops_cons, run_none, run_someF, ↓run0_v, ↓run0_r, ↓seqK_normal, ↓seqK_ret, ↓blkK_ret, ↓retK_ret, put_same, put_ne, env0_at, ev_tmp, ev_const, ev_func, oc_int, oc_bool, o_move, o_assign, o_pick, o_call, o_box, o_load, o_nilCheck, o_un, o_makeFunc, o_fieldAddr, g_none, g_some, pick_bool, un_not, resultsOf, oneOrAll, Option.bind_some, Option.map_some, Option.getD_some, ↓reduceIte, Nat.reduceEqDiff, not_false_eq_true, reduceCtorEq, List.getElem?_cons_zero, List.getElem?_cons_succ, List.getElem?_toArray, Bool.false_eq_true, List.map_cons, List.map_nil, List.append_nil, List.nil_append, Bool.not_false, ne_eq, box_int, load_p1 T3 a3, loadc_def, K53 h53, callV_fn (g := 86) (by decide), ← hhA, nA, ← hhB, c71, k1, k2, hr, callV_fn (g := 71) (by decide), callV_fn (g := 53) (by decide)]
  obtain ⟨hC, e1, gC⟩ := run86 h103 h86 (m + 28) 87 (by decide) [.ptr h.next 0, .ptr (h.next + 1) 0] (fun p => mt lo hi p.lo p.hi) pv ps hB hTB.p ⟨by omega, by omega⟩ (fun n h2 hg x _ => ⟨_, run87 h56 h87 n h.next (h.next + 1) lo hi x .own .own h2 (by rw [hg.2 _ (by omega)]; exact k1) (by rw [hg.2 _ (by omega)]; exact k2) (by have := hg.1; omega) (by have := hg.1; omega), Grow.alloc _ _⟩)
  have gAC := gAB.trans gC
  have hTC := hTb.grow gAC
  have gt3 := hTC.g
  cases ha : ps.any (fun p => mt lo hi p.lo p.hi)
  rotate_left
  · have hR : addPortR ps es lo hi = (0, 60, ps, es) := by unfold addPortR; rw [if_pos (.inr ha)]
    rw [hR]
    rw [ha] at e1
    refine ⟨hC, _, ?_, hT0.grow gAC, Stf.grow _ gAC⟩
    rw [call_F (by decide) h47 F47 rfl R47]; simp only [Try.f47, Option.getD]
    simp +contextual (maxSteps := 3000000) only [↓code_seq, ↓code_region, ↓code_cond, ↓code_block, ↓code_ret, aCond_bool, ↓ops_nil, ↓ops_cons, run_none, run_someF, ↓run0_v, ↓run0_r, ↓seqK_normal, ↓seqK_ret, ↓blkK_ret, ↓retK_ret, put_same, put_ne, env0_at, ev_tmp, ev_const, ev_func, oc_int, oc_bool, o_move, o_assign, o_pick, o_call, o_box, o_load, o_nilCheck, o_un, o_makeFunc, o_fieldAddr, g_none, g_some, pick_bool, un_not, nil_ptr, resultsOf, oneOrAll, Option.bind_some, Option.map_some, Option.getD_some, ↓reduceIte, Nat.reduceEqDiff, not_false_eq_true, Nat.reduceAdd, reduceCtorEq, List.getElem?_cons_zero, List.getElem?_cons_succ, List.getElem?_toArray, Bool.false_eq_true, List.map_cons, List.map_nil, List.append_nil, List.nil_append, Bool.not_true, ne_eq, box_int, load_p1 T3 a3, loadc_def, fa_ptr T83 p83_0 (by decide), load_p1 T81 a81, K53 h53, ← hhA, nA, ← hhB, c71, k1, k2, hr, gt, e1, callV_fn (g := 71) (by decide), callV_fn (g := 53) (by decide), callV_fn (g := 86) (by decide)]
  rw [ha] at e1
  have hneg : ¬ (isR lo hi = false ∨ ps.any (fun p => mt lo hi p.lo p.hi) = true) := by rw [hr, ha]; simp
  by_cases hl : 16 ≤ ps.length
  · have c1 : (16 : Int) ≤ (ps.length : Int) := by omega
    have hR : addPortR ps es lo hi = (0, 4, ps, es) := by unfold addPortR; rw [if_neg hneg, if_pos hl]
    rw [hR]
    refine ⟨hC, _, ?_, hT0.grow gAC, Stf.grow _ gAC⟩
    rw [call_F (by decide) h47 F47 rfl R47]; simp only [Try.f47, Option.getD]
    simp +contextual (maxSteps := 3000000) only [↓code_seq, ↓code_region, ↓code_cond, ↓code_block, ↓code_ret, aCond_bool, ↓ops_nil, ↓ops_cons, run_none, run_someF, ↓run0_v, ↓run0_r, ↓seqK_normal, ↓seqK_ret, ↓blkK_ret, ↓retK_ret, put_same, put_ne, env0_at, ev_tmp, ev_const, ev_func, oc_int, oc_bool, o_move, o_assign, o_pick, o_bin, o_call, o_len, o_box, o_load, o_nilCheck, o_un, o_makeFunc, o_fieldAddr, g_none, g_some, pick_bool, bin_geq, un_not, nil_ptr, resultsOf, oneOrAll, Option.bind_some, Option.map_some, Option.getD_some, decide_eq_true_eq, ↓reduceIte, Nat.reduceEqDiff, not_false_eq_true, Nat.reduceAdd, reduceCtorEq, List.getElem?_cons_zero, List.getElem?_cons_succ, List.getElem?_toArray, Bool.false_eq_true, List.map_cons, List.map_nil, List.append_nil, List.nil_append, ge_iff_le, Bool.not_true, ne_eq, box_int, load_p1 T3 a3, loadc_def, fa_ptr T83 p83_0 (by decide), load_p1 T81 a81, K53 h53, ← hhA, nA, ← hhB, c71, k1, k2, hr, gt, gt3, e1, hlen, c1, callV_fn (g := 71) (by decide), callV_fn (g := 53) (by decide), callV_fn (g := 86) (by decide)]
  have c1 : ¬ (16 : Int) ≤ (ps.length : Int) := by omega
  have hR : addPortR ps es lo hi = (((ps.length + 1 : Nat) : Int), 0, ps ++ [⟨lo, hi, true⟩], sorted6 (raiseE es ps.length ⟨lo, hi, false⟩)) := by unfold addPortR; rw [if_neg hneg, if_neg hl]
  rw [hR]
  have k1C : hC.get h.next = some (.cells [.int .i64 lo] .own) := by rw [gC.2 _ (by omega)]; exact k1
  have k2C : hC.get (h.next + 1) = some (.cells [.int .i64 hi] .own) := by rw [gC.2 _ (by omega)]; exact k2
  obtain ⟨pv2, hD, q1, q2, q3, q4, q5⟩ := hTC.p.push (new := [.int .i64 lo, .int .i64 hi, .bool false]) T81 d81 T105 s105 (by decide) (by rw [b105]; decide) rfl rfl (by rw [b105]; simp [maxBytes]; omega)
  have hcs : fl Pt.enc ps ++ [.int .i64 lo, .int .i64 hi, .bool false] = fl Pt.enc (ps ++ [⟨lo, hi, false⟩]) := by rw [fl_app]; rfl
  have hln : ps.length + 1 = (ps ++ [(⟨lo, hi, false⟩ : Pt)]).length := by simp
  rw [hcs, hln] at q2
  obtain ⟨hTE, sE⟩ := hTC.setP q2 (by omega) q4 q5
  obtain ⟨hE, hhE⟩ : ∃ hE, hE = hD.put t (.cells [pv2, ev] .own) := ⟨_, rfl⟩
  rw [← hhE] at hTE sE
  obtain ⟨u1, u2⟩ := q2.cells
  have gD : hD.get t = some (.cells [pv, ev] .own) := by rw [q4 t hTC.lt hTC.tp]; exact gt3
  have stE : aStore T 81 (.ptr t 0) pv2 hD = some hE := by rw [store_1 T81 s81 u1 u2 gD (by simp), hhE]; rfl
  have gE := hTE.g
  have hpg : (ps ++ [(⟨lo, hi, false⟩ : Pt)])[ps.length]? = some ⟨lo, hi, false⟩ := by simp
  obtain ⟨ev2, hG, k60, hTG, sG⟩ := run60 h104 h88 h108 h114 h110 h109 h96 h60 h56 h95 (m + 19) t ps.length ⟨lo, hi, false⟩ pv2 ev _ es hE hTE hpg ⟨by omega, hn.2⟩ (by omega)
  have gG := hTG.g
  have hlen2 : ∀ h, aLen T 81 pv2 h = some (.int .i64 ((ps.length + 1 : Nat) : Int)) := fun h => by rw [hln]; exact q2.len T81 d81
  have hrp : raiseP (ps ++ [(⟨lo, hi, false⟩ : Pt)]) ps.length ⟨lo, hi, false⟩ = ps ++ [⟨lo, hi, true⟩] := by unfold raiseP; simp
  rw [hrp] at hTG
  refine ⟨hG, _, ?_, ⟨pv2, ev2, hTG, rfl, fun _ => ?_⟩, (Stf.grow _ gAC).trans (sE.trans sG)⟩
  rotate_left
  · rcases q2 with ⟨_, h0, _⟩ | ⟨b, cap, ex, rest, e, _⟩
    · simp at h0
    · exact ⟨_, _, _, _, _, _, e⟩
  rw [call_F (by decide) h47 F47 rfl R47]; simp only [Try.f47, Option.getD]
  simp +contextual (maxSteps := 3000000) only [↓code_skip, ↓code_seq, ↓code_region, ↓code_cond, ↓code_block, ↓code_ret, aCond_bool, ↓ops_nil, ↓ops_cons, run_none, run_someF, ↓run0_v, ↓run0_h, ↓run0_r, ↓seqK_normal, ↓blkK_normal, ↓retK_ret, put_same, put_ne, put_none, env0_at, ev_tmp, ev_const, ev_func, oc_int, oc_bool, o_move, o_assign, o_pick, o_bin, o_call, o_len, o_box, o_build, o_buildSlice, o_load, o_store, o_nilCheck, o_un, o_makeFunc, o_fieldAddr, o_append, g_none, g_some, pick_bool, bin_geq, un_not, nil_ptr, resultsOf, oneOrAll, Option.bind_some, Option.map_some, Option.getD_some, decide_eq_true_eq, ↓reduceIte, Nat.reduceEqDiff, not_false_eq_true, Nat.reduceAdd, Nat.reduceMul, reduceCtorEq, List.getElem?_cons_zero, List.getElem?_cons_succ, List.getElem?_toArray, Bool.false_eq_true, List.map_cons, List.map_nil, List.append_nil, List.nil_append, List.cons_append, and_true, Nat.reduceLeDiff, Nat.le_refl, ge_iff_le, Bool.not_true, ne_eq, box_int, load_p1 T3 a3, loadc_def, fa_ptr T83 p83_0 (by decide), load_p1 T81 a81, build_struct T105 d105, z105, parts_eq, fillA, AV.cells, AH.splice, List.take_succ_cons, List.take_zero, List.drop_succ_cons, List.drop_zero, List.drop_nil, List.length_cons, List.length_nil, p105_0, p105_1, p105_2, buildSl T81 d81 T105 (n := 1) (by rw [s105]; decide), s105, repl, run0_h, K53 h53, ← hhA, nA, ← hhB, c71, k1, k2, k1C, k2C, hr, gt, gt3, e1, hlen, hlen2, c1, q1, stE, gE, k60, gG, callV_fn (g := 71) (by decide), callV_fn (g := 53) (by decide), callV_fn (g := 86) (by decide), callV_fn (g := 60) (by decide)]
/-- A port goes up or down. -/
def portR (ps : List Pt) (es : List E6) (n : Int) (up : Bool) : Int × List Pt × List E6 :=
  if n < 1 ∨ (ps.length : Int) < n then (2, ps, es)
  else match ps[(n - 1).toNat]? with
    | none => (2, ps, es)
    | some p => if up = true then (if p.up = true then (0, ps, es) else (0, raiseP ps (n - 1).toNat p, sorted6 (raiseE es (n - 1).toNat p)))
      else (0, ps.set (n - 1).toNat { p with up := false }, es.filter fun e => !decide (e.po = n))
theorem run48 {I : Nat → Option (List AV → AH → Rs)} (h104 : I 104 = none) (h88 : I 88 = none) (h108 : I 108 = some (srtG 109)) (h114 : I 114 = none) (h110 : I 110 = none) (h109 : I 109 = none) (h96 : I 96 = none) (h60 : I 60 = none) (h71 : I 71 = none) (h48 : I 48 = none) (h56 : I 56 = none) (h95 : I 95 = none) (h89 : I 89 = none) (m t : Nat) (n : Int) (up : Bool) (ps : List Pt) (es : List E6) (off : Nat → Prop) (h : AH) (hT : TbV true h t ps es off) (hn : es.length ≤ m ∧ es.length ≤ 100000000) (hpl : ps.length ≤ 20) :
    ∃ h2 off2, call F I T (m + 80) 48 [.ptr t 0, .int .i64 n, .bool up] h = some (.int .i64 (portR ps es n up).1, h2) ∧ TbV true h2 t (portR ps es n up).2.1 (portR ps es n up).2.2 off2 ∧ Stf h h2 off off2 := by
  have hT0 := hT
  obtain ⟨pv, ev, hTb, rfl, hs⟩ := hT
  obtain ⟨hA, hhA⟩ : ∃ hA, hA = h.alloc (.cells [.int .i64 n] .own) := ⟨_, rfl⟩
  have gA : Grow h hA := by rw [hhA]; exact Grow.alloc _ _
  have nA : hA.next = h.next + 1 := by rw [hhA]; rfl
  have k1 : hA.get h.next = some (.cells [.int .i64 n] .own) := by rw [hhA, AH.get_alloc, if_pos rfl]
  have hTA := hTb.grow gA
  have c71 := fun m => run71 h71 m t pv ev ps es hA hTA (hs rfl)
  have gt := hTA.g
  have hlen : ∀ h, aLen T 81 pv h = some (.int .i64 (ps.length : Nat)) := fun h => hTA.p.len T81 d81
  by_cases c1 : n < 1
  · have hR : portR ps es n up = (2, ps, es) := by unfold portR; rw [if_pos (.inl c1)]
    rw [hR]
    refine ⟨hA, _, ?_, hT0.grow gA, Stf.grow _ gA⟩
    rw [call_F (by decide) h48 F48 rfl R48]; simp only [Try.f48, Option.getD]
    simp +contextual (maxSteps := 3000000) only [↓code_seq, ↓code_region, ↓code_cond, ↓code_block, ↓code_ret, aCond_bool, ↓ops_nil, ↓ops_cons, run_none, run_someF, ↓run0_v, ↓run0_r, ↓seqK_normal, ↓seqK_ret, ↓blkK_ret, ↓retK_ret, put_same, put_ne, env0_at, ev_tmp, ev_const, ev_func, oc_int, oc_bool, o_move, o_assign, o_pick, o_bin, o_call, o_len, o_box, o_load, o_nilCheck, o_fieldAddr, g_none, g_some, pick_bool, bin_lss, resultsOf, oneOrAll, Option.bind_some, Option.map_some, Option.getD_some, decide_eq_true_eq, ↓reduceIte, Nat.reduceEqDiff, not_false_eq_true, reduceCtorEq, List.getElem?_cons_zero, List.getElem?_cons_succ, List.getElem?_toArray, Bool.false_eq_true, List.map_cons, List.map_nil, List.append_nil, List.nil_append, ne_eq, box_int, load_p1 T3 a3, loadc_def, ← hhA, c71, k1, c1, callV_fn (g := 71) (by decide)]
  by_cases c2 : (ps.length : Int) < n
  · have hR : portR ps es n up = (2, ps, es) := by unfold portR; rw [if_pos (.inr c2)]
    rw [hR]
    refine ⟨hA, _, ?_, hT0.grow gA, Stf.grow _ gA⟩
    rw [call_F (by decide) h48 F48 rfl R48]; simp only [Try.f48, Option.getD]
    simp +contextual (maxSteps := 3000000) only [↓code_seq, ↓code_region, ↓code_cond, ↓code_block, ↓code_ret, aCond_bool, ↓ops_nil, ↓ops_cons, run_none, run_someF, ↓run0_v, ↓run0_r, ↓seqK_normal, ↓seqK_ret, ↓blkK_ret, ↓retK_ret, put_same, put_ne, env0_at, ev_tmp, ev_const, ev_func, oc_int, oc_bool, o_move, o_assign, o_pick, o_bin, o_call, o_len, o_box, o_load, o_nilCheck, o_fieldAddr, g_none, g_some, pick_bool, bin_lss, bin_gtr, nil_ptr, resultsOf, oneOrAll, Option.bind_some, Option.map_some, Option.getD_some, decide_eq_true_eq, ↓reduceIte, Nat.reduceEqDiff, not_false_eq_true, Nat.reduceAdd, reduceCtorEq, List.getElem?_cons_zero, List.getElem?_cons_succ, List.getElem?_toArray, Bool.false_eq_true, List.map_cons, List.map_nil, List.append_nil, List.nil_append, gt_iff_lt, ne_eq, box_int, load_p1 T3 a3, loadc_def, fa_ptr T83 p83_0 (by decide), load_p1 T81 a81, ← hhA, c71, k1, c1, c2, gt, hlen, callV_fn (g := 71) (by decide)]
  obtain ⟨i, hi⟩ : ∃ i : Nat, n = ((i + 1 : Nat) : Int) := ⟨(n - 1).toNat, by omega⟩
  have hil : i < ps.length := by omega
  obtain ⟨p, hp⟩ : ∃ p, ps[i]? = some p := ⟨ps[i], List.getElem?_eq_getElem hil⟩
  have hnt : (n - 1).toNat = i := by omega
  have hR : portR ps es n up = if up = true then (if p.up = true then (0, ps, es) else (0, raiseP ps i p, sorted6 (raiseE es i p))) else (0, ps.set i { p with up := false }, es.filter fun e => !decide (e.po = n)) := by
    unfold portR; rw [if_neg (by rintro (h | h) <;> contradiction), hnt, hp]
  have c9 : IntKind.i64.wrap (n - 1) = (i : Int) := by rw [wrap_i64 (by omega) (by omega)]; omega
  obtain ⟨b, cs, bk, w1, w2, w3, w4⟩ := loadP hTA.p hp
  have w5 := congrArg (fun l => l[2]?) w4
  simp [List.getElem?_drop] at w5
  rw [hR]
  cases up with
  | true =>
    rw [if_pos rfl]
    cases hu : p.up
    · rw [if_neg (by simp)]
      rw [hu] at w5
      rw [hi] at hhA k1 c9 c1 c2
      obtain ⟨ev2, hG, k60, hTG, sG⟩ := run60 h104 h88 h108 h114 h110 h109 h96 h60 h56 h95 (m + 19) t i p pv ev ps es hA hTA hp ⟨by omega, hn.2⟩ (by omega)
      refine ⟨hG, _, ?_, ⟨pv, ev2, hTG, rfl, hs⟩, (Stf.grow _ gA).trans sG⟩
      rw [hi]
      rw [call_F (by decide) h48 F48 rfl R48]; simp only [Try.f48, Option.getD]
      simp +contextual (maxSteps := 3000000) only [↓code_skip, ↓code_seq, ↓code_region, ↓code_cond, ↓code_block, ↓code_ret, aCond_bool, ↓ops_nil, ↓ops_cons, run_none, run_someT, run_someF, ↓run0_v, ↓run0_r, ↓seqK_normal, ↓blkK_normal, ↓retK_ret, put_same, put_ne, env0_at, ev_tmp, ev_const, ev_func, oc_int, oc_bool, o_move, o_assign, o_pick, o_bin, o_call, o_len, o_box, o_load, o_nilCheck, o_un, o_fieldAddr, o_indexAddr, g_none, g_some, pick_bool, bin_sub, bin_lss, bin_gtr, un_not, nil_ptr, resultsOf, oneOrAll, Option.bind_some, Option.map_some, Option.getD_some, decide_eq_true_eq, ↓reduceIte, Nat.reduceEqDiff, not_false_eq_true, Nat.reduceAdd, reduceCtorEq, List.getElem?_cons_zero, List.getElem?_cons_succ, List.getElem?_toArray, Bool.false_eq_true, List.map_cons, List.map_nil, List.append_nil, List.nil_append, gt_iff_lt, Bool.not_true, Bool.not_false, ne_eq, box_int, load_p1 T3 a3, loadc_def, fa_ptr T83 p83_0 (by decide), load_p1 T81 a81, fa_ptr T105 p105_2 (by decide), load_p1 T4 a4, ← hhA, c71, k1, c1, c2, c9, gt, hlen, w1, w2, w5, k60, callV_fn (g := 71) (by decide), callV_fn (g := 60) (by decide)]
    · rw [if_pos rfl]
      rw [hu] at w5
      refine ⟨hA, _, ?_, hT0.grow gA, Stf.grow _ gA⟩
      rw [call_F (by decide) h48 F48 rfl R48]; simp only [Try.f48, Option.getD]
      simp +contextual (maxSteps := 3000000) only [↓code_skip, ↓code_seq, ↓code_region, ↓code_cond, ↓code_block, ↓code_ret, aCond_bool, ↓ops_nil, ↓ops_cons, run_none, run_someT, run_someF, ↓run0_v, ↓run0_r, ↓seqK_normal, ↓blkK_normal, ↓retK_ret, put_same, put_ne, env0_at, ev_tmp, ev_const, ev_func, oc_int, oc_bool, o_move, o_assign, o_pick, o_bin, o_call, o_len, o_box, o_load, o_nilCheck, o_un, o_fieldAddr, o_indexAddr, g_none, g_some, pick_bool, bin_sub, bin_lss, bin_gtr, un_not, nil_ptr, resultsOf, oneOrAll, Option.bind_some, Option.map_some, Option.getD_some, decide_eq_true_eq, ↓reduceIte, Nat.reduceEqDiff, not_false_eq_true, Nat.reduceAdd, reduceCtorEq, List.getElem?_cons_zero, List.getElem?_cons_succ, List.getElem?_toArray, Bool.false_eq_true, List.map_cons, List.map_nil, List.append_nil, List.nil_append, gt_iff_lt, Bool.not_true, ne_eq, box_int, load_p1 T3 a3, loadc_def, fa_ptr T83 p83_0 (by decide), load_p1 T81 a81, fa_ptr T105 p105_2 (by decide), load_p1 T4 a4, ← hhA, c71, k1, c1, c2, c9, gt, hlen, w1, w2, w5, callV_fn (g := 71) (by decide)]
  | false =>
    rw [if_neg (by simp)]
    obtain ⟨b', hB, v1, v2, v3, v4, v5, _⟩ := storeC Pt.enc 3 Pt.len T81 d81 T105 s105 T4 s4 (y := { p with up := false }) (w := .bool false) (j := 2) hTA.p hp (by decide) rfl rfl rfl
    obtain ⟨hTB, sB⟩ := hTA.rowP (by rw [List.length_set]; exact v3) v4 v5
    have gB := hTB.g
    have hoffk : offRow ev h.next := fun _ _ _ _ _ _ e => by have := hTb.e.lt e; omega
    have hoffkp : offRow pv h.next := fun _ _ _ _ _ _ e => by have := hTb.p.lt e; omega
    have kB : hB.get h.next = some (.cells [.int .i64 n] .own) := by rw [v5 _ hoffkp]; exact k1
    obtain ⟨ev1, hC, d1', d2', d3', d4'⟩ := run88 h104 h88 (m + 28) 89 (by decide) [.ptr h.next 0] (fun e => decide (e.po = n)) ev es hB hTB.e ⟨by omega, by omega⟩ (fun q h2 hkr x _ => ⟨_, run89 h89 (q + 1) h.next n x .own h2 (by rw [hkr.2 _ (by omega) hoffk]; exact kB) (by have := hkr.1; omega), Grow.alloc _ _⟩)
    obtain ⟨hTD, sD⟩ := hTB.setE d2' d3'.1 d3'.2 (fun b o l k z x e => .inr (d4' _ _ _ _ _ _ e))
    obtain ⟨hD, hhD⟩ : ∃ hD, hD = hC.put t (.cells [pv, ev1] .own) := ⟨_, rfl⟩
    rw [← hhD] at hTD sD
    obtain ⟨uc1, uc2⟩ := d2'.cells
    have gC : hC.get t = some (.cells [pv, ev] .own) := by rw [d3'.2 t hTB.lt hTb.te]; exact gB
    have stD : aStore T 36 (.ptr t 1) ev1 hC = some hD := by rw [store_1 T36 s36 uc1 uc2 gC (by simp), hhD]; rfl
    refine ⟨hD, _, ?_, ⟨pv, ev1, hTD, rfl, hs⟩, ((Stf.grow _ gA).trans sB).trans sD⟩
    rw [call_F (by decide) h48 F48 rfl R48]; simp only [Try.f48, Option.getD]
    simp +contextual (maxSteps := 3000000) only [↓code_skip, ↓code_seq, ↓code_region, ↓code_cond, ↓code_block, ↓code_ret, aCond_bool, ↓ops_nil, ↓ops_cons, run_none, run_someT, run_someF, ↓run0_v, ↓run0_h, ↓run0_r, ↓seqK_normal, ↓blkK_normal, ↓retK_ret, put_same, put_ne, put_none, env0_at, ev_tmp, ev_const, ev_func, oc_int, oc_bool, o_move, o_assign, o_pick, o_bin, o_call, o_len, o_box, o_load, o_store, o_nilCheck, o_un, o_makeFunc, o_fieldAddr, o_indexAddr, g_none, g_some, pick_bool, bin_sub, bin_lss, bin_gtr, un_not, nil_ptr, resultsOf, oneOrAll, Option.bind_some, Option.map_some, Option.getD_some, decide_eq_true_eq, ↓reduceIte, Nat.reduceEqDiff, not_false_eq_true, Nat.reduceAdd, reduceCtorEq, List.getElem?_cons_zero, List.getElem?_cons_succ, List.getElem?_toArray, Bool.false_eq_true, List.map_cons, List.map_nil, List.append_nil, List.nil_append, gt_iff_lt, Bool.not_false, ne_eq, box_int, load_p1 T3 a3, loadc_def, fa_ptr T83 p83_0 (by decide), load_p1 T81 a81, fa_ptr T105 p105_2 (by decide), run0_h, fa_ptr T83 p83_1 (by decide), load_p1 T36 a36, ← hhA, c71, k1, c1, c2, c9, gt, hlen, v1, v2, gB, d1', stD, callV_fn (g := 71) (by decide), callV_fn (g := 88) (by decide)]
end Go.AM.X
namespace Go.AM.X
open Go Go.AM Go.Proofs Go.AM.Sx
set_option maxHeartbeats 3200000
set_option maxRecDepth 100000
set_option linter.unusedVariables false
theorem F50 : F 50 = some { body := (Try.f50.body.getD .skip), results := Try.f50.results.toList, rf := false } := by kernel_rfl
theorem R50 : regsOk T (Try.f50.body.getD .skip) = true := by kernel_rfl
theorem F72 : F 72 = some { body := (Try.f72.body.getD .skip), results := Try.f72.results.toList, rf := false } := by kernel_rfl
theorem R72 : regsOk T (Try.f72.body.getD .skip) = true := by kernel_rfl
theorem F30 : F 30 = some { body := (Try.f30.body.getD .skip), results := Try.f30.results.toList, rf := false } := by kernel_rfl
theorem R30 : regsOk T (Try.f30.body.getD .skip) = true := by kernel_rfl
theorem F34 : F 34 = some { body := (Try.f34.body.getD .skip), results := Try.f34.results.toList, rf := false } := by kernel_rfl
theorem R34 : regsOk T (Try.f34.body.getD .skip) = true := by kernel_rfl
theorem F32 : F 32 = some { body := (Try.f32.body.getD .skip), results := Try.f32.results.toList, rf := false } := by kernel_rfl
theorem R32 : regsOk T (Try.f32.body.getD .skip) = true := by kernel_rfl
theorem run91 {I : Nat → Option (List AV → AH → Rs)} (h91 : I 91 = none) (m : Nat) (e : E6) (h : AH) : call F I T (m + 1) 91 [.agg [.int .i64 e.lo, .int .i64 e.hi, .int .i64 e.di, .int .i64 e.po, .int .i64 e.nx, .int .i64 e.st]] h = some (.bool (decide (4 ≤ e.st)), h.alloc (.cells [.int .i64 e.lo, .int .i64 e.hi, .int .i64 e.di, .int .i64 e.po, .int .i64 e.nx, .int .i64 e.st] .own)) := by
  obtain ⟨hA, hhA⟩ : ∃ hA, hA = h.alloc (.cells [.int .i64 e.lo, .int .i64 e.hi, .int .i64 e.di, .int .i64 e.po, .int .i64 e.nx, .int .i64 e.st] .own) := ⟨_, rfl⟩
  have q1 : hA.get h.next = some (.cells [.int .i64 e.lo, .int .i64 e.hi, .int .i64 e.di, .int .i64 e.po, .int .i64 e.nx, .int .i64 e.st] .own) := by rw [hhA, AH.get_alloc, if_pos rfl]
  rw [← hhA]
  rw [call_F (by decide) h91 F91 rfl R91]; simp only [Try.f91, Option.getD]
  simp +contextual (maxSteps := 3000000) only [↓code_seq, ↓code_region, ↓code_ret, ↓ops_nil, ↓ops_cons, run_none, ↓run0_v, ↓run0_r, ↓seqK_normal, ↓retK_ret, put_same, put_ne, env0_at, ev_tmp, ev_const, oc_int, oc_bool, o_assign, o_bin, o_box, o_load, o_fieldAddr, g_none, bin_geq, resultsOf, oneOrAll, Option.map_some, Option.getD_some, Nat.reduceEqDiff, not_false_eq_true, List.getElem?_cons_zero, List.getElem?_cons_succ, ge_iff_le, ne_eq, box_agg, fa_ptr T60 p60_5 (by decide), load_p1 T3 a3, loadc_def, ← hhA, q1, Nat.zero_add]
def older (e : E6) : E6 := if e.nx = 0 then e else { e with st := e.st + 1 }
def tickE (es : List E6) : List E6 := (es.map older).filter fun e => !decide (4 ≤ e.st)
theorem take6 {cs : List AV} {o : Nat} {a b c d e f : AV} (h : (cs.drop o).take 6 = [a, b, c, d, e, f]) : cs[o]? = some a ∧ cs[o + 1]? = some b ∧ cs[o + 2]? = some c ∧ cs[o + 3]? = some d ∧ cs[o + 4]? = some e ∧ cs[o + 5]? = some f := by
  have h0 := congrArg (fun l => l[0]?) h
  have h1 := congrArg (fun l => l[1]?) h
  have h2 := congrArg (fun l => l[2]?) h
  have h3 := congrArg (fun l => l[3]?) h
  have h4 := congrArg (fun l => l[4]?) h
  have h5 := congrArg (fun l => l[5]?) h
  simp [List.getElem?_drop] at h0 h1 h2 h3 h4 h5
  exact ⟨h0, h1, h2, h3, h4, h5⟩
theorem run50 {I : Nat → Option (List AV → AH → Rs)} (h71 : I 71 = none) (h104 : I 104 = none) (h88 : I 88 = none) (h91 : I 91 = none) (h50 : I 50 = none) (m t : Nat) (ps : List Pt) (es : List E6) (off : Nat → Prop) (h : AH) (hT : TbV true h t ps es off) (hn : es.length ≤ m ∧ es.length ≤ 100000000) (hst : ∀ e ∈ es, 0 ≤ e.st ∧ e.st ≤ 100) :
    ∃ h2 off2, call F I T (m + 80) 50 [.ptr t 0] h = some (.int .i64 0, h2) ∧ TbV true h2 t ps (tickE es) off2 ∧ Stf h h2 off off2 := by
  have hT0 := hT
  obtain ⟨pv, ev, hTb, rfl, hs⟩ := hT
  have c71 := fun m => run71 h71 m t pv ev ps es h hTb (hs rfl)
  have gt := hTb.g
  have hlen : ∀ h, aLen T 36 ev h = some (.int .i64 (es.length : Nat)) := fun h => hTb.e.len T36 d36
  rw [call_F (by decide) h50 F50 rfl R50]; simp only [Try.f50, Option.getD]
  simp +contextual (maxSteps := 3000000) only [↓code_skip, ↓code_seq, ↓code_region, ↓code_cond, ↓code_block, ↓code_loop, aCond_bool, ↓ops_nil, ↓ops_cons, run_none, ↓run0_v, ↓run0_r, ↓seqK_normal, put_same, put_ne, env0_at, ev_tmp, ev_const, ev_func, oc_int, o_move, o_assign, o_call, o_len, o_load, o_nilCheck, o_fieldAddr, g_none, nil_ptr, Option.getD_some, ↓reduceIte, not_false_eq_true, Nat.reduceAdd, reduceCtorEq, List.getElem?_cons_zero, List.getElem?_cons_succ, Bool.false_eq_true, List.map_cons, List.map_nil, List.append_nil, List.nil_append, ne_eq, fa_ptr T83 p83_1 (by decide), load_p1 T36 a36, loadc_def, c71, gt, hlen, callV_fn (g := 71) (by decide)]
  refine iterL_wp (Q := fun r => ∃ h2 off2, r = some (.int .i64 0, h2) ∧ TbV true h2 t ps (tickE es) off2 ∧ Stf h h2 (tOff t pv ev) off2) (N := es.length) (Inv := fun k e h' => ∃ i L, k + i = es.length ∧ Tb h' t pv ev ps L ∧ Stf h h' (tOff t pv ev) (tOff t pv ev) ∧ L.length = es.length ∧ L.take i = (es.take i).map older ∧ L.drop i = es.drop i ∧ i ≤ es.length ∧ e 0 = .ptr t 0 ∧ e 2 = .int .i64 0 ∧ e 10 = .int .i64 (es.length : Nat) ∧ e 11 = .int .i64 (i : Nat)) ?_ ?_ (by omega)
  · rintro k e h' K' ⟨i, L, hk, hL, hS, hLl, htk, hdr, hil, e0, e2, e10, e11⟩ hnext hexit
    have gL := hL.g
    by_cases hi : i < es.length
    · have c1 : (i : Int) < (es.length : Int) := by omega
      obtain ⟨e, he⟩ : ∃ e, es[i]? = some e := ⟨es[i], List.getElem?_eq_getElem hi⟩
      have hLi : L[i]? = some e := by
        have := congrArg (fun l => l[0]?) hdr
        simp [List.getElem?_drop] at this
        rw [this]; exact he
      have hem := hst e (List.mem_of_getElem? he)
      obtain ⟨b, cs, bk, g1, g2, g3, g4⟩ := loadE hL.e hLi
      have g5 := take6 g4
      have c7 : IntKind.i64.wrap ((i : Int) + 1) = ((i + 1 : Nat) : Int) := by rw [wrap_i64 (by omega) (by omega)]; rfl
      have hdd : L.drop (i + 1) = es.drop (i + 1) := by
        have := congrArg (List.drop 1) hdr
        rwa [List.drop_drop, List.drop_drop] at this
      have hes : (es.take (i + 1)).map older = (es.take i).map older ++ [older e] := by rw [List.take_add_one, he]; simp
      by_cases c2 : e.nx = 0
      · have ho : older e = e := by unfold older; rw [if_pos c2]
        simp +contextual (maxSteps := 3000000) only [↓code_skip, ↓code_seq, ↓code_region, ↓code_cond, ↓code_block, aCond_bool, ↓ops_nil, ↓ops_cons, run_none, ↓run0_v, ↓seqK_normal, ↓blkK_normal, put_same, put_ne, ev_tmp, ev_const, oc_int, o_move, o_assign, o_bin, o_load, o_nilCheck, o_fieldAddr, o_indexAddr, g_none, bin_add, bin_neq, bin_lss, nil_ptr, decide_eq_true_eq, ↓reduceIte, Nat.reduceEqDiff, not_false_eq_true, not_true_eq_false, Nat.reduceAdd, reduceCtorEq, List.getElem?_cons_zero, List.getElem?_cons_succ, Bool.not_eq_eq_eq_not, Bool.not_true, ne_eq, decide_eq_false_iff_not, fa_ptr T83 p83_1 (by decide), load_p1 T36 a36, loadc_def, fa_ptr T60 p60_4 (by decide), load_p1 T3 a3, e0, e10, e11, c1, gL, g1, g2, g5.2.2.2.2.1, c2, c7]
        refine hnext (k - 1) _ _ (by omega) ⟨i + 1, L, by omega, ?_, ?_, ?_, ?_, ?_, ?_, ?_, ?_, ?_, ?_⟩
        · exact hL
        · exact hS
        · exact hLl
        · (rw [hes, ho, List.take_add_one, hLi, htk]; rfl)
        · exact hdd
        · omega
        · simp only [put_ne, not_false_eq_true, reduceCtorEq, ne_eq, e0]
        · simp only [put_ne, Nat.reduceEqDiff, not_false_eq_true, ne_eq, e2]
        · simp only [put_ne, Nat.reduceEqDiff, not_false_eq_true, ne_eq, e10]
        · simp only [put_same]
      · have ho : older e = { e with st := e.st + 1 } := by unfold older; rw [if_neg c2]
        have c8 : IntKind.i64.wrap (e.st + 1) = e.st + 1 := wrap_i64 (by omega) (by omega)
        obtain ⟨b', h2, w1, w2, w3, w4, w5, _⟩ := storeC E6.av 6 E6.len T36 d36 T60 s60 T3 s3 (y := { e with st := e.st + 1 }) (w := .int .i64 (e.st + 1)) (j := 5) hL.e hLi (by decide) rfl rfl rfl
        have hbb : b' = b := by rw [g1] at w1; cases w1; rfl
        subst hbb
        obtain ⟨t1, t2⟩ := hL.rowE (by rw [List.length_set]; exact w3) w4 w5
        simp +contextual (maxSteps := 3000000) only [↓code_skip, ↓code_seq, ↓code_region, ↓code_cond, ↓code_block, aCond_bool, ↓ops_nil, ↓ops_cons, run_none, ↓run0_v, ↓run0_h, ↓seqK_normal, ↓blkK_normal, put_same, put_ne, put_none, ev_tmp, ev_const, oc_int, o_move, o_assign, o_bin, o_load, o_store, o_nilCheck, o_fieldAddr, o_indexAddr, g_none, bin_add, bin_neq, bin_lss, nil_ptr, decide_eq_true_eq, ↓reduceIte, Nat.reduceEqDiff, not_false_eq_true, Nat.reduceAdd, reduceCtorEq, List.getElem?_cons_zero, List.getElem?_cons_succ, Bool.not_eq_eq_eq_not, Bool.not_true, ne_eq, decide_eq_false_iff_not, fa_ptr T83 p83_1 (by decide), load_p1 T36 a36, loadc_def, fa_ptr T60 p60_4 (by decide), load_p1 T3 a3, fa_ptr T60 p60_5 (by decide), run0_h, e0, e10, e11, c1, gL, g1, g2, g5.2.2.2.2.1, g5.2.2.2.2.2, c2, c7, c8, w2]
        refine hnext (k - 1) _ _ (by omega) ⟨i + 1, L.set i { e with st := e.st + 1 }, by omega, ?_, ?_, ?_, ?_, ?_, ?_, ?_, ?_, ?_, ?_⟩
        · exact t1
        · exact hS.trans t2
        · (rw [List.length_set]; exact hLl)
        · (rw [hes, ho, ← htk, List.take_add_one, List.getElem?_set_self (by omega), List.take_set_of_le (Nat.le_refl _)]; rfl)
        · (rw [List.drop_set_of_lt (by omega)]; exact hdd)
        · omega
        · simp only [put_ne, not_false_eq_true, reduceCtorEq, ne_eq, e0]
        · simp only [put_ne, Nat.reduceEqDiff, not_false_eq_true, ne_eq, e2]
        · simp only [put_ne, Nat.reduceEqDiff, not_false_eq_true, ne_eq, e10]
        · simp only [put_same]
    · have c1 : ¬ (i : Int) < (es.length : Int) := by omega
      have hin : i = es.length := by omega
      have hLe : L = es.map older := by
        rw [hin, List.take_length, List.take_of_length_le (by omega)] at htk; exact htk
      subst hLe
      simp +contextual (maxSteps := 3000000) only [↓code_seq, ↓code_region, ↓code_cond, ↓code_exit, aCond_bool, ↓ops_nil, ↓ops_cons, run_none, ↓run0_v, ↓seqK_normal, ↓seqK_exit, put_same, ev_tmp, o_bin, g_none, bin_lss, decide_eq_true_eq, ↓reduceIte, e10, e11, c1]
      refine hexit _ _ _ (by simp) ?_
      obtain ⟨ev1, hC, d1', d2', d3', d4'⟩ := run88 h104 h88 (m + 28) 91 (by decide) [] (fun e => decide (4 ≤ e.st)) ev _ h' hL.e ⟨by omega, by omega⟩ (fun q h2 hkr x _ => ⟨_, run91 h91 (q + 1) x h2, Grow.alloc _ _⟩)
      obtain ⟨hTD, sD⟩ := hL.setE d2' d3'.1 d3'.2 (fun b o l k z x e => .inr (d4' _ _ _ _ _ _ e))
      obtain ⟨uc1, uc2⟩ := d2'.cells
      have gC : hC.get t = some (.cells [pv, ev] .own) := by rw [d3'.2 t hL.lt hL.te]; exact gL
      refine ⟨_, _, ?_, ⟨pv, ev1, hTD, rfl, hs⟩, hS.trans sD⟩
      simp +contextual (maxSteps := 3000000) only [↓code_seq, ↓code_region, ↓code_ret, ↓ops_nil, ↓ops_cons, run_none, ↓run0_v, ↓run0_h, ↓run0_r, ↓seqK_normal, ↓blkK_exit, ↓retK_ret, put_same, put_ne, put_none, ev_tmp, ev_const, ev_func, oc_int, o_move, o_assign, o_call, o_load, o_store, o_nilCheck, o_fieldAddr, g_none, nil_ptr, resultsOf, oneOrAll, Option.map_some, ↓reduceIte, Nat.reduceEqDiff, not_false_eq_true, Nat.reduceAdd, reduceCtorEq, List.getElem?_cons_zero, List.getElem?_cons_succ, List.map_cons, List.map_nil, List.append_nil, List.nil_append, ne_eq, fa_ptr T83 p83_1 (by decide), load_p1 T36 a36, loadc_def, run0_h, e0, gL, d1', store_1 T36 s36 uc1 uc2 gC (show 1 < 2 by decide), callV_fn (g := 88) (by decide)]
      rfl
  · refine ⟨0, es, by omega, ?_, ?_, ?_, ?_, ?_, ?_, ?_, ?_, ?_, ?_⟩
    · exact hTb
    · exact Stf.refl _ _
    · rfl
    · rfl
    · rfl
    · omega
    · simp only [put_ne, env0_at, Option.getD_some, not_false_eq_true, reduceCtorEq, List.getElem?_cons_zero, ne_eq]
    · simp only [put_same, put_ne, Nat.reduceEqDiff, not_false_eq_true, ne_eq]
    · simp only [put_same, put_ne, Nat.reduceEqDiff, not_false_eq_true, ne_eq]
    · simp only [put_same]; rfl
/-- A row of entries told: new, or none. -/
theorem run72 {I : Nat → Option (List AV → AH → Rs)} (h72 : I 72 = none) (m : Nat) (v : AV) (es : List E6) (h : AH) (hd : RowC 6 h v es.length (fl E6.av es)) (hl : es.length ≤ 100000000) :
    ∃ v2 h2, call F I T (m + 1) 72 [v] h = some (v2, h2) ∧ RowC 6 h2 v2 es.length (fl E6.av es) ∧ Fresh h v2 ∧ Grow h h2 := by
  rcases hd with ⟨rfl, h0, _⟩ | ⟨b, cap, ex, rest, rfl, h1, h2, h3, h4⟩
  · have he : es = [] := List.length_eq_zero_iff.1 h0
    subst he
    refine ⟨.nils, h, ?_, RowC.nil _ _, (fun _ _ _ _ _ _ e => by cases e), Grow.refl h⟩
    rw [call_F (by decide) h72 F72 rfl R72]; simp only [Try.f72, Option.getD]
    simp +contextual (maxSteps := 3000000) only [↓code_seq, ↓code_region, ↓code_cond, ↓code_ret, aCond_bool, ↓ops_nil, ↓ops_cons, run_none, ↓run0_v, ↓seqK_normal, ↓seqK_ret, ↓retK_ret, put_same, put_ne, env0_at, ev_tmp, ev_const, oc_nils, o_move, o_assign, o_bin, g_none, resultsOf, oneOrAll, Option.map_some, Option.getD_some, ↓reduceIte, not_false_eq_true, reduceCtorEq, List.getElem?_cons_zero, ne_eq, snn_eql T36 d36]
  · have hsrc : aSource 6 (.sl b 0 es.length cap 6 ex) (h.alloc (.cells [] .own)) = some (es.length, fl E6.av es) := by
      rw [src_sl]
      have : (h.alloc (.cells [] .own)).get b = some (.cells (fl E6.av es ++ rest) .own) := by rw [AH.get_alloc, if_neg (by omega)]; exact h4
      simp only [AH.loadn, this]
      rw [if_pos (by rw [List.length_append]; omega), List.drop_zero, List.take_append_of_le_length (by omega), List.take_of_length_le (by omega)]
      rfl
    have hr0 : RowC 6 (h.alloc (.cells [] .own)) (.sl h.next 0 0 0 6 true) 0 [] := .inr ⟨h.next, 0, true, [], rfl, rfl, rfl, by simp, by rw [AH.get_alloc, if_pos rfl]; rfl⟩
    obtain ⟨v2, h2', r1, r2, r3, r4, r5⟩ := RowC.app' (new := fl E6.av es) (m := es.length) (xt := 36) T36 d36 T60 (isSrc_sl T36 d36) s60 (by decide) (by rw [b60]; decide) hr0 (by rw [s60]; exact hsrc) (fl_len E6.av 6 E6.len es) (fl_one E6.av E6.one es) (by rw [b60]; simp [maxBytes]; omega)
    rw [List.nil_append, Nat.zero_add] at r2
    refine ⟨v2, h2', ?_, r2, fun b' o l k z x e => ?_, by have := r3; simp at this; omega, fun c hc => ?_⟩
    · rw [call_F (by decide) h72 F72 rfl R72]; simp only [Try.f72, Option.getD]
      simp +contextual (maxSteps := 3000000) only [↓code_skip, ↓code_seq, ↓code_region, ↓code_cond, ↓code_ret, aCond_bool, ↓ops_nil, ↓ops_cons, run_none, ↓run0_v, ↓run0_r, ↓seqK_normal, ↓retK_ret, put_same, put_ne, env0_at, ev_tmp, ev_const, oc_nils, o_move, o_assign, o_bin, o_buildSlice, o_append, g_none, resultsOf, oneOrAll, Option.bind_some, Option.map_some, Option.getD_some, ↓reduceIte, Nat.reduceEqDiff, not_false_eq_true, reduceCtorEq, List.getElem?_cons_zero, Bool.false_eq_true, List.map_nil, ne_eq, buildSl T36 d36 T60 (n := 0) (by rw [s60]; decide), s60, parts_eq, fillA, repl, sn_eql T36 d36, r1]
    · rcases r5 _ _ _ _ _ _ e with g | ⟨_, _, _, _, _, g⟩
      · simp at g; omega
      · cases g; exact Nat.le_refl _
    · rw [r4 c (by simp; omega) (fun b' o l k z x e => by cases e; omega), AH.get_alloc, if_neg (by omega)]
theorem run30 {I : Nat → Option (List AV → AH → Rs)} (h71 : I 71 = none) (h72 : I 72 = none) (h30 : I 30 = none) (m t : Nat) (ps : List Pt) (es : List E6) (off : Nat → Prop) (h : AH) (hT : TbV true h t ps es off) (hn : es.length ≤ 100000000) :
    ∃ v h2, call F I T (m + 5) 30 [.ptr t 0] h = some (v, h2) ∧ RowC 6 h2 v es.length (fl E6.av es) ∧ Fresh h v ∧ Grow h h2 := by
  obtain ⟨pv, ev, hTb, rfl, hs⟩ := hT
  have c71 := fun m => run71 h71 m t pv ev ps es h hTb (hs rfl)
  have gt := hTb.g
  obtain ⟨v, h2, k1, k2, k3, k4⟩ := run72 h72 (m + 3) ev es h hTb.e hn
  refine ⟨v, h2, ?_, k2, k3, k4⟩
  rw [call_F (by decide) h30 F30 rfl R30]; simp only [Try.f30, Option.getD]
  simp +contextual (maxSteps := 3000000) only [↓code_skip, ↓code_seq, ↓code_region, ↓code_cond, ↓code_ret, aCond_bool, ↓ops_nil, ↓ops_cons, run_none, ↓run0_v, ↓run0_r, ↓seqK_normal, ↓retK_ret, put_same, put_ne, env0_at, ev_tmp, ev_const, ev_func, oc_nils, o_move, o_assign, o_call, o_load, o_nilCheck, o_fieldAddr, g_none, nil_ptr, resultsOf, oneOrAll, Option.map_some, Option.getD_some, ↓reduceIte, not_false_eq_true, Nat.reduceAdd, reduceCtorEq, List.getElem?_cons_zero, List.getElem?_cons_succ, Bool.false_eq_true, List.map_cons, List.map_nil, List.append_nil, List.nil_append, ne_eq, fa_ptr T83 p83_1 (by decide), load_p1 T36 a36, loadc_def, c71, gt, k1, callV_fn (g := 71) (by decide), callV_fn (g := 72) (by decide)]
def hasN (n : Int) (e : E6) : Bool := decide (e.lo ≤ n) && decide (n ≤ e.hi) && decide (e.st < 2)
def wayV (es : List E6) (n : Int) : AV := match es.find? (hasN n) with
  | some e => .tup [.agg [.int .i64 e.lo, .int .i64 e.hi, .int .i64 e.di, .int .i64 e.po, .int .i64 e.nx, .int .i64 e.st], .int .i64 0]
  | none => .tup [.agg [.int .i64 0, .int .i64 0, .int .i64 0, .int .i64 0, .int .i64 0, .int .i64 0], .int .i64 2]
end Go.AM.X
