/- Events of bytes: the program's walk. Own work. -/
import Derived.Test.YtplanafgphadaaaTegD
namespace Go.AM.X
open Go Go.AM Go.Proofs Go.AM.Sx
set_option maxHeartbeats 1600000
set_option maxRecDepth 100000
set_option linter.unusedVariables false
theorem F14 : F 14 = some { body := (Try.f14.body.getD .skip), results := Try.f14.results.toList, rf := true } := by kernel_rfl
theorem R14 : regsOkR T (Try.f14.body.getD .skip) = true := by kernel_rfl
structure J14 (b : List Int) (K : Nat) (e1 : Env) (asg bdy : Code) (j : Nat) (H : AH) : Prop where
  g0 : H.get 0 = some (.cells [.nils] .own)
  g1 : H.get 1 = some (.cells [.int .i64 0] .own)
  g2 : ∃ v, H.get 2 = some (.cells [v] .own) ∧ RowC 4 H v j (fl Ev.av ((chunkE b K).take j)) ∧ ∀ b o k c z x, v = .sl b o k c z x → 7 ≤ b
  g3 : H.get 3 = some (.cells [bytL b] .own)
  g4 : H.get 4 = some (.cells [.int .i64 6] .own)
  g5 : H.get 5 = some .dfr
  g6 : H.get 6 = some (.loop e1 [29] asg bdy .ready)
  nx : 7 ≤ H.next
  ok : ((chunkE b K).take j).all okEv = true
structure E14 (b : List Int) (e1 : Env) (asg bdy : Code) (H : AH) : Prop where
  g0 : H.get 0 = some (.cells [.nils] .own)
  g1 : H.get 1 = some (.cells [.int .i64 3] .own)
  g5 : H.get 5 = some .dfr
  g6 : H.get 6 = some (.loop e1 [29] asg bdy (.done .ret))
  bad : getE b = none
/-- What a round does. -/
def Rd14 (C : Cf) (n : Nat) (bdy : Code) (e2 : Env) (H : AH) (j : Nat) (cs : List AV) (x : Ev) (K' : Kt) : Prop :=
  if okEv x = true then ∃ H3 v', (∃ e3, code C T n false bdy e2 H K' = K' .normal e3 H3) ∧ (∀ c, c < 7 → c ≠ 2 → H3.get c = H.get c) ∧ H.next ≤ H3.next ∧ H3.get 2 = some (.cells [v'] .own) ∧ RowC 4 H3 v' (j + 1) (cs ++ x.av) ∧ (∀ b o k c z x, v' = .sl b o k c z x → 7 ≤ b)
  else ∃ H3, (∃ e3, code C T n false bdy e2 H K' = K' .ret e3 H3) ∧ H3.get 0 = some (.cells [.nils] .own) ∧ H3.get 1 = some (.cells [.int .i64 3] .own) ∧ H3.get 5 = H.get 5 ∧ H3.get 6 = H.get 6
theorem range14 {I : Nat → Option (List AV → AH → Rs)} (h72 : I 72 = none) (b : List Int) (N m : Nat) (hN : b.length = 6 * N) (hl : 1 ≤ N ∧ N ≤ 4) (hb : ∀ x ∈ b, 0 ≤ x ∧ x ≤ 255) {asg bdy : Code} {e : Env} {K : Kt} (Q : Rs → Prop)
    (hasg : ∀ (e : Env) (h : AH) (K : Kt), code (call F I T (m + 1007)) T (m + 1007) false asg e h K = K .normal (e.put (some 5) (e 29)) h)
    (hbdy : ∀ (j : Nat) (H : AH) (v : AV) (cs : List AV) (e2 : Env) (K : Kt) (x : Ev), (chunkE b N)[j]? = some x → j < N → e2 2 = .ptr 0 0 → e2 3 = .ptr 1 0 → e2 4 = .ptr 2 0 → e2 5 = chk b j →
      H.get 0 = some (.cells [.nils] .own) → H.get 1 = some (.cells [.int .i64 0] .own) → H.get 2 = some (.cells [v] .own) → RowC 4 H v j cs → (∀ b o k c z x, v = .sl b o k c z x → 7 ≤ b) → 7 ≤ H.next →
      Rd14 (call F I T (m + 1007)) (m + 1007) bdy e2 H j cs x K)
    (he2 : e 2 = .ptr 0 0) (he3 : e 3 = .ptr 1 0) (he4 : e 4 = .ptr 2 0) (he28 : e 28 = .fn 72 [] [.ptr 3 0, .ptr 4 0])
    (hend : ∀ H', (J14 b N e asg bdy N H' ∨ E14 b e asg bdy H') → Q (endRange K (e.put (some 4000000001) (.mark (5 :: marks (e 4000000001)))) 6 H')) :
    Q (codR (call F I T (m + 1009)) T (m + 1009) (.rangeFunc (.tmp 28) #[29] asg bdy) e
      (((((e0.alloc (.cells [.nils] .own)).alloc (.cells [.int .i64 0] .own)).alloc (.cells [.nils] .own)).alloc (.cells [bytL b] .own)).alloc (.cells [.int .i64 6] .own)) K) := by
  obtain ⟨H0, hH0⟩ : ∃ H0, H0 = (((((e0.alloc (.cells [.nils] .own)).alloc (.cells [.int .i64 0] .own)).alloc (.cells [.nils] .own)).alloc (.cells [bytL b] .own)).alloc (.cells [.int .i64 6] .own)) := ⟨_, rfl⟩
  rw [← hH0]
  have hn : H0.next = 5 := by rw [hH0]; rfl
  have hget : ∀ c, (((H0.alloc .dfr).alloc (.loop e [29] asg bdy .ready)).get c) = if c = 6 then some (.loop e [29] asg bdy .ready) else if c = 5 then some .dfr else if c = 4 then some (.cells [.int .i64 6] .own) else
      if c = 3 then some (.cells [bytL b] .own) else if c = 2 then some (.cells [.nils] .own) else if c = 1 then some (.cells [.int .i64 0] .own) else if c = 0 then some (.cells [.nils] .own) else none := by
    intro c
    simp only [AH.get_alloc, AH.next_alloc, hH0, next_e0, get_e0]
  have hstep : ∀ j H, j < N → J14 b N e asg bdy j H → ∃ H' c, call F I T (m + 8 + 1000) YLD [.yld 6, chk b j] H = some (.bool c, H') ∧ if c = true then J14 b N e asg bdy (j + 1) H' else E14 b e asg bdy H' := by
    intro j H hj hJ
    obtain ⟨v, g2, hrow, hvb⟩ := hJ.g2
    obtain ⟨x, hx⟩ : ∃ x, (chunkE b N)[j]? = some x := ⟨_, chunk_get hj⟩
    obtain ⟨Hb, hHb⟩ : ∃ Hb, Hb = H.put 6 (.loop e [29] asg bdy .busy) := ⟨_, rfl⟩
    have hbg : ∀ c, c ≠ 6 → Hb.get c = H.get c := fun c hc => by rw [hHb, AH.get_put, if_neg hc]
    have hb6 : Hb.get 6 = some (.loop e [29] asg bdy .busy) := by rw [hHb, AH.get_put, if_pos rfl]
    have hbn : Hb.next = H.next := by rw [hHb]; rfl
    have hrowb : RowC 4 Hb v j (fl Ev.av ((chunkE b N).take j)) := hrow.keep (by omega) fun b o k c z x hv => hbg b (by have := hvb _ _ _ _ _ _ hv; omega)
    have hR := hbdy j Hb v _ ((e.put (some 29) (chk b j)).put (some 5) (chk b j)) (endRound 6) x hx hj
      (by simp only [put_ne, Nat.reduceEqDiff, not_false_eq_true, he2, ne_eq]) (by simp only [put_ne, Nat.reduceEqDiff, not_false_eq_true, he3, ne_eq]) (by simp only [put_ne, Nat.reduceEqDiff, not_false_eq_true, he4, ne_eq]) (by rw [put_same])
      (by rw [hbg _ (by decide)]; exact hJ.g0) (by rw [hbg _ (by decide)]; exact hJ.g1) (by rw [hbg _ (by decide)]; exact g2) hrowb hvb (by have := hJ.nx; omega)
    unfold Rd14 at hR
    cases hok : okEv x with
    | true =>
      rw [if_pos hok] at hR
      obtain ⟨H3, v', ⟨e3, k1⟩, k2, k3, k4, k5, k6⟩ := hR
      have k7 : H3.get 6 = some (.loop e [29] asg bdy .busy) := by rw [k2 6 (by decide) (by decide)]; exact hb6
      have hg3 : ∀ c, c < 7 → c ≠ 2 → c ≠ 6 → (H3.put 6 (.loop e [29] asg bdy .ready)).get c = H.get c := fun c h1 h2 h3 => by
        rw [AH.get_put, if_neg h3, k2 c h1 h2, hbg c h3]
      refine ⟨H3.put 6 (.loop e [29] asg bdy .ready), true, ?_, ?_⟩
      · show call F I T ((m + 1007) + 1) YLD _ H = _
        rw [call_yld, yield_ready hJ.g6 rfl, setPs_one, hasg, put_same, mid_ready hJ.g6, ← hHb, k1, end_normal k7]
      · rw [if_pos rfl]
        exact {
          g0 := by rw [hg3 _ (by decide) (by decide) (by decide)]; exact hJ.g0
          g1 := by rw [hg3 _ (by decide) (by decide) (by decide)]; exact hJ.g1
          g2 := ⟨v', by rw [AH.get_put, if_neg (by decide)]; exact k4, by
            rw [List.take_add_one, hx, fl_app]
            have : fl Ev.av (some x).toList = x.av := by simp [fl]
            rw [this]
            exact k5.keep (Nat.le_refl _) fun b o k c z x hv => by rw [AH.get_put, if_neg (by have := k6 _ _ _ _ _ _ hv; omega)], k6⟩
          g3 := by rw [hg3 _ (by decide) (by decide) (by decide)]; exact hJ.g3
          g4 := by rw [hg3 _ (by decide) (by decide) (by decide)]; exact hJ.g4
          g5 := by rw [hg3 _ (by decide) (by decide) (by decide)]; exact hJ.g5
          g6 := by rw [AH.get_put, if_pos rfl]
          nx := by have := hJ.nx; rw [AH.next_put]; omega
          ok := by rw [List.take_add_one, hx, List.all_append, hJ.ok]; simp [hok] }
    | false =>
      rw [if_neg (fun h => by rw [hok] at h; cases h)] at hR
      obtain ⟨H3, ⟨e3, k1⟩, k2, k3, k4, k5⟩ := hR
      have k7 : H3.get 6 = some (.loop e [29] asg bdy .busy) := by rw [k5]; exact hb6
      refine ⟨H3.put 6 (.loop e [29] asg bdy (.done .ret)), false, ?_, ?_⟩
      · show call F I T ((m + 1007) + 1) YLD _ H = _
        rw [call_yld, yield_ready hJ.g6 rfl, setPs_one, hasg, put_same, mid_ready hJ.g6, ← hHb, k1, end_ret k7]
      · rw [if_neg (by simp)]
        exact {
          g0 := by rw [AH.get_put, if_neg (by decide)]; exact k2
          g1 := by rw [AH.get_put, if_neg (by decide)]; exact k3
          g5 := by rw [AH.get_put, if_neg (by decide), k4, hbg _ (by decide)]; exact hJ.g5
          g6 := by rw [AH.get_put, if_pos rfl]
          bad := get_bad (b := b) (by rw [show b.length / 6 = N by omega]; exact hx) hok }
  have hz : J14 b N e asg bdy 0 ((H0.alloc .dfr).alloc (.loop e [29] asg bdy .ready)) := by
    refine ⟨by rw [hget]; rfl, by rw [hget]; rfl, ⟨.nils, by rw [hget]; rfl, RowC.nil _ _, fun b o k c z x hv => by cases hv⟩, by rw [hget]; rfl, by rw [hget]; rfl, by rw [hget]; rfl, by rw [hget]; rfl, by simp [hn], rfl⟩
  obtain ⟨H', hc, hJ⟩ := run72 h72 b N (m + 8) 6 3 4 (J14 b N e asg bdy) (E14 b e asg bdy) ((H0.alloc .dfr).alloc (.loop e [29] asg bdy .ready)) hN (by omega) (fun j H hJ => ⟨hJ.g3, hJ.g4⟩) hstep hz
  refine range_go (v := .tup []) (H' := H') (Q := Q) ?_ (by rw [hn]; exact hend H' hJ)
  rw [ev_tmp, he28, hn]
  exact hc
end Go.AM.X
namespace Go.AM.X
open Go Go.AM Go.Proofs Go.AM.Sx
set_option maxHeartbeats 1600000
set_option maxRecDepth 100000
set_option linter.unusedVariables false
theorem code_drawn {C : Cf} {T : TT} {n : Nat} {rf : Bool} {id all e h K} (hd : drawOk T all = true) (hs : softs T all = []) : code C T n rf (.region id all true) e h K = ops C T all all.toList e h (K .normal) := by
  simp only [code, hd, hs]
theorem run14 {I : Nat → Option (List AV → AH → Rs)} (h37 : I 37 = some (pureG g37)) (h40 : I 40 = none) (h71 : I 71 = none) (h41 : I 41 = none) (h14 : I 14 = none) (h72 : I 72 = none) (b : List Int) (m : Nat) (hb : ∀ x ∈ b, 0 ≤ x ∧ x ≤ 255) : GE b (call F I T (m + 1010) 14 [bytL b] e0) := by
  have hlen : ∀ h, aLen T 34 (bytL b) h = some (.int .i64 (b.length : Nat)) := fun h => by simp [aLen, T34, d34, bytL]
  have k40 : ∀ (m : Nat) (h : AH), call F I T (m + 1) 40 [bytL b, .int .i64 6] h = some (.fn 72 [] [.ptr h.next 0, .ptr (h.next + 1) 0], (h.alloc (.cells [bytL b] .own)).alloc (.cells [.int .i64 6] .own)) := fun m h => by
    unfold bytL; exact K40 h40 m _ _ _ h
  obtain ⟨VB, hVB⟩ : ∃ VB, VB = bytL b := ⟨_, rfl⟩
  rw [← hVB] at hlen ⊢
  simp only [← hVB] at k40
  rw [callR_F (by decide) h14 F14 rfl rfl R14]; simp only [Try.f14, Option.getD]
  by_cases q1 : b.length = 0
  · have q1' : (b.length : Int) = 0 := by omega
    simp +contextual (maxSteps := 3000000) only [aCond_bool, ↓ops_nil, ↓ops_cons, run_none, run_someF, ↓run0_v, ↓run0_r, ↓seqK_normal, ↓seqK_ret, ↓retK_ret, put_same, put_ne, put_none, env0_at, ev_tmp, ev_const, oc_int, oc_bool, oc_nils, o_move, o_pick, o_bin, o_len, o_alloc, o_store, g_none, g_some, pick_bool, bin_eql, next_e0, resultsOf, oneOrAll, Option.bind_some, Option.map_some, Option.getD_some, decide_eq_true_eq, ↓reduceIte, Nat.reduceEqDiff, not_false_eq_true, Nat.reduceAdd, reduceCtorEq, List.getElem?_cons_zero, List.getElem?_cons_succ, List.getElem?_toArray, AH.get_alloc, AH.next_alloc, ne_eq, ↓codR_seq, ↓codR_region, ↓codR_cond, ↓codR_ret, retM_ret, marks_bad, alloc_t T33, z33, alloc_t T25, z25, st_nils T33 s33, stm_own, st_int T25 s25, loadc_def, List.length_cons, List.length_nil, load_p1 T33 a33, hlen, eq_true q1', marksEnd_nil]
    exact GE.bad (by unfold getE; rw [if_neg (fun h => h.1.1 q1)])
  have q1' : ¬ (b.length : Int) = 0 := by omega
  have q3 : (b.length : Int).tmod 6 = ((b.length % 6 : Nat) : Int) := by rw [Int.tmod_eq_emod_of_nonneg (by omega)]; omega
  have q4 : IntKind.i64.wrap ((b.length % 6 : Nat) : Int) = ((b.length % 6 : Nat) : Int) := wrap_i64 (by omega) (by omega)
  by_cases q5 : b.length % 6 = 0
  rotate_left
  · have q5' : ¬ ((b.length % 6 : Nat) : Int) = 0 := by omega
    simp +contextual (maxSteps := 3000000) only [aCond_bool, ↓ops_nil, ↓ops_cons, run_none, run_someF, ↓run0_v, ↓run0_r, ↓seqK_normal, ↓seqK_ret, ↓retK_ret, put_same, put_ne, put_none, env0_at, ev_tmp, ev_const, oc_int, oc_bool, oc_nils, o_move, o_pick, o_bin, o_len, o_alloc, o_store, g_none, g_some, pick_bool, bin_rem, bin_eql, bin_neq, next_e0, resultsOf, oneOrAll, Option.bind_some, Option.map_some, Option.getD_some, decide_eq_true_eq, ↓reduceIte, Nat.reduceEqDiff, not_false_eq_true, Nat.reduceAdd, reduceCtorEq, List.getElem?_cons_zero, List.getElem?_cons_succ, List.getElem?_toArray, AH.get_alloc, AH.next_alloc, Bool.not_eq_eq_eq_not, Bool.not_true, ne_eq, decide_eq_false_iff_not, ↓codR_seq, ↓codR_region, ↓codR_cond, ↓codR_ret, retM_ret, marks_bad, alloc_t T33, z33, alloc_t T25, z25, st_nils T33 s33, stm_own, st_int T25 s25, loadc_def, List.length_cons, List.length_nil, load_p1 T33 a33, hlen, q1', q3, q5', (show ¬ (6 : Int) = 0 by decide), marksEnd_nil]
    exact GE.bad (by unfold getE; rw [if_neg (fun h => q5 h.1.2.1)])
  have q5' : ((b.length % 6 : Nat) : Int) = 0 := by omega
  by_cases q2 : (24 : Int) < (b.length : Int)
  · simp +contextual (maxSteps := 3000000) only [aCond_bool, ↓ops_nil, ↓ops_cons, run_none, run_someF, ↓run0_v, ↓run0_r, ↓seqK_normal, ↓seqK_ret, ↓retK_ret, put_same, put_ne, put_none, env0_at, ev_tmp, ev_const, oc_int, oc_bool, oc_nils, o_move, o_pick, o_bin, o_len, o_alloc, o_store, g_none, g_some, pick_bool, bin_rem, bin_eql, bin_neq, bin_gtr, next_e0, resultsOf, oneOrAll, Option.bind_some, Option.map_some, Option.getD_some, decide_eq_true_eq, ↓reduceIte, Nat.reduceEqDiff, not_false_eq_true, not_true_eq_false, Nat.reduceAdd, reduceCtorEq, List.getElem?_cons_zero, List.getElem?_cons_succ, List.getElem?_toArray, AH.get_alloc, AH.next_alloc, gt_iff_lt, Bool.not_eq_eq_eq_not, Bool.not_true, ne_eq, decide_eq_false_iff_not, ↓codR_seq, ↓codR_region, ↓codR_cond, ↓codR_ret, retM_ret, marks_bad, alloc_t T33, z33, alloc_t T25, z25, st_nils T33 s33, stm_own, st_int T25 s25, loadc_def, List.length_cons, List.length_nil, load_p1 T33 a33, hlen, q1', q2, q3, eq_true q5', (show ¬ (6 : Int) = 0 by decide), marksEnd_nil]
    exact GE.bad (by unfold getE; rw [if_neg (fun h => by have := h.1.2.2; omega)])
  obtain ⟨N, hN⟩ : ∃ N, N = b.length / 6 := ⟨_, rfl⟩
  have hbl : b.length = 6 * N := by omega
  simp +contextual (maxSteps := 3000000) only [aCond_bool, ↓ops_nil, ↓ops_cons, run_none, run_someF, ↓run0_v, ↓run0_r, ↓seqK_normal, put_same, put_ne, env0_at, ev_tmp, ev_const, ev_func, oc_int, oc_bool, o_move, o_pick, o_bin, o_call, o_len, o_alloc, g_none, g_some, pick_bool, bin_rem, bin_eql, bin_neq, bin_gtr, next_e0, Option.bind_some, Option.getD_some, decide_eq_true_eq, ↓reduceIte, Nat.reduceEqDiff, not_false_eq_true, not_true_eq_false, Nat.reduceAdd, reduceCtorEq, List.getElem?_cons_zero, List.getElem?_cons_succ, List.getElem?_toArray, List.map_cons, List.map_nil, List.append_nil, List.nil_append, AH.next_alloc, gt_iff_lt, Bool.not_eq_eq_eq_not, Bool.not_true, ne_eq, decide_eq_false_iff_not, ↓codR_skip, ↓codR_seq, ↓codR_region, ↓codR_cond, ↓codR_block, alloc_t T33, z33, alloc_t T25, z25, callV_fn (g := 40) (by decide), hlen, q1', q2, q3, eq_true q5', k40, (show ¬ (6 : Int) = 0 by decide)]
  subst hVB
  refine range14 h72 b N m hbl (by omega) hb (fun r => GE b r) ?_ ?_ ?_ ?_ ?_ ?_ ?_
  · intro e h K
    simp +contextual (maxSteps := 3000000) only [↓ops_nil, ↓ops_cons, run_none, ↓run0_v, ev_tmp, o_assign, g_none, code_undrawn]
  · intro j H v cs e2 K x hx hj he2 he3 he4 he5 g0 g1 g2 hrow hvb hnx
    obtain ⟨m0, m1, m2, m3, m4, m5, he, x0, x1, x2, x3, x4, x5, y0, y1, y2, y3, y4, y5⟩ := chunk6 hb (j := j) (by omega)
    have hxe : x = ⟨m0, 256 * m1 + m2, 256 * m3 + m4, m5⟩ := by
      have := chunk_get (l := b) hj
      rw [hx, he] at this
      exact Option.some.inj this
    have hV : chk b j = .lst true 1 6 [.int .u8 m0, .int .u8 m1, .int .u8 m2, .int .u8 m3, .int .u8 m4, .int .u8 m5] := by unfold chk; rw [he]; rfl
    have vl : ∀ h, aLen T 34 (chk b j) h = some (.int .i64 6) := fun h => by rw [hV]; simp [aLen, T34, d34]
    have va : aSlice T 34 (chk b j) (some (.int .i64 1)) (some (.int .i64 (1 + 2))) none = some (.lst false 1 2 [.int .u8 m1, .int .u8 m2]) := by
      rw [hV, sl_lst (l := 1) (u := 3) T34 d34 T5 s5 rfl rfl (by decide) (by decide)]; rfl
    have vb : aSlice T 34 (chk b j) (some (.int .i64 3)) (some (.int .i64 (3 + 2))) none = some (.lst false 1 2 [.int .u8 m3, .int .u8 m4]) := by
      rw [hV, sl_lst (l := 3) (u := 5) T34 d34 T5 s5 rfl rfl (by decide) (by decide)]; rfl
    have i0 : aIndexAddr T 34 (chk b j) (.int .i64 0) = some (.fp [.int .u8 m0, .int .u8 m1, .int .u8 m2, .int .u8 m3, .int .u8 m4, .int .u8 m5]) := by
      rw [hV, ia_lst T34 d34 T5 s5, if_pos ⟨by omega, by omega⟩]; rfl
    have i5 : aIndexAddr T 34 (chk b j) (.int .i64 5) = some (.fp [.int .u8 m5]) := by
      rw [hV, ia_lst T34 d34 T5 s5, if_pos ⟨by omega, by omega⟩]; rfl
    have ka : ∀ h, call F I T (m + 1007) 41 [chk b j, .int .i64 1, .int .i64 2] h = some (.tup [.int .i64 (256 * m1 + m2), .int .i64 3, .int .i64 0], h) := fun h =>
      run41 h71 h41 (m + 997) (chk b j) 1 m1 m2 h vl (.inl rfl) y1 y2 va
    have kb : ∀ h, call F I T (m + 1007) 41 [chk b j, .int .i64 3, .int .i64 2] h = some (.tup [.int .i64 (256 * m3 + m4), .int .i64 5, .int .i64 0], h) := fun h =>
      run41 h71 h41 (m + 997) (chk b j) 3 m3 m4 h vl (.inr rfl) y3 y4 vb
    obtain ⟨V, hVV⟩ : ∃ V, V = chk b j := ⟨_, rfl⟩
    rw [← hVV] at he5 i0 i5
    simp only [← hVV] at ka kb
    have w0 : IntKind.i64.wrap m0 = m0 := wrap_i64 (by omega) (by omega)
    have w5 : IntKind.i64.wrap m5 = m5 := wrap_i64 (by omega) (by omega)
    obtain ⟨hZ, sa, sb, sc, sd⟩ := store_e H x
    rw [hxe] at sa sc
    have z2 : hZ.get 2 = some (.cells [v] .own) := by rw [sd.2 _ (by omega)]; exact g2
    have z0 : hZ.get 0 = some (.cells [.nils] .own) := by rw [sd.2 _ (by omega)]; exact g0
    have z1 : hZ.get 1 = some (.cells [.int .i64 0] .own) := by rw [sd.2 _ (by omega)]; exact g1
    have hjN : N ≤ 4 := by omega
    unfold Rd14
    cases hok : okEv x with
    | true =>
      rw [if_pos rfl]
      have hok' := hok
      rw [hxe] at hok'
      simp only [okEv, Bool.and_eq_true, decide_eq_true_eq] at hok'
      obtain ⟨⟨p1, p2⟩, c4⟩ := hok'
      have c3 : ¬ 2 < m0 := by omega
      obtain ⟨v', h2, t1, t2, t3, t4, t5⟩ := (hrow.grow sd).push (new := [.int .i64 m0, .int .i64 (256 * m1 + m2), .int .i64 (256 * m3 + m4), .int .i64 m5]) T33 d33 T92 s92 (by decide) (by rw [b92]; decide) rfl rfl (by rw [b92]; simp [maxBytes]; omega)
      have hoff : ∀ c, c < 7 → offRow v c := fun c hc b o k z x y hv => by have := hvb _ _ _ _ _ _ hv; omega
      have hk2 : ∀ c, c < 7 → h2.get c = H.get c := fun c hc => by rw [t4 c (by omega) (hoff c hc), sd.2 c (by omega)]
      have hv' : ∀ b o k c z x, v' = .sl b o k c z x → 7 ≤ b := fun b o k c z x e => by
        rcases t5 _ _ _ _ _ _ e with g | ⟨_, _, _, _, _, g⟩
        · omega
        · exact hvb _ _ _ _ _ _ g
      have hst : aStore T 33 (.ptr 2 0) v' h2 = some (h2.put 2 (.cells [v'] .own)) :=
        store_1 (cs := [v]) T33 s33 (RowC.cells t2).1 (RowC.cells t2).2 (by rw [hk2 2 (by decide)]; exact g2) (by simp)
      refine ⟨h2.put 2 (.cells [v'] .own), v', ?eq, fun c hc hc2 => by rw [AH.get_put, if_neg hc2, hk2 c hc], by rw [AH.next_put]; have := sd.1; omega, by rw [AH.get_put, if_pos rfl], ?_, hv'⟩
      case eq =>
        simp +contextual (maxSteps := 3000000) only [↓ops_nil, ↓ops_cons, run_none, ↓run0_v, ↓run0_r, ↓seqK_normal, put_same, put_ne, ev_tmp, ev_const, ev_func, oc_int, o_move, o_assign, o_call, o_extract, g_none, extract_tup, Nat.reduceEqDiff, not_false_eq_true, List.getElem?_cons_zero, List.getElem?_cons_succ, List.map_cons, List.map_nil, List.append_nil, List.nil_append, ne_eq, ↓cd_seq, ↓cd_region, ↓cd_block, he5, ka, kb, callV_fn (g := 41) (by decide)]
        rw [code_drawn (by kernel_rfl) (by kernel_rfl)]
        simp +contextual (maxSteps := 3000000) only [aCond_bool, ↓ops_nil, ↓ops_cons, run_none, run_someF, ↓run0_v, ↓run0_h, ↓run0_r, ↓seqK_normal, ↓blkK_normal, put_same, put_ne, put_none, ev_tmp, ev_const, ev_func, oc_int, oc_bool, o_move, o_pick, o_bin, o_call, o_alloc, o_build, o_buildSlice, o_load, o_store, o_un, o_convert, o_fieldAddr, o_indexAddr, o_append, g_none, g_some, pick_bool, bin_gtr, un_not, Option.bind_some, Option.map_some, decide_eq_true_eq, ↓reduceIte, Nat.reduceEqDiff, not_false_eq_true, Nat.reduceAdd, Nat.reduceMul, List.getElem?_cons_zero, List.getElem?_cons_succ, List.getElem?_toArray, Bool.false_eq_true, List.map_cons, List.map_nil, List.append_nil, List.nil_append, List.cons_append, and_true, Nat.reduceLeDiff, Nat.le_refl, gt_iff_lt, Bool.not_true, ne_eq, ↓cd_skip, ↓cd_seq, ↓cd_region, ↓cd_cond, run0_h, load_fp1 T5 a5, loadc_def, conv_int T5 T3 d3, build_struct T90 d90, z90, parts_eq, fillA, AV.cells, AH.splice, List.take_succ_cons, List.take_zero, List.take_nil, List.drop_succ_cons, List.drop_zero, List.drop_nil, List.length_cons, List.length_nil, p90_0, p90_1, p90_2, build_struct T92 d92, z92, p92_0, p92_1, alloc_t T92, fa_ptr T92 p92_0 (by decide), load_p1 T3 a3, fa_ptr T92 p92_1 (by decide), load_pA T90 a90, s90, loadn_def, load_p1 T33 a33, load_pA T92 a92, s92, buildSl T33 d33 T92 (n := 1) (by rw [s92]; decide), repl, callV_fn (g := 37) (by decide), K37 h37, List.length_cons, List.length_nil, List.drop_zero, List.take_succ_cons, List.take_zero, List.take_nil, Nat.zero_add, Nat.add_zero, he4, he5, i0, i5, w0, w5, sa, sc, z2, c3, c4, t1, hst]
        exact ⟨_, rfl⟩
      · have : x.av = [.int .i64 m0, .int .i64 (256 * m1 + m2), .int .i64 (256 * m3 + m4), .int .i64 m5] := by rw [hxe]; rfl
        rw [this]
        exact t2.keep (Nat.le_refl _) fun b o k c z x e => by rw [AH.get_put, if_neg (by have := hv' _ _ _ _ _ _ e; omega)]
    | false =>
      rw [if_neg (by simp)]
      have hok' := hok
      rw [hxe] at hok'
      have st0 : aStore T 33 (.ptr 0 0) .nils hZ = some (hZ.put 0 (.cells [.nils] .own)) := store_1 (cs := [.nils]) T33 s33 rfl rfl z0 (by simp)
      have st1 : aStore T 25 (.ptr 1 0) (.int .i64 3) (hZ.put 0 (.cells [.nils] .own)) = some ((hZ.put 0 (.cells [.nils] .own)).put 1 (.cells [.int .i64 3] .own)) := store_1 (cs := [.int .i64 0]) T25 s25 rfl rfl (by rw [AH.get_put, if_neg (by decide)]; exact z1) (by simp)
      refine ⟨(hZ.put 0 (.cells [.nils] .own)).put 1 (.cells [.int .i64 3] .own), ?eq2, by rw [AH.get_put, if_neg (by decide), AH.get_put, if_pos rfl], by rw [AH.get_put, if_pos rfl], by rw [AH.get_put, if_neg (by decide), AH.get_put, if_neg (by decide), sd.2 _ (by omega)], by rw [AH.get_put, if_neg (by decide), AH.get_put, if_neg (by decide), sd.2 _ (by omega)]⟩
      case eq2 =>
        rcases ok_not hok' with c2 | ⟨c2, c3⟩ | ⟨c2, c3, c4⟩
        · exfalso
          have : m0 < 0 := c2
          omega
        · simp +contextual (maxSteps := 3000000) only [↓ops_nil, ↓ops_cons, run_none, ↓run0_v, ↓run0_r, ↓seqK_normal, put_same, put_ne, ev_tmp, ev_const, ev_func, oc_int, o_move, o_assign, o_call, o_extract, g_none, extract_tup, Nat.reduceEqDiff, not_false_eq_true, List.getElem?_cons_zero, List.getElem?_cons_succ, List.map_cons, List.map_nil, List.append_nil, List.nil_append, ne_eq, ↓cd_seq, ↓cd_region, ↓cd_block, he5, ka, kb, callV_fn (g := 41) (by decide)]
          rw [code_drawn (by kernel_rfl) (by kernel_rfl)]
          simp +contextual (maxSteps := 3000000) only [aCond_bool, ↓ops_nil, ↓ops_cons, run_none, run_someF, ↓run0_v, ↓run0_h, ↓run0_r, ↓seqK_normal, ↓seqK_ret, ↓blkK_ret, put_same, put_ne, put_none, ev_tmp, ev_const, ev_func, oc_int, oc_bool, oc_nils, o_move, o_pick, o_bin, o_call, o_alloc, o_build, o_load, o_store, o_un, o_convert, o_fieldAddr, o_indexAddr, g_none, g_some, pick_bool, bin_gtr, Option.bind_some, Option.map_some, decide_eq_true_eq, ↓reduceIte, Nat.reduceEqDiff, not_false_eq_true, Nat.reduceAdd, List.getElem?_cons_zero, List.getElem?_cons_succ, List.getElem?_toArray, List.map_cons, List.map_nil, List.append_nil, List.nil_append, List.cons_append, and_true, Nat.reduceLeDiff, Nat.le_refl, gt_iff_lt, ne_eq, ↓cd_seq, ↓cd_region, ↓cd_cond, ↓cd_ret, run0_h, load_fp1 T5 a5, loadc_def, conv_int T5 T3 d3, build_struct T90 d90, z90, parts_eq, fillA, AV.cells, AH.splice, List.take_succ_cons, List.take_zero, List.drop_succ_cons, List.drop_zero, List.drop_nil, List.length_cons, List.length_nil, p90_0, p90_1, p90_2, build_struct T92 d92, z92, p92_0, p92_1, alloc_t T92, fa_ptr T92 p92_0 (by decide), load_p1 T3 a3, fa_ptr T92 p92_1 (by decide), callV_fn (g := 37) (by decide), List.length_cons, List.length_nil, List.drop_zero, List.take_succ_cons, List.take_zero, Nat.zero_add, Nat.add_zero, he2, he3, he5, i0, i5, w0, w5, sa, sc, c3, st0, st1]
          exact ⟨_, rfl⟩
        · simp +contextual (maxSteps := 3000000) only [↓ops_nil, ↓ops_cons, run_none, ↓run0_v, ↓run0_r, ↓seqK_normal, put_same, put_ne, ev_tmp, ev_const, ev_func, oc_int, o_move, o_assign, o_call, o_extract, g_none, extract_tup, Nat.reduceEqDiff, not_false_eq_true, List.getElem?_cons_zero, List.getElem?_cons_succ, List.map_cons, List.map_nil, List.append_nil, List.nil_append, ne_eq, ↓cd_seq, ↓cd_region, ↓cd_block, he5, ka, kb, callV_fn (g := 41) (by decide)]
          rw [code_drawn (by kernel_rfl) (by kernel_rfl)]
          simp +contextual (maxSteps := 3000000) only [aCond_bool, ↓ops_nil, ↓ops_cons, run_none, run_someF, ↓run0_v, ↓run0_h, ↓run0_r, ↓seqK_normal, ↓seqK_ret, ↓blkK_ret, put_same, put_ne, put_none, ev_tmp, ev_const, ev_func, oc_int, oc_bool, oc_nils, o_move, o_pick, o_bin, o_call, o_alloc, o_build, o_load, o_store, o_un, o_convert, o_fieldAddr, o_indexAddr, g_none, g_some, pick_bool, bin_gtr, un_not, Option.bind_some, Option.map_some, decide_eq_true_eq, ↓reduceIte, Nat.reduceEqDiff, not_false_eq_true, Nat.reduceAdd, List.getElem?_cons_zero, List.getElem?_cons_succ, List.getElem?_toArray, List.map_cons, List.map_nil, List.append_nil, List.nil_append, List.cons_append, and_true, Nat.reduceLeDiff, Nat.le_refl, gt_iff_lt, Bool.not_false, ne_eq, ↓cd_seq, ↓cd_region, ↓cd_cond, ↓cd_ret, run0_h, load_fp1 T5 a5, loadc_def, conv_int T5 T3 d3, build_struct T90 d90, z90, parts_eq, fillA, AV.cells, AH.splice, List.take_succ_cons, List.take_zero, List.take_nil, List.drop_succ_cons, List.drop_zero, List.drop_nil, List.length_cons, List.length_nil, p90_0, p90_1, p90_2, build_struct T92 d92, z92, p92_0, p92_1, alloc_t T92, fa_ptr T92 p92_0 (by decide), load_p1 T3 a3, fa_ptr T92 p92_1 (by decide), load_pA T90 a90, s90, loadn_def, callV_fn (g := 37) (by decide), K37 h37, List.length_cons, List.length_nil, List.drop_zero, List.take_succ_cons, List.take_zero, List.take_nil, Nat.zero_add, Nat.add_zero, he2, he3, he5, i0, i5, w0, w5, sa, sc, c3, c4, st0, st1]
          exact ⟨_, rfl⟩
  · simp only [put_ne, put_same, Nat.reduceEqDiff, not_false_eq_true, ne_eq]
  · simp only [put_ne, put_same, Nat.reduceEqDiff, not_false_eq_true, ne_eq]
  · simp only [put_ne, put_same, Nat.reduceEqDiff, not_false_eq_true, ne_eq]
  · simp only [put_same]
  · intro H' hJ
    rcases hJ with hJ | hE
    · obtain ⟨v, g2, hrow, hvb⟩ := hJ.g2
      rw [endRange_ready hJ.g6]
      have p5 : (H'.put 6 .dead).get 5 = some .dfr := by rw [AH.get_put, if_neg (by decide)]; exact hJ.g5
      have p2 : (H'.put 6 .dead).get 2 = some (.cells [v] .own) := by rw [AH.get_put, if_neg (by decide)]; exact g2
      have p0 : (H'.put 6 .dead).get 0 = some (.cells [.nils] .own) := by rw [AH.get_put, if_neg (by decide)]; exact hJ.g0
      have p1 : (H'.put 6 .dead).get 1 = some (.cells [.int .i64 0] .own) := by rw [AH.get_put, if_neg (by decide)]; exact hJ.g1
      have hvc := RowC.cells hrow
      obtain ⟨HD, hHD⟩ : ∃ HD, HD = H'.put 6 .dead := ⟨_, rfl⟩
      rw [← hHD] at p5 p2 p0 p1 ⊢
      have st0 : aStore T 33 (.ptr 0 0) v HD = some (HD.put 0 (.cells [v] .own)) := store_1 (cs := [.nils]) T33 s33 hvc.1 hvc.2 p0 (by simp)
      have st1 : aStore T 25 (.ptr 1 0) (.int .i64 0) (HD.put 0 (.cells [v] .own)) = some ((HD.put 0 (.cells [v] .own)).put 1 (.cells [.int .i64 0] .own)) := store_1 (cs := [.int .i64 0]) T25 s25 rfl rfl (by rw [AH.get_put, if_neg (by decide)]; exact p1) (by simp)
      obtain ⟨HE, hHE⟩ : ∃ HE, HE = (HD.put 0 (.cells [v] .own)).put 1 (.cells [.int .i64 0] .own) := ⟨_, rfl⟩
      rw [← hHE] at st1
      have r5 : HE.get 5 = some .dfr := by rw [hHE, AH.get_put, if_neg (by decide), AH.get_put, if_neg (by decide)]; exact p5
      have r0 : HE.get 0 = some (.cells [v] .own) := by rw [hHE, AH.get_put, if_neg (by decide), AH.get_put, if_pos rfl]
      have r1 : HE.get 1 = some (.cells [.int .i64 0] .own) := by rw [hHE, AH.get_put, if_pos rfl]
      have r0' : (HE.put 5 .dead).get 0 = some (.cells [v] .own) := by rw [AH.get_put, if_neg (by decide)]; exact r0
      have r1' : (HE.put 5 .dead).get 1 = some (.cells [.int .i64 0] .own) := by rw [AH.get_put, if_neg (by decide)]; exact r1
      have hG : getP b = (chunkE b N, 0) := by
        have hall := hJ.ok
        rw [List.take_of_length_le (by rw [chunk_len]; omega)] at hall
        unfold getP getE; rw [← hN, if_pos ⟨⟨q1, q5, by omega⟩, hall⟩]
      simp +contextual (maxSteps := 3000000) only [↓ops_nil, ↓ops_cons, run_none, ↓run0_v, ↓run0_h, ↓seqK_normal, ↓blkK_normal, ↓retK_ret, put_same, put_ne, put_none, ev_tmp, ev_const, oc_int, o_load, o_store, g_none, resultsOf, oneOrAll, Option.bind_some, Option.map_some, Nat.reduceEqDiff, not_false_eq_true, List.getElem?_cons_zero, ne_eq, ↓codR_seq, ↓codR_region, ↓codR_ret, retM_ret, marks_mark, marks_bad, run0_h, loadc_def, load_p1 T33 a33, load_p1 T25 a25, p2, st0, st1, marksEnd_one r5, r0', r1']
      unfold GE
      rw [hG]
      refine ⟨_, _, rfl, ?_⟩
      rw [List.take_of_length_le (by rw [chunk_len]; omega)] at hrow
      show RowC 4 _ v (chunkE b N).length (fl Ev.av (chunkE b N))
      rw [chunk_len]
      refine hrow.keep (by rw [AH.next_put, hHE, hHD]; simp) fun b o k c z x e => ?_
      have := hvb _ _ _ _ _ _ e
      rw [AH.get_put, if_neg (by omega), hHE, AH.get_put, if_neg (by omega), AH.get_put, if_neg (by omega), hHD, AH.get_put, if_neg (by omega)]
    · rw [endRange_ret hE.g6]
      have p5 : (H'.put 6 .dead).get 5 = some .dfr := by rw [AH.get_put, if_neg (by decide)]; exact hE.g5
      have p0 : ((H'.put 6 .dead).put 5 .dead).get 0 = some (.cells [.nils] .own) := by rw [AH.get_put, if_neg (by decide), AH.get_put, if_neg (by decide)]; exact hE.g0
      have p1 : ((H'.put 6 .dead).put 5 .dead).get 1 = some (.cells [.int .i64 3] .own) := by rw [AH.get_put, if_neg (by decide), AH.get_put, if_neg (by decide)]; exact hE.g1
      simp +contextual (maxSteps := 3000000) only [↓seqK_ret, ↓blkK_ret, ↓retK_ret, put_same, put_ne, resultsOf, oneOrAll, Option.bind_some, Option.map_some, Nat.reduceEqDiff, not_false_eq_true, List.getElem?_cons_zero, ne_eq, retM_ret, marks_mark, marks_bad, loadc_def, load_p1 T33 a33, load_p1 T25 a25, marksEnd_one p5, p0, p1]
      exact GE.bad hE.bad
end Go.AM.X
