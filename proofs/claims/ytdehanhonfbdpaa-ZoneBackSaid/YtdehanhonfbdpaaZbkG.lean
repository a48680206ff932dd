/- Pieces, the program's way: the walk. Own work. -/
import Derived.Test.YtdehanhonfbdpaaZbkF
namespace Go.AM.X
open Go Go.AM Go.Proofs Go.AM.Sx
set_option maxHeartbeats 1600000
set_option maxRecDepth 100000
set_option linter.unusedVariables false
theorem K59 {I : Nat → Option (List AV → AH → Rs)} (h59 : I 59 = none) (m : Nat) (ex : Bool) (n : Nat) (cs : List AV) (h : AH) : call F I T (m + 1) 59 [.lst ex 1 n cs, .int .i64 3] h =
    some (.fn 97 [] [.ptr h.next 0, .ptr (h.next + 1) 0], (h.alloc (.cells [.lst ex 1 n cs] .own)).alloc (.cells [.int .i64 3] .own)) := by
  have c1 : ¬ (3 : Int) < 1 := by omega
  rw [call_F (by decide) h59 F59 rfl R59]; simp only [Try.f59, Option.getD]
  simp +contextual (maxSteps := 3000000) only [↓code_skip, ↓code_seq, ↓code_region, ↓code_cond, ↓code_ret, aCond_bool, ↓ops_nil, ↓ops_cons, run_none, ↓run0_v, ↓run0_r, ↓seqK_normal, ↓retK_ret, put_same, put_ne, env0_at, ev_tmp, ev_const, oc_int, oc_nilf, o_assign, o_bin, o_box, o_load, o_makeFunc, g_none, bin_lss, resultsOf, oneOrAll, Option.map_some, Option.getD_some, decide_eq_true_eq, ↓reduceIte, Nat.reduceEqDiff, not_false_eq_true, List.getElem?_cons_zero, List.getElem?_cons_succ, List.map_cons, List.map_nil, AH.get_alloc, AH.next_alloc, ne_eq, box_int, box_lst, load_p1 T3 a3, loadc_def, c1]
theorem F17 : F 17 = some { body := (Try.f17.body.getD .skip), results := Try.f17.results.toList, rf := true } := by kernel_rfl
theorem R17 : regsOkR T (Try.f17.body.getD .skip) = true := by kernel_rfl
/-- The pieces' loop: what stands in memory. -/
structure J17 (net : Int) (l : List (List UInt8)) (e1 : Env) (asg bdy : Code) (j : Nat) (H : AH) : Prop where
  g0 : H.get 0 = some (.cells [.int .i64 net] .own)
  g1 : H.get 1 = some (.cells [.lst false 1 l.length (l.map .str)] .own)
  g2 : ∃ v, H.get 2 = some (.cells [v] .own) ∧ Row 1 H v j ((pieces net l j).map vB.enc) ∧ ∀ b o k c z x, v = .sl b o k c z x → 7 ≤ b
  g3 : H.get 3 = some (.cells [.lst false 1 l.length (l.map .str)] .own)
  g4 : H.get 4 = some (.cells [.int .i64 3] .own)
  g5 : H.get 5 = some .dfr
  g6 : H.get 6 = some (.loop e1 [18] asg bdy .ready)
  nx : 7 ≤ H.next
theorem zip_rep (net : Int) (zs : List (List UInt8)) : (List.replicate zs.length net).zip zs = pairsOf net zs := by
  induction zs with
  | nil => rfl
  | cons z zs ih => simp only [List.length_cons, List.replicate_succ, List.zip_cons_cons, ih]; rfl
def P17 (net : Int) (l : List (List UInt8)) (r : Rs) : Prop :=
  if isNet net = true ∧ isList l = true then ∃ h' v, r = some (.tup [v, .int .i64 0], h') ∧ Row 1 h' v ((l.length + 2) / 3) ((pieces net l ((l.length + 2) / 3)).map vB.enc)
  else ∃ h', r = some (.tup [.nils, .int .i64 2], h')
theorem range17 {I : Nat → Option (List AV → AH → Rs)} (h97 : I 97 = none) (net : Int) (l : List (List UInt8)) (m : Nat) (hlen : l.length ≤ 900) {asg bdy : Code} {e : Env} {K : Kt} (Q : Rs → Prop)
    (hasg : ∀ (e : Env) (h : AH) (K : Kt), code (call F I T (m + 1007)) T (m + 1007) false asg e h K = K .normal (e.put (some 7) (e 18)) h)
    (hbdy : ∀ (j : Nat) (H : AH) (zs : List (List UInt8)) (v : AV) (es : List AV) (e2 : Env) (K : Kt), e2 2 = .ptr 0 0 → e2 3 = .ptr 1 0 → e2 6 = .ptr 2 0 → e2 7 = .lst true 1 zs.length (zs.map .str) → 1 ≤ zs.length → zs.length ≤ 3 → (∀ z ∈ zs, z ∈ l) →
      H.get 0 = some (.cells [.int .i64 net] .own) → H.get 1 = some (.cells [.lst false 1 l.length (l.map .str)] .own) → H.get 2 = some (.cells [v] .own) → Row 1 H v j es → j ≤ 900 → (∀ b o k c z x, v = .sl b o k c z x → 7 ≤ b) → 7 ≤ H.next →
      ∃ H3 v', (∃ e3, code (call F I T (m + 1007)) T (m + 1007) false bdy e2 H K = K .normal e3 H3) ∧ (∀ c, c < 7 → c ≠ 2 → H3.get c = H.get c) ∧ H.next ≤ H3.next ∧ H3.get 2 = some (.cells [v'] .own) ∧ Row 1 H3 v' (j + 1) (es ++ [vB.enc (piece net l.length zs)]) ∧
        (∀ b o k c z x, v' = .sl b o k c z x → 7 ≤ b))
    (he2 : e 2 = .ptr 0 0) (he3 : e 3 = .ptr 1 0) (he6 : e 6 = .ptr 2 0) (he17 : e 17 = .fn 97 [] [.ptr 3 0, .ptr 4 0])
    (hend : ∀ H', J17 net l e asg bdy ((l.length + 2) / 3) H' → Q (endRange K (e.put (some 4000000001) (.mark (5 :: marks (e 4000000001)))) 6 H')) :
    Q (codR (call F I T (m + 1009)) T (m + 1009) (.rangeFunc (.tmp 17) #[18] asg bdy) e
      (((((e0.alloc (.cells [.int .i64 net] .own)).alloc (.cells [.lst false 1 l.length (l.map .str)] .own)).alloc (.cells [.nils] .own)).alloc (.cells [.lst false 1 l.length (l.map .str)] .own)).alloc (.cells [.int .i64 3] .own)) K) := by
  obtain ⟨H0, hH0⟩ : ∃ H0, H0 = (((((e0.alloc (.cells [.int .i64 net] .own)).alloc (.cells [.lst false 1 l.length (l.map .str)] .own)).alloc (.cells [.nils] .own)).alloc (.cells [.lst false 1 l.length (l.map .str)] .own)).alloc (.cells [.int .i64 3] .own)) := ⟨_, rfl⟩
  rw [← hH0]
  have hn : H0.next = 5 := by rw [hH0]; rfl
  have hget : ∀ c, (((H0.alloc .dfr).alloc (.loop e [18] asg bdy .ready)).get c) = if c = 6 then some (.loop e [18] asg bdy .ready) else if c = 5 then some .dfr else if c = 4 then some (.cells [.int .i64 3] .own) else
      if c = 3 then some (.cells [.lst false 1 l.length (l.map .str)] .own) else if c = 2 then some (.cells [.nils] .own) else if c = 1 then some (.cells [.lst false 1 l.length (l.map .str)] .own) else if c = 0 then some (.cells [.int .i64 net] .own) else none := by
    intro c
    simp only [AH.get_alloc, AH.next_alloc, hH0, next_e0, get_e0]
  have hstep : ∀ j H, 3 * j < l.length → J17 net l e asg bdy j H → ∃ H', call F I T (m + 8 + 1000) YLD [.yld 6, .lst true 1 (min 3 (l.length - 3 * j)) (((l.drop (3 * j)).take 3).map .str)] H = some (.bool true, H') ∧ J17 net l e asg bdy (j + 1) H' := by
    intro j H hj hJ
    obtain ⟨v, g2, hrow, hvb⟩ := hJ.g2
    have hzl : ((l.drop (3 * j)).take 3).length = min 3 (l.length - 3 * j) := by simp
    obtain ⟨Hb, hHb⟩ : ∃ Hb, Hb = H.put 6 (.loop e [18] asg bdy .busy) := ⟨_, rfl⟩
    have hbg : ∀ c, c ≠ 6 → Hb.get c = H.get c := fun c hc => by rw [hHb, AH.get_put, if_neg hc]
    have hbn : Hb.next = H.next := by rw [hHb]; rfl
    have hrowb : Row 1 Hb v j ((pieces net l j).map vB.enc) := hrow.keep (by omega) (fun b hv => hbg b (by have := hvb _ _ _ _ _ _ hv; omega))
    obtain ⟨H3, v', ⟨e3, k1⟩, k2, k3, k4, k5, k6⟩ := hbdy j Hb ((l.drop (3 * j)).take 3) v _ ((e.put (some 18) (.lst true 1 (min 3 (l.length - 3 * j)) (((l.drop (3 * j)).take 3).map .str))).put (some 7) (.lst true 1 (min 3 (l.length - 3 * j)) (((l.drop (3 * j)).take 3).map .str))) (endRound 6)
      (by simp only [put_ne, Nat.reduceEqDiff, not_false_eq_true, he2, ne_eq]) (by simp only [put_ne, Nat.reduceEqDiff, not_false_eq_true, he3, ne_eq]) (by simp only [put_ne, Nat.reduceEqDiff, not_false_eq_true, he6, ne_eq]) (by rw [put_same, hzl]) (by rw [hzl]; omega) (by rw [hzl]; omega)
      (fun z hz => List.mem_of_mem_drop (List.mem_of_mem_take hz)) (by rw [hbg _ (by decide)]; exact hJ.g0) (by rw [hbg _ (by decide)]; exact hJ.g1) (by rw [hbg _ (by decide)]; exact g2) hrowb (by omega) hvb (by have := hJ.nx; omega)
    have k7 : H3.get 6 = some (.loop e [18] asg bdy .busy) := by rw [k2 6 (by decide) (by decide), hHb, AH.get_put, if_pos rfl]
    refine ⟨H3.put 6 (.loop e [18] asg bdy .ready), ?_, ?_⟩
    · show call F I T ((m + 1007) + 1) YLD _ H = _
      rw [call_yld, yield_ready hJ.g6 rfl, setPs_one, hasg, put_same, mid_ready hJ.g6, ← hHb, k1, end_normal k7]
    · have hg3 : ∀ c, c < 7 → c ≠ 2 → c ≠ 6 → (H3.put 6 (.loop e [18] asg bdy .ready)).get c = H.get c := fun c h1 h2 h3 => by
        rw [AH.get_put, if_neg h3, k2 c h1 h2, hbg c h3]
      refine ⟨by rw [hg3 _ (by decide) (by decide) (by decide)]; exact hJ.g0, by rw [hg3 _ (by decide) (by decide) (by decide)]; exact hJ.g1, ⟨v', by rw [AH.get_put, if_neg (by decide)]; exact k4, ?_, k6⟩,
        by rw [hg3 _ (by decide) (by decide) (by decide)]; exact hJ.g3, by rw [hg3 _ (by decide) (by decide) (by decide)]; exact hJ.g4, by rw [hg3 _ (by decide) (by decide) (by decide)]; exact hJ.g5, by rw [AH.get_put, if_pos rfl], ?_⟩
      · rw [pieces_succ, List.map_append]
        exact k5.put (fun b o k c z x hv => by have := k6 _ _ _ _ _ _ hv; omega) _
      · have := hJ.nx; rw [AH.next_put]; omega
  have hz : J17 net l e asg bdy 0 ((H0.alloc .dfr).alloc (.loop e [18] asg bdy .ready)) := by
    refine ⟨by rw [hget]; rfl, by rw [hget]; rfl, ⟨.nils, by rw [hget]; rfl, Row.nil _ _, fun b o k c z x hv => by cases hv⟩, by rw [hget]; rfl, by rw [hget]; rfl, by rw [hget]; rfl, by rw [hget]; rfl, by simp [hn]⟩
  obtain ⟨H', hc, hJ⟩ := run97 h97 l (m + 8) 6 3 4 (J17 net l e asg bdy) ((H0.alloc .dfr).alloc (.loop e [18] asg bdy .ready)) hlen (fun j H hJ => ⟨hJ.g3, hJ.g4⟩) hstep hz
  refine range_go (v := .tup []) (H' := H') (Q := Q) ?_ (by rw [hn]; exact hend H' hJ)
  rw [ev_tmp, he17, hn]
  exact hc
theorem run17 {I : Nat → Option (List AV → AH → Rs)} (h24 : I 24 = some (pureG g24)) (h51 : I 51 = none) (h57 : I 57 = some (pureG g57)) (h59 : I 59 = none) (h60 : I 60 = some (pureN g60)) (h17 : I 17 = none) (h97 : I 97 = none) (net : Int) (l : List (List UInt8)) (m : Nat) (hl : small l) :
    P17 net l (call F I T (m + 1010) 17 [.int .i64 net, .lst false 1 l.length (l.map .str)] e0) := by
  unfold P17
  rw [callR_F (by decide) h17 F17 rfl rfl R17]; simp only [Try.f17, Option.getD]
  cases q1 : isNet net with
  | false =>
    rw [if_neg (by simp)]
    simp +contextual (maxSteps := 3000000) only [aCond_bool, ↓ops_nil, ↓ops_cons, run_none, run_someF, ↓run0_v, ↓run0_r, ↓seqK_normal, ↓seqK_ret, ↓retK_ret, put_same, put_ne, env0_at, ev_tmp, ev_const, ev_func, oc_int, oc_bool, oc_nils, o_move, o_assign, o_pick, o_call, o_box, o_load, o_un, g_none, g_some, pick_bool, un_not, next_e0, resultsOf, oneOrAll, Option.bind_some, Option.map_some, Option.getD_some, ↓reduceIte, Nat.reduceEqDiff, not_false_eq_true, Nat.reduceAdd, reduceCtorEq, List.getElem?_cons_zero, List.getElem?_cons_succ, List.getElem?_toArray, List.map_cons, List.map_nil, List.append_nil, List.nil_append, AH.get_alloc, AH.next_alloc, Bool.not_false, ne_eq, ↓codR_seq, ↓codR_region, ↓codR_cond, ↓codR_ret, retM_ret, marks_bad, box_int, box_lst, load_p1 T3 a3, loadc_def, load_p1 T23 a23, callV_fn (g := 24) (by decide), callV_fn (g := 51) (by decide), K51 h51, q1, marksEnd_nil]
    exact ⟨_, rfl⟩
  | true =>
    cases q2 : isList l with
    | false =>
      rw [if_neg (by simp)]
      simp +contextual (maxSteps := 3000000) only [aCond_bool, ↓ops_nil, ↓ops_cons, run_none, run_someF, ↓run0_v, ↓run0_r, ↓seqK_normal, ↓seqK_ret, ↓retK_ret, put_same, put_ne, env0_at, ev_tmp, ev_const, ev_func, oc_int, oc_bool, oc_nils, o_move, o_assign, o_pick, o_call, o_box, o_load, o_un, g_none, g_some, pick_bool, un_not, next_e0, resultsOf, oneOrAll, Option.bind_some, Option.map_some, Option.getD_some, ↓reduceIte, Nat.reduceEqDiff, not_false_eq_true, Nat.reduceAdd, reduceCtorEq, List.getElem?_cons_zero, List.getElem?_cons_succ, List.getElem?_toArray, Bool.false_eq_true, List.map_cons, List.map_nil, List.append_nil, List.nil_append, AH.get_alloc, AH.next_alloc, Bool.not_true, Bool.not_false, ne_eq, ↓codR_seq, ↓codR_region, ↓codR_cond, ↓codR_ret, retM_ret, marks_bad, box_int, box_lst, load_p1 T3 a3, loadc_def, load_p1 T23 a23, callV_fn (g := 24) (by decide), K24 h24, callV_fn (g := 51) (by decide), K51 h51, q1, q2, hl, marksEnd_nil]
      exact ⟨_, rfl⟩
    | true =>
      rw [if_pos ⟨rfl, rfl⟩]
      obtain ⟨l1, l2, hall⟩ := isList_mem q2
      simp +contextual (maxSteps := 3000000) only [aCond_bool, ↓ops_nil, ↓ops_cons, run_none, run_someF, ↓run0_v, ↓run0_r, ↓seqK_normal, put_same, put_ne, env0_at, ev_tmp, ev_const, ev_func, oc_int, oc_bool, oc_nils, o_move, o_assign, o_pick, o_call, o_alloc, o_box, o_load, o_un, g_none, g_some, pick_bool, un_not, next_e0, Option.bind_some, Option.getD_some, ↓reduceIte, Nat.reduceEqDiff, not_false_eq_true, Nat.reduceAdd, reduceCtorEq, List.getElem?_cons_zero, List.getElem?_cons_succ, List.getElem?_toArray, Bool.false_eq_true, List.map_cons, List.map_nil, List.append_nil, List.nil_append, AH.get_alloc, AH.next_alloc, Bool.not_true, ne_eq, ↓codR_skip, ↓codR_seq, ↓codR_region, ↓codR_cond, ↓codR_block, box_int, box_lst, load_p1 T3 a3, loadc_def, load_p1 T23 a23, alloc_t T30, z30, callV_fn (g := 24) (by decide), K24 h24, callV_fn (g := 51) (by decide), K51 h51, callV_fn (g := 59) (by decide), K59 h59, q1, q2, hl]
      have hss : ∀ c : List (List UInt8), sameV (.lst false 1 c.length (c.map .str)) (.lst false 1 c.length (c.map .str)) = true := fun c => sameV_refl (fun _ h => by cases h) (by
        simp only [AV.plainV]
        induction c with
        | nil => rfl
        | cons z zs ih => simp only [List.map_cons, plainL, AV.plainV, ih, Bool.and_self])
      refine range17 h97 net l m (by omega) (fun r => ∃ h' v, r = some (.tup [v, .int .i64 0], h') ∧ Row 1 h' v ((l.length + 2) / 3) ((pieces net l ((l.length + 2) / 3)).map vB.enc)) ?_ ?_ ?_ ?_ ?_ ?_ ?_
      · intro e h K
        simp +contextual (maxSteps := 3000000) only [↓ops_nil, ↓ops_cons, run_none, ↓run0_v, ev_tmp, o_assign, g_none, code_undrawn]
      · intro j H zs v es e2 K he2 he3 he6 he7 hz1 hz3 hzl g0 g1 g2 hrow hj hvb hnx
        have n0 : ¬ (0 = H.next) := by omega
        have n1 : ¬ (1 = H.next) := by omega
        have n2 : ¬ (2 = H.next) := by omega
        have n3 : ¬ (2 = H.next + 1) := by omega
        have hsv : sameV v v = true := by
          rcases hrow with ⟨rfl, _⟩ | ⟨b, rfl, _⟩
          · rfl
          · simp [sameV]
        obtain ⟨H1, hH1⟩ : ∃ H1, H1 = H.alloc (.cells [.int .i64 net] .own) := ⟨_, rfl⟩
        have hn1 : H1.next = H.next + 1 := by rw [hH1]; rfl
        have c60 : call F I T (m + 1007) 60 [.sl H.next 0 1 1 1 true, .int .i64 (zs.length : Nat)] H1 = some (.lst true 1 zs.length (List.replicate zs.length (.int .i64 net)), H1) :=
          K60r h60 (m + 1006) H.next zs.length net H1 (by rw [hH1, AH.get_alloc, if_pos rfl]) ⟨hz1, hz3⟩
        have c57 : call F I T (m + 1007) 57 [.int .u8 8, .int .i64 (l.length : Nat), .lst true 1 zs.length (List.replicate zs.length (.int .i64 net)), .lst true 1 zs.length (zs.map .str)] H1 = some (vB.enc (piece net l.length zs), H1) := by
          have h1 := K57 h57 (m + 1006) 8 (l.length : Nat) (List.replicate zs.length net) zs true true H1 (by simp) (by
            rw [zip_rep]
            refine ⟨by simp [pairsOf]; omega, fun x hx => ?_⟩
            simp only [pairsOf, List.mem_map] at hx
            obtain ⟨y, hy, rfl⟩ := hx
            exact ⟨q1, hall y (hzl y hy)⟩) ⟨by omega, by omega⟩
          rw [zip_rep, List.length_replicate, List.map_replicate] at h1
          exact h1
        obtain ⟨H2, hH2⟩ : ∃ H2, H2 = H1.alloc (.cells [vB.enc (piece net l.length zs)] .own) := ⟨_, rfl⟩
        have hrow1 : Row 1 H1 v j es := by rw [hH1]; exact hrow.alloc _
        obtain ⟨v', H3, happ, hrow', hnx', hvb', hk'⟩ := hrow1.push T30 d30 T25 s25 (by rw [b25]; decide) (x := vB.enc (piece net l.length zs)) rfl (by rw [b25]; unfold maxBytes; omega)
        rw [← hH2, hn1] at happ
        have hoff : ∀ c, c < 7 → offRow v c := fun c hc b o k x z y hv => by have := hvb _ _ _ _ _ _ hv; omega
        have hk3 : ∀ c, c < 7 → H3.get c = H.get c := fun c hc => by
          rw [hk' c (by omega) (hoff c hc), hH1, AH.get_alloc, if_neg (by omega)]
        have hvc : v'.cells = some [v'] ∧ v'.one = true := by
          rcases hrow' with ⟨rfl, _⟩ | ⟨b, rfl, _⟩ <;> exact ⟨rfl, rfl⟩
        have hst : aStore T 30 (.ptr 2 0) v' H3 = some (H3.put 2 (.cells [v'] .own)) :=
          store_1 (cs := [v]) T30 s30 hvc.1 hvc.2 (by rw [hk3 2 (by decide)]; exact g2) (by simp)
        refine ⟨H3.put 2 (.cells [v'] .own), v', ?eq, fun c hc hc2 => by rw [AH.get_put, if_neg hc2, hk3 c hc], by rw [AH.next_put]; omega, by rw [AH.get_put, if_pos rfl], hrow'.put (fun b o k c z x hv => by have := hvb' _ _ _ _ _ _ hv; omega) _, fun b o k c z x hv => by have := hvb' _ _ _ _ _ _ hv; omega⟩
        case eq =>
          rw [code_block', code_soft (ss := [(0, 0, 11), (1, 0, 9)]) (by kernel_rfl) (by kernel_rfl) (by simp)]
          have g10 : H1.get 0 = some (.cells [.int .i64 net] .own) := by rw [hH1, AH.get_alloc, if_neg n0]; exact g0
          have g11 : H1.get 1 = some (.cells [.lst false 1 l.length (l.map .str)] .own) := by rw [hH1, AH.get_alloc, if_neg n1]; exact g1
          have g12 : H1.get 2 = some (.cells [v] .own) := by rw [hH1, AH.get_alloc, if_neg n2]; exact g2
          have g22 : H2.get 2 = some (.cells [v] .own) := by rw [hH2, AH.get_alloc, hn1, if_neg n3]; exact g12
          obtain ⟨nn, cc, hu⟩ : ∃ nn cc, vB.enc (piece net l.length zs) = .lst false 1 nn cc := ⟨_, _, rfl⟩
          rw [hu] at c57 hH2
          simp +contextual (maxSteps := 3000000) only [run_none, ↓run0_v, ↓run0_h, ↓run0_r, ↓blkK_normal, put_same, put_ne, put_none, ev_tmp, ev_const, ev_func, oc_int, o_move, o_call, o_len, o_buildSlice, o_load, o_store, o_append, g_none, Option.bind_some, ↓reduceIte, Nat.reduceEqDiff, not_false_eq_true, Nat.reduceAdd, Nat.reduceMul, List.getElem?_cons_zero, List.map_cons, List.map_nil, List.append_nil, List.nil_append, List.cons_append, and_true, Nat.le_refl, ne_eq, load_p1 T3 a3, loadc_def, load_p1 T23 a23, load_p1 T30 a30, len_lst T23 d23, buildSl T22 d22 T3 (n := 1) (by rw [s3]; decide), s3, z3, parts_eq, fillA, AV.cells, AH.splice, List.take_zero, List.drop_succ_cons, List.drop_nil, List.length_cons, List.length_nil, repl, buildSl T30 d30 T25 (n := 1) (by rw [s25]; decide), s25, z25, run0_h, callV_fn (g := 57) (by decide), callV_fn (g := 60) (by decide), opsTr_nil, opsTr_cons, he2, he3, he6, he7, g0, g1, g2, ← hH1, ← hH2, hn1, c60, c57, happ, hst]
          refine ⟨_, soft_go rfl ?_⟩
          have l0 : aLoad T 30 (.ptr 2 0) H = some v := by simp only [List.getElem?_cons_zero, loadc_def, load_p1 T30 a30, g2]
          have l1 : aLoad T 30 (.ptr 2 0) H1 = some v := by simp only [List.getElem?_cons_zero, loadc_def, load_p1 T30 a30, g12]
          have l2' : aLoad T 30 (.ptr 2 0) H2 = some v := by simp only [List.getElem?_cons_zero, loadc_def, load_p1 T30 a30, g22]
          have g21 : H2.get 1 = some (.cells [.lst false 1 l.length (l.map .str)] .own) := by rw [hH2, AH.get_alloc, hn1, if_neg (by omega)]; exact g11
          have k0 : aLoad T 23 (.ptr 1 0) H = some (.lst false 1 l.length (l.map .str)) := by simp only [List.getElem?_cons_zero, loadc_def, load_p1 T23 a23, g1]
          have k1 : aLoad T 23 (.ptr 1 0) H1 = some (.lst false 1 l.length (l.map .str)) := by simp only [List.getElem?_cons_zero, loadc_def, load_p1 T23 a23, g11]
          refine softOk_cons (v := v) rfl rfl (stepV_load (by simp only [ev_tmp, he6]; exact l0)) hsv (by simp) (fun q hq => ?_) (softOk_cons (v := .lst false 1 l.length (l.map .str)) rfl rfl (stepV_load (by simp only [ev_tmp, put_ne, Nat.reduceEqDiff, not_false_eq_true, ne_eq, he3]; exact k0)) (hss l) (by simp) (fun q hq => ?_) rfl)
          · have : q.2 = H ∨ q.2 = H1 ∨ q.2 = H2 := by
              simp only [List.take_succ_cons, List.take_zero, List.mem_cons, List.not_mem_nil, or_false] at hq
              rcases hq with rfl | rfl | rfl | rfl | rfl | rfl | rfl | rfl | rfl | rfl | rfl | rfl <;> simp
            refine stepV_load ?_
            simp only [ev_tmp, he6]
            rcases this with h | h | h <;> rw [h] <;> assumption
          · have : q.2 = H ∨ q.2 = H1 := by
              simp only [List.take_succ_cons, List.take_zero, List.mem_cons, List.not_mem_nil, or_false] at hq
              rcases hq with rfl | rfl | rfl | rfl | rfl | rfl | rfl | rfl | rfl | rfl <;> simp
            refine stepV_load ?_
            simp only [ev_tmp, put_ne, Nat.reduceEqDiff, not_false_eq_true, ne_eq, he3]
            rcases this with h | h <;> rw [h] <;> assumption
      · simp only [put_ne, put_same, Nat.reduceEqDiff, not_false_eq_true, ne_eq]
      · simp only [put_ne, put_same, Nat.reduceEqDiff, not_false_eq_true, ne_eq]
      · simp only [put_ne, put_same, Nat.reduceEqDiff, not_false_eq_true, ne_eq]
      · simp only [put_same]
      · intro H' hJ
        obtain ⟨v, g2, hrow, hvb⟩ := hJ.g2
        rw [endRange_ready hJ.g6]
        have g5 : (H'.put 6 .dead).get 5 = some .dfr := by rw [AH.get_put, if_neg (by decide)]; exact hJ.g5
        have g2' : (H'.put 6 .dead).get 2 = some (.cells [v] .own) := by rw [AH.get_put, if_neg (by decide)]; exact g2
        simp +contextual (maxSteps := 3000000) only [↓ops_nil, ↓ops_cons, run_none, ↓run0_v, ↓seqK_normal, ↓blkK_normal, ↓retK_ret, put_same, put_ne, ev_tmp, ev_const, oc_int, o_assign, o_load, g_none, resultsOf, oneOrAll, Option.bind_some, Option.map_some, Nat.reduceEqDiff, not_false_eq_true, List.getElem?_cons_zero, ne_eq, ↓codR_seq, ↓codR_region, ↓codR_ret, retM_ret, marks_mark, marks_bad, loadc_def, load_p1 T30 a30, g2', marksEnd_one g5]
        refine ⟨_, v, rfl, (hrow.put (fun b o k c z x hv => by have := hvb _ _ _ _ _ _ hv; omega) _).put (fun b o k c z x hv => by have := hvb _ _ _ _ _ _ hv; omega) _⟩
end Go.AM.X
namespace Go.AM.X
open Go Go.AM Go.Proofs Go.AM.Sx
set_option maxHeartbeats 800000
set_option maxRecDepth 100000
set_option linter.unusedVariables false
theorem enc_zip {a : List Int} {c : List (List UInt8)} (h : a.length = c.length) : AV.lst false 1 (a.zip c).length (lFst (a.zip c)) = (vList (vInt .i64)).enc a ∧ AV.lst false 1 (a.zip c).length (lSnd (a.zip c)) = (vList vStr).enc c := by
  rw [len_zip h, lFst_zip h, lSnd_zip h]
  exact ⟨rfl, by rw [h]; rfl⟩
noncomputable def M11 := addI M10 57 (pureG g57)
theorem C11 : IAgree Try.prog M11 := agree4 hT hmix hF C10 (by decide) F57 fun kd many a c r hs => by
  split at hs
  · rename_i hc; cases hs
    obtain ⟨hl, ho, hm⟩ := hc
    obtain ⟨h', v, h1, h2⟩ := run57 (I := M10) (h52 := rfl) (h81 := rfl) (h57 := rfl) kd many (a.zip c) 0 (UInt8.toNat_lt kd) hm ho
    rw [(enc_zip hl).1, (enc_zip hl).2] at h1
    obtain ⟨v0, h3, h4⟩ := h2.frz 1 (frz_bytes _) (by simp [ofBytes])
    exact ⟨_, _, _, _, _, h1, h3, h4⟩
  · cases hs
noncomputable def M12 := addI M11 58 (pureG g58)
theorem C12 : IAgree Try.prog M12 := agree2 hT hmix hF C11 (by decide) F58 fun a c r hs => by
  split at hs
  · rename_i hc; cases hs
    obtain ⟨hl, ho⟩ := hc
    obtain ⟨h', v, h1, h2⟩ := run58 (I := M11) (h58 := rfl) (a.zip c) 0 ho
    rw [(enc_zip hl).1, (enc_zip hl).2] at h1
    obtain ⟨v0, h3, h4⟩ := h2.frz 1 (frz_bytes _) (by simp [ofBytes])
    exact ⟨_, _, _, _, _, h1, h3, h4⟩
  · cases hs
noncomputable def gPut := open Classical in G2 (vList (vInt .i64)) (vList vStr) fun a c => if a.length < 140737488355328 ∧ small c then some (.tup [.lst false 1 (putR a c).1.length (ofBytes (putR a c).1), .int .i64 (putR a c).2]) else none
noncomputable def g15 := gPut
noncomputable def g16 := gPut
noncomputable def M13 := addI M12 15 (pureG g15)
theorem C13 : IAgree Try.prog M13 := agree2 hT hmix hF C12 (by decide) F15 fun a c r hs => by
  split at hs
  · rename_i hc; cases hs; exact finPB2 (run15 (I := M12) rfl rfl rfl rfl rfl rfl rfl rfl a c 0 hc.1 hc.2)
  · cases hs
noncomputable def M14 := addI M13 16 (pureG g16)
theorem C14 : IAgree Try.prog M14 := agree2 hT hmix hF C13 (by decide) F16 fun a c r hs => by
  split at hs
  · rename_i hc; cases hs; exact finPB2 (run16 (I := M13) rfl rfl rfl rfl a c 0 hc.1 hc.2)
  · cases hs
theorem fin17 {net : Int} {l : List (List UInt8)} {n f : Nat} {I : Nat → Option (List AV → AH → Rs)} {args : List AV} (hp : P17 net l (call F I T n f args e0)) :
    ∃ n k h1 v1 v0, call F I T n f args e0 = some (v1, h1) ∧ frzF false k h1 v1 = some v0 ∧ Wk v0 (t18 net l) := by
  unfold P17 at hp
  unfold t18
  split at hp
  · rename_i hc
    rw [if_pos hc]
    obtain ⟨h', v, h1, h2⟩ := hp
    have hlen : (pieces net l ((l.length + 2) / 3)).length = (l.length + 2) / 3 := by simp [pieces]
    have hfz : frzMap (frzF false 1 h') ((pieces net l ((l.length + 2) / 3)).map vB.enc) = some ((pieces net l ((l.length + 2) / 3)).map vB.enc) := frzMap_map fun x => by
      have : (vB.enc x).flat = true := vB.flat x
      show frzF false (0 + 1) h' (.lst false 1 x.length (x.map vByte.enc)) = _
      exact frzF_flatV rfl this
    obtain ⟨v0, h7, h8⟩ := h2.frz (al := false) 1 hfz (by simp [hlen])
    refine ⟨_, 3, _, _, _, h1, frz_tup1 h7, Wk.tup (WkL.cons ?_ (WkL.cons (Wk.refl _) WkL.nil))⟩
    rw [hlen]
    exact h8
  · rename_i hc
    rw [if_neg hc]
    obtain ⟨h', h1⟩ := hp
    exact ⟨_, 2, _, _, .tup [.nils, .int .i64 2], h1, by simp [frzF, frzMap, AV.flat], Wk.tup (WkL.cons (Wk.nils _ _) (WkL.cons (Wk.refl _) WkL.nil))⟩
noncomputable def g17 := g18
noncomputable def M15 := addI M14 17 (pureG g17)
theorem C15 : IAgree Try.prog M15 := agree2 hT hmix hF C14 (by decide) F17 fun x y r hs => by
  split at hs
  · rename_i hc; cases hs; exact fin17 (run17 (I := M14) rfl rfl rfl rfl rfl rfl (h97 := rfl) x y 0 hc)
  · cases hs
def pcs (net : Int) (l : List (List UInt8)) : List (List UInt8) × Int := if isNet net = true ∧ isList l = true then (pieces net l ((l.length + 2) / 3), 0) else ([], 2)
theorem t18_eq (net : Int) (l : List (List UInt8)) : t18 net l = .tup [.lst false 1 (pcs net l).1.length ((pcs net l).1.map vB.enc), .int .i64 (pcs net l).2] := by
  unfold t18 pcs
  split <;> rfl
theorem g18_eq {net : Int} {l : List (List UInt8)} (ex : Bool) (h : small l) : g18 [.int .i64 net, .lst ex 1 l.length (l.map .str)] = some (.tup [.lst false 1 (pcs net l).1.length ((pcs net l).1.map vB.enc), .int .i64 (pcs net l).2]) := by
  have q2 := vList_dec (v := vStr) dStr_enc ex l
  have q3 : (vList vStr).dec (.lst ex 1 l.length (l.map .str)) = some l := q2
  have q4 : (vInt .i64).dec (.int .i64 net) = some net := by simp [vInt, dInt]
  rw [← t18_eq]
  unfold g18
  simp only [G2, q3, q4, Option.bind_some, h, if_true]
theorem K17 {I : Nat → Option (List AV → AH → Rs)} (h17 : I 17 = some (pureG g17)) (m : Nat) (net : Int) (l : List (List UInt8)) (ex : Bool) (h : AH) (hl : small l) :
    call F I T (m + 1) 17 [.int .i64 net, .lst ex 1 l.length (l.map .str)] h = some (.tup [.lst false 1 (pcs net l).1.length ((pcs net l).1.map vB.enc), .int .i64 (pcs net l).2], h) := by
  rw [call_I (by decide) h17]
  exact pureG_flat (by have : flatL (l.map AV.str) = true := flatL_map (fun _ => rfl) l; simp [flatL, AV.flat, this]) (g18_eq ex hl)
end Go.AM.X
