/- Events: the law. Own work. -/
import Derived.Test.YtplanafgphadaaaTegE
namespace Go.AM.X
open Go Go.AM Go.Proofs Go.AM.Sx
set_option maxHeartbeats 1600000
set_option maxRecDepth 100000
set_option linter.unusedVariables false
theorem F16 : F 16 = some { body := (Try.f16.body.getD .skip), results := Try.f16.results.toList, rf := false } := by kernel_rfl
theorem R16 : regsOk T (Try.f16.body.getD .skip) = true := by kernel_rfl
theorem F4 : F 4 = some { body := (Try.f4.body.getD .skip), results := Try.f4.results.toList, rf := false } := by kernel_rfl
theorem R4 : regsOk T (Try.f4.body.getD .skip) = true := by kernel_rfl
theorem Ev.ext' {x y : Ev} (h : x.av = y.av) : x = y := by
  obtain ⟨a, b, c, d⟩ := x
  obtain ⟨e, f, g, k⟩ := y
  simp [Ev.av] at h
  obtain ⟨rfl, rfl, rfl, rfl⟩ := h
  rfl
theorem fl_inj : ∀ {l m : List Ev}, fl Ev.av l = fl Ev.av m → l = m
  | [], [], _ => rfl
  | [], y :: m, h => by simp [fl, Ev.av] at h
  | x :: l, [], h => by simp [fl, Ev.av] at h
  | x :: l, y :: m, h => by
    have h' : x.av ++ fl Ev.av l = y.av ++ fl Ev.av m := h
    obtain ⟨h1, h2⟩ := List.append_inj h' rfl
    rw [Ev.ext' h1, fl_inj h2]
theorem flatL_app : ∀ {a b : List AV}, flatL a = true → flatL b = true → flatL (a ++ b) = true
  | [], b, _, h => h
  | x :: a, b, h1, h2 => by
    simp only [flatL, Bool.and_eq_true] at h1
    simp only [List.cons_append, flatL, Bool.and_eq_true]
    exact ⟨h1.1, flatL_app h1.2 h2⟩
theorem flat_evs : ∀ l : List Ev, flatL (fl Ev.av l) = true
  | [] => rfl
  | x :: l => flatL_app (a := x.av) (b := fl Ev.av l) rfl (flat_evs l)
theorem flat_bytes' (b : List Int) : flatL (bytes b) = true := flatL_map (fun _ => rfl) b
noncomputable def dEvs (v : AV) : Option (List Ev) := open Classical in if h : ∃ l, v = evL l then some h.choose else none
noncomputable def vEvs : View (List Ev) where
  enc := evL
  dec := dEvs
  law a x h := by
    unfold dEvs at h
    split at h
    · rename_i hx
      cases h
      have := hx.choose_spec
      rw [← this]
      exact Wk.refl _
    · cases h
  flat l := flat_evs l
theorem dEvs_enc (l : List Ev) : vEvs.dec (evL l) = some l := by
  show dEvs (evL l) = some l
  have hx : ∃ m, evL l = evL m := ⟨l, rfl⟩
  unfold dEvs
  rw [dif_pos hx]
  have h1 : evL l = evL hx.choose := hx.choose_spec
  unfold evL at h1
  rw [AV.lst.injEq] at h1
  exact congrArg some (fl_inj h1.2.2.2).symm
noncomputable def dByt (v : AV) : Option (List Int) := open Classical in if h : ∃ l, v = bytL l then some h.choose else none
noncomputable def vByt : View (List Int) where
  enc := bytL
  dec := dByt
  law a x h := by
    unfold dByt at h
    split at h
    · rename_i hx
      cases h
      have := hx.choose_spec
      rw [← this]
      exact Wk.refl _
    · cases h
  flat l := flat_bytes' l
theorem bytes_inj {l m : List Int} (h : bytes l = bytes m) : l = m := by
  unfold bytes at h
  exact (List.map_inj_right (fun a b h => by simpa using h)).1 h
theorem dByt_enc (l : List Int) : vByt.dec (bytL l) = some l := by
  show dByt (bytL l) = some l
  have hx : ∃ m, bytL l = bytL m := ⟨l, rfl⟩
  unfold dByt
  rw [dif_pos hx]
  have h1 : bytL l = bytL hx.choose := hx.choose_spec
  unfold bytL at h1
  rw [AV.lst.injEq] at h1
  exact congrArg some (bytes_inj h1.2.2.2).symm
theorem frz_flat {k : Nat} {h : AH} : ∀ {cs : List AV}, (∀ v ∈ cs, ∃ kd n, v = .int kd n) → frzMap (frzF false (k + 1) h) cs = some cs
  | [], _ => rfl
  | v :: cs, hv => by
    obtain ⟨kd, n, rfl⟩ := hv v (by simp)
    have ih := frz_flat (k := k) (h := h) (cs := cs) fun w hw => hv w (by simp [hw])
    have h1 : frzF false (k + 1) h (.int kd n) = some (.int kd n) := rfl
    simp only [frzMap, h1, ih, Option.map_some]
theorem rowFrz {sz n k : Nat} {h : AH} {v : AV} {cs : List AV} (hr : RowC sz h v n cs) (hi : ∀ v ∈ cs, ∃ kd n, v = .int kd n) : ∃ v0, frzF false (k + 2) h v = some v0 ∧ Wk v0 (.lst false sz n cs) := by
  rcases hr with ⟨rfl, rfl, rfl⟩ | ⟨b, cap, ex, rest, rfl, h1, h2, h3, h4⟩
  · exact ⟨.nils, rfl, Wk.nils _ _⟩
  · have h5 : List.take (n * sz) (List.drop 0 (cs ++ rest)) = cs := by rw [List.drop_zero, ← h1, List.take_left]
    refine ⟨.lst (ex && Nat.beq cap n) sz n cs, ?_, Wk.lst _ _ _ _⟩
    obtain ⟨K, hK⟩ : ∃ K, K = k + 1 := ⟨_, rfl⟩
    have e : frzMap (frzF false K h) cs = some cs := by rw [hK]; exact frz_flat hi
    rw [show k + 2 = K + 1 by omega]
    simp only [frzF, h4, Bool.or_true, h5, e]
    rw [if_pos (by rw [List.length_append]; omega)]
    simp
theorem frz_tup {k : Nat} {h : AH} {v v0 : AV} {n : Int} (hv : frzF false (k + 2) h v = some v0) : frzF false (k + 3) h (.tup [v, .int .i64 n]) = some (.tup [v0, .int .i64 n]) := by
  show (frzMap (frzF false (k + 2) h) [v, .int .i64 n]).map AV.tup = _
  have h1 : frzF false (k + 2) h (.int .i64 n) = some (.int .i64 n) := rfl
  simp only [frzMap, hv, h1, Option.map_some]
theorem int_bytes (b : List Int) : ∀ v ∈ bytes b, ∃ kd n, v = AV.int kd n := fun v hv => by
  obtain ⟨x, _, rfl⟩ := List.mem_map.1 hv
  exact ⟨_, _, rfl⟩
theorem int_evs (l : List Ev) : ∀ v ∈ fl Ev.av l, ∃ kd n, v = AV.int kd n := fun v hv => by
  obtain ⟨x, _, hx⟩ := List.mem_flatMap.1 hv
  simp only [Ev.av, List.mem_cons, List.not_mem_nil, or_false] at hx
  rcases hx with rfl | rfl | rfl | rfl <;> exact ⟨_, _, rfl⟩
theorem finRow {sz n f N : Nat} {I : Nat → Option (List AV → AH → Rs)} {args : List AV} {cs : List AV} {er : Int} (hp : ∃ h' w, call F I T n f args e0 = some (.tup [w, .int .i64 er], h') ∧ RowC sz h' w N cs) (hi : ∀ v ∈ cs, ∃ kd n, v = AV.int kd n) :
    ∃ n k h1 v1 v0, call F I T n f args e0 = some (v1, h1) ∧ frzF false k h1 v1 = some v0 ∧ Wk v0 (.tup [.lst false sz N cs, .int .i64 er]) := by
  obtain ⟨h', w, h1, h2⟩ := hp
  obtain ⟨v0, h3, h4⟩ := rowFrz (k := 0) h2 hi
  exact ⟨_, _, _, _, _, h1, frz_tup h3, Wk.tup (WkL.cons h4 (WkL.cons (Wk.refl _) WkL.nil))⟩
def putV (l : List Ev) : AV := .tup [bytL (putE l).1, .int .i64 (putE l).2]
def getV (b : List Int) : AV := .tup [evL (getP b).1, .int .i64 (getP b).2]
noncomputable def g12 := G1 vEvs fun l => if l.length ≤ 1000000 then some (putV l) else none
noncomputable def g13 := G1 vEvs fun l => if l.length ≤ 1000000 then some (putV l) else none
noncomputable def g14 := open Classical in G1 vByt fun b => if ∀ x ∈ b, 0 ≤ x ∧ x ≤ 255 then some (getV b) else none
noncomputable def g15 := open Classical in G1 vByt fun b => if ∀ x ∈ b, 0 ≤ x ∧ x ≤ 255 then some (getV b) else none
theorem K12 {I : Nat → Option (List AV → AH → Rs)} (h12 : I 12 = some (pureG g12)) (m : Nat) (l : List Ev) (h : AH) (hl : l.length ≤ 1000000) : call F I T (m + 1) 12 [evL l] h = some (putV l, h) := by
  rw [call_I (by decide) h12]
  exact pureG_flat (by simp only [flatL, Bool.and_true]; exact flat_evs l) (by simp [g12, G1, dEvs_enc, hl])
theorem K13 {I : Nat → Option (List AV → AH → Rs)} (h13 : I 13 = some (pureG g13)) (m : Nat) (l : List Ev) (h : AH) (hl : l.length ≤ 1000000) : call F I T (m + 1) 13 [evL l] h = some (putV l, h) := by
  rw [call_I (by decide) h13]
  exact pureG_flat (by simp only [flatL, Bool.and_true]; exact flat_evs l) (by simp [g13, G1, dEvs_enc, hl])
theorem K14 {I : Nat → Option (List AV → AH → Rs)} (h14 : I 14 = some (pureG g14)) (m : Nat) (b : List Int) (h : AH) (hb : ∀ x ∈ b, 0 ≤ x ∧ x ≤ 255) : call F I T (m + 1) 14 [bytL b] h = some (getV b, h) := by
  rw [call_I (by decide) h14]
  exact pureG_flat (by simp only [flatL, Bool.and_true]; exact flat_bytes' b) (by simp only [g14, G1, dByt_enc, Option.bind_some]; rw [if_pos hb])
theorem K15 {I : Nat → Option (List AV → AH → Rs)} (h15 : I 15 = some (pureG g15)) (m : Nat) (b : List Int) (h : AH) (hb : ∀ x ∈ b, 0 ≤ x ∧ x ≤ 255) : call F I T (m + 1) 15 [bytL b] h = some (getV b, h) := by
  rw [call_I (by decide) h15]
  exact pureG_flat (by simp only [flatL, Bool.and_true]; exact flat_bytes' b) (by simp only [g15, G1, dByt_enc, Option.bind_some]; rw [if_pos hb])
theorem bytesOf_bytes : ∀ b : List Int, ∃ s, bytesOf (bytes b) = some s
  | [] => ⟨_, rfl⟩
  | n :: b => by
    obtain ⟨s, ih⟩ := bytesOf_bytes b
    unfold bytes at ih ⊢
    rw [List.map_cons, bytesOf, ih]; exact ⟨_, rfl⟩
theorem st_neq {t : Nat} {ti : TI} {xs ys : List AV} {b : Bool} {h : AH} {fs : Array Field} (ht : T t = some ti) (hd : ti.desc = .struct fs) (h1 : conf ti.eqk xs = true) (h2 : conf ti.eqk ys = true) (h3 : ti.eqk.isEmpty = false) (he : eqCells xs ys = b) :
    aBin T .neq t (.agg xs) (.agg ys) h = some (.bool (!b)) := by simp [aBin, eqV, ht, hd, h1, h2, h3, he]
theorem conf92 (e : Ev) : conf tt92.eqk e.av = true := by kernel_rfl
theorem eqk92 : tt92.eqk.isEmpty = false := by kernel_rfl
theorem eqc92 (e : Ev) : eqCells e.av e.av = true := by simp [Ev.av, eqCells]
theorem neq92 (e : Ev) (h : AH) : aBin T .neq 92 (.agg [.int .i64 e.d, .int .i64 e.lo, .int .i64 e.hi, .int .i64 e.di]) (.agg [.int .i64 e.d, .int .i64 e.lo, .int .i64 e.hi, .int .i64 e.di]) h = some (.bool false) := by
  exact st_neq T92 d92 (conf92 e) (conf92 e) eqk92 (eqc92 e)
theorem run16 {I : Nat → Option (List AV → AH → Rs)} (h16 : I 16 = none) (m : Nat) (es : List Ev) (h : AH) (hn : es.length ≤ m ∧ es.length ≤ 100000000) : call F I T (m + 20) 16 [evL es, evL es] h = some (.bool true, h) := by
  have l1 : ∀ h, aLen T 33 (evL es) h = some (.int .i64 (es.length : Nat)) := fun h => by simp [aLen, T33, d33, evL]
  have ia := fun i x (hx : es[i]? = some x) => evAt hx
  obtain ⟨v, hv⟩ : ∃ v, v = evL es := ⟨_, rfl⟩
  rw [← hv] at l1 ia ⊢
  rw [call_F (by decide) h16 F16 rfl R16]; simp only [Try.f16, Option.getD]
  simp +contextual (maxSteps := 3000000) only [↓code_skip, ↓code_seq, ↓code_region, ↓code_cond, ↓code_block, ↓code_loop, aCond_bool, ↓ops_nil, ↓ops_cons, run_none, ↓run0_v, ↓seqK_normal, put_same, put_ne, env0_at, ev_tmp, ev_const, oc_int, oc_bool, o_move, o_assign, o_bin, o_len, g_none, bin_neq, Option.getD_some, ↓reduceIte, Nat.reduceEqDiff, not_false_eq_true, reduceCtorEq, List.getElem?_cons_zero, List.getElem?_cons_succ, Bool.false_eq_true, Bool.not_true, ne_eq, l1, decide_true]
  refine iterL_wp (Q := fun r => r = some (.bool true, h)) (N := es.length) (Inv := fun k e h' => ∃ i, k + i = es.length ∧ h' = h ∧ i ≤ es.length ∧ e 0 = v ∧ e 1 = v ∧ e 5 = .int .i64 (i : Nat)) ?_ ?_ (by omega)
  · rintro k e h' K' ⟨i, hk, hh, hil, e0, e1, e5⟩ hnext hexit
    subst hh
    by_cases hi : i < es.length
    · have c1 : (i : Int) < (es.length : Int) := by omega
      obtain ⟨e, he⟩ : ∃ e, es[i]? = some e := ⟨es[i], List.getElem?_eq_getElem hi⟩
      obtain ⟨pl, g1, g2, g3⟩ := ia i e he
      have c7 : IntKind.i64.wrap ((i : Int) + 1) = ((i + 1 : Nat) : Int) := by rw [wrap_i64 (by omega) (by omega)]; rfl
      simp +contextual (maxSteps := 3000000) only [↓code_skip, ↓code_seq, ↓code_region, ↓code_cond, ↓code_block, aCond_bool, ↓ops_nil, ↓ops_cons, run_none, ↓run0_v, ↓seqK_normal, ↓blkK_normal, put_same, put_ne, ev_tmp, ev_const, oc_int, o_move, o_assign, o_bin, o_len, o_load, o_indexAddr, g_none, bin_add, bin_lss, decide_eq_true_eq, ↓reduceIte, Nat.reduceEqDiff, not_false_eq_true, reduceCtorEq, Bool.false_eq_true, ne_eq, load_fpA T92 a92, s92, e0, e1, e5, c1, l1, g1, g2, g3, neq92, c7]
      refine hnext (k - 1) _ _ (by omega) ⟨i + 1, by omega, ?_, ?_, ?_, ?_, ?_⟩
      · rfl
      · omega
      · simp only [put_ne, not_false_eq_true, reduceCtorEq, ne_eq, e0]
      · simp only [put_ne, Nat.reduceEqDiff, not_false_eq_true, ne_eq, e1]
      · simp only [put_same]
    · have c1 : ¬ (i : Int) < (es.length : Int) := by omega
      simp +contextual (maxSteps := 3000000) only [↓code_seq, ↓code_region, ↓code_cond, ↓code_exit, aCond_bool, ↓ops_nil, ↓ops_cons, run_none, ↓run0_v, ↓seqK_normal, ↓seqK_exit, put_same, put_ne, ev_tmp, o_move, o_bin, o_len, g_none, bin_lss, decide_eq_true_eq, ↓reduceIte, Nat.reduceEqDiff, not_false_eq_true, reduceCtorEq, ne_eq, e0, e5, c1, l1]
      refine hexit _ _ _ (by simp) ?_
      simp +contextual (maxSteps := 3000000) only [↓code_seq, ↓code_region, ↓code_ret, ↓ops_nil, ↓ops_cons, run_none, ↓run0_v, ↓seqK_normal, ↓blkK_exit, ↓retK_ret, put_same, ev_const, oc_bool, o_assign, g_none, resultsOf, oneOrAll, Option.map_some, ↓reduceIte]
  · refine ⟨0, by omega, ?_, ?_, ?_, ?_, ?_⟩
    · rfl
    · omega
    · simp only [put_ne, env0_at, Option.getD_some, not_false_eq_true, reduceCtorEq, List.getElem?_cons_zero, ne_eq]
    · simp only [put_ne, env0_at, Option.getD_some, Nat.reduceEqDiff, not_false_eq_true, List.getElem?_cons_zero, List.getElem?_cons_succ, ne_eq]
    · simp only [put_same]; rfl
theorem getP_len (b : List Int) : (getP b).1.length ≤ 4 := by
  unfold getP getE
  by_cases h : (b.length ≠ 0 ∧ b.length % 6 = 0 ∧ b.length ≤ 24) ∧ (chunkE b (b.length / 6)).all okEv = true
  · rw [if_pos h]
    show (chunkE b (b.length / 6)).length ≤ 4
    rw [chunk_len]; omega
  · rw [if_neg h]; exact Nat.zero_le _
theorem law4 {I : Nat → Option (List AV → AH → Rs)} (h11 : I 11 = some (pureG g11)) (h12 : I 12 = some (pureG g12)) (h13 : I 13 = some (pureG g13)) (h14 : I 14 = some (pureG g14)) (h15 : I 15 = some (pureG g15)) (h16 : I 16 = none) (h4 : I 4 = none) (l : List Ev) (b : List Int) (hb : ∀ x ∈ b, 0 ≤ x ∧ x ≤ 255) : ∃ h', call F I T 1000 4 [evL l, bytL b] e0 = some (.bool true, h') := by
  have hl1 : ∀ h, aLen T 33 (evL l) h = some (.int .i64 (l.length : Nat)) := fun h => by simp [aLen, T33, d33, evL]
  have hl2 : ∀ h, aLen T 34 (bytL b) h = some (.int .i64 (b.length : Nat)) := fun h => by simp [aLen, T34, d34, bytL]
  have k16 := fun (es : List Ev) (h : AH) (hn : es.length ≤ 900) => run16 h16 979 es h ⟨by omega, by omega⟩
  have hcv : ∀ (x : List Int), ∃ s, ∀ h : AH, aConv T 34 9 (bytL x) h = some (.str s, h) := fun x => by
    obtain ⟨s, hs⟩ := bytesOf_bytes x
    refine ⟨s, fun h => ?_⟩
    unfold bytL
    rw [conv_back T34 T9 d9 d34 T5 d5 s5, hs]; rfl
  rw [call_F (by decide) h4 F4 rfl R4]; simp only [Try.f4, Option.getD]
  by_cases q1 : (100 : Int) < (l.length : Int)
  · simp +contextual (maxSteps := 3000000) only [↓code_seq, ↓code_region, ↓code_cond, ↓code_ret, aCond_bool, ↓ops_nil, ↓ops_cons, run_none, run_someF, ↓run0_v, ↓run0_r, ↓seqK_normal, ↓seqK_ret, ↓retK_ret, put_same, put_ne, env0_at, ev_tmp, ev_const, ev_func, oc_int, oc_bool, o_move, o_assign, o_pick, o_bin, o_call, o_len, g_none, g_some, pick_bool, bin_gtr, resultsOf, oneOrAll, Option.bind_some, Option.map_some, Option.getD_some, decide_eq_true_eq, ↓reduceIte, Nat.reduceEqDiff, not_false_eq_true, reduceCtorEq, List.getElem?_cons_zero, List.getElem?_cons_succ, List.getElem?_toArray, List.map_nil, List.append_nil, gt_iff_lt, ne_eq, callV_fn (g := 11) (by decide), K11 h11, hl1, q1]
    exact ⟨_, rfl⟩
  by_cases q2 : (100 : Int) < (b.length : Int)
  · simp +contextual (maxSteps := 3000000) only [↓code_seq, ↓code_region, ↓code_cond, ↓code_ret, aCond_bool, ↓ops_nil, ↓ops_cons, run_none, run_someF, ↓run0_v, ↓run0_r, ↓seqK_normal, ↓seqK_ret, ↓retK_ret, put_same, put_ne, env0_at, ev_tmp, ev_const, ev_func, oc_int, oc_bool, o_move, o_assign, o_pick, o_bin, o_call, o_len, g_none, g_some, pick_bool, bin_gtr, resultsOf, oneOrAll, Option.bind_some, Option.map_some, Option.getD_some, decide_eq_true_eq, ↓reduceIte, Nat.reduceEqDiff, not_false_eq_true, reduceCtorEq, List.getElem?_cons_zero, List.getElem?_cons_succ, List.getElem?_toArray, List.map_nil, List.append_nil, gt_iff_lt, ne_eq, callV_fn (g := 11) (by decide), K11 h11, hl1, hl2, q1, q2]
    exact ⟨_, rfl⟩
  have k12 := fun m h => K12 (by assumption) m l h (by omega)
  have k13 := fun m h => K13 (by assumption) m l h (by omega)
  have k14 := fun m h => K14 (by assumption) m b h hb
  have k15 := fun m h => K15 (by assumption) m b h hb
  obtain ⟨P, hP⟩ : ∃ P, P = getP b := ⟨_, rfl⟩
  have hPl : P.1.length ≤ 4 := by rw [hP]; exact getP_len b
  have k16b := fun h => k16 P.1 h (by omega)
  have k16l := fun h => k16 l h (by omega)
  unfold getV at k14 k15
  rw [← hP] at k14 k15
  unfold putV at k12 k13
  by_cases hc : (1 ≤ l.length ∧ l.length ≤ 4) ∧ l.all okEv = true
  · have hX : putE l = (l.flatMap evB, 0) := by unfold putE; rw [if_pos hc]
    have hXb : ∀ x ∈ l.flatMap evB, 0 ≤ x ∧ x ≤ 255 := fun x hx => by
      obtain ⟨e, he, hx⟩ := List.mem_flatMap.1 hx
      exact okEv_bytes (List.all_eq_true.1 hc.2 e he) x hx
    have k14x := fun m h => K14 (by assumption) m (l.flatMap evB) h hXb
    have hG : getP (l.flatMap evB) = (l, 0) := by unfold getP; rw [back_evs hc]
    unfold getV at k14x
    rw [hG] at k14x
    rw [hX] at k12 k13
    obtain ⟨s, hs⟩ := hcv (l.flatMap evB)
    simp +contextual (maxSteps := 3000000) only [↓code_skip, ↓code_seq, ↓code_region, ↓code_cond, ↓code_ret, aCond_bool, ↓ops_nil, ↓ops_cons, run_none, run_someF, ↓run0_v, ↓run0_r, ↓seqK_normal, ↓retK_ret, put_same, put_ne, env0_at, ev_tmp, ev_const, ev_func, oc_int, oc_bool, o_move, o_assign, o_pick, o_bin, o_call, o_len, o_un, o_convert, o_extract, g_none, g_some, pick_bool, bin_eql, bin_neq, bin_gtr, str_neq, un_not, extract_tup, resultsOf, oneOrAll, Option.bind_some, Option.map_some, Option.getD_some, decide_eq_true_eq, ↓reduceIte, Nat.reduceEqDiff, not_false_eq_true, reduceCtorEq, List.getElem?_cons_zero, List.getElem?_cons_succ, List.getElem?_toArray, Bool.false_eq_true, List.map_cons, List.map_nil, List.append_nil, List.nil_append, gt_iff_lt, Bool.not_true, ne_eq, callV_fn (g := 11) (by decide), K11 h11, callV_fn (g := 12) (by decide), callV_fn (g := 13) (by decide), callV_fn (g := 14) (by decide), callV_fn (g := 15) (by decide), hl1, hl2, q1, q2, k12, k13, k14, k15, k14x, hs, k16b, k16l, decide_true, callV_fn (g := 16) (by decide)]
    exact ⟨_, rfl⟩
  · have hX : putE l = ([], 2) := by unfold putE; rw [if_neg hc]
    rw [hX] at k12 k13
    obtain ⟨s, hs⟩ := hcv []
    simp +contextual (maxSteps := 3000000) only [↓code_skip, ↓code_seq, ↓code_region, ↓code_cond, ↓code_ret, aCond_bool, ↓ops_nil, ↓ops_cons, run_none, run_someF, ↓run0_v, ↓run0_r, ↓seqK_normal, ↓seqK_ret, ↓retK_ret, put_same, put_ne, env0_at, ev_tmp, ev_const, ev_func, oc_int, oc_bool, o_move, o_assign, o_pick, o_bin, o_call, o_len, o_un, o_convert, o_extract, g_none, g_some, pick_bool, bin_eql, bin_neq, bin_gtr, str_neq, un_not, extract_tup, resultsOf, oneOrAll, Option.bind_some, Option.map_some, Option.getD_some, decide_eq_true_eq, ↓reduceIte, Nat.reduceEqDiff, not_false_eq_true, reduceCtorEq, List.getElem?_cons_zero, List.getElem?_cons_succ, List.getElem?_toArray, Bool.false_eq_true, List.map_cons, List.map_nil, List.append_nil, List.nil_append, gt_iff_lt, Bool.not_true, ne_eq, callV_fn (g := 11) (by decide), K11 h11, callV_fn (g := 12) (by decide), callV_fn (g := 13) (by decide), callV_fn (g := 14) (by decide), callV_fn (g := 15) (by decide), hl1, hl2, q1, q2, k12, k13, k14, k15, hs, k16b, decide_true, callV_fn (g := 16) (by decide)]
    exact ⟨_, rfl⟩
end Go.AM.X
namespace Go.AM.X
open Go Go.AM Go.Proofs Go.AM.Sx
set_option maxHeartbeats 800000
set_option maxRecDepth 100000
noncomputable def I2 := addI I1 37 (pureG g37)
theorem A2 : IAgree Try.prog I2 := by
  refine pure_agree hT hmix hF A1 (by decide) _ F37 fun args v hg hfl => ?_
  unfold g37 at hg
  split at hg
  · rename_i a b c; cases hg
    exact ⟨_, 3, 3, _, _, _, WkL.refl _, run37  rfl a b c, by simp [frzF, AV.flat], Wk.refl _⟩
  · cases hg
noncomputable def I3 := addI I2 39 (pureG g39)
theorem A3 : IAgree Try.prog I3 := by
  refine pure_agree hT hmix hF A2 (by decide) _ F39 fun args v hg hfl => ?_
  unfold g39 at hg
  split at hg
  · rename_i a b c; cases hg
    exact ⟨_, 3, 3, _, _, _, WkL.refl _, run39  rfl a b c, by simp [frzF, AV.flat], Wk.refl _⟩
  · cases hg
noncomputable def I4 := addI I3 38 (pureG g38)
theorem A4 : IAgree Try.prog I4 := by
  refine pure_agree hT hmix hF A3 (by decide) _ F38 fun args v hg hfl => ?_
  unfold g38 at hg
  split at hg
  · rename_i n
    split at hg
    · rename_i hc; cases hg
      obtain ⟨n1, k, h1, v1, v0, q1, q2, q3⟩ := finRow (run38 (I := I3) rfl rfl n hc) (fun v hv => by
        simp only [List.mem_cons, List.not_mem_nil, or_false] at hv
        rcases hv with rfl | rfl <;> exact ⟨_, _, rfl⟩)
      exact ⟨_, n1, k, h1, v1, v0, WkL.refl _, q1, q2, q3⟩
    · cases hg
  · cases hg
noncomputable def I5 := addI I4 12 (pureG g12)
theorem A5 : IAgree Try.prog I5 := agree1 hT hmix hF A4 (by decide) F12 fun l r hs => by
  split at hs
  · rename_i hc; cases hs; exact finRow (run12 (I := I4) rfl rfl rfl l 0 hc) (int_bytes _)
  · cases hs
noncomputable def I6 := addI I5 13 (pureG g13)
theorem A6 : IAgree Try.prog I6 := agree1 hT hmix hF A5 (by decide) F13 fun l r hs => by
  split at hs
  · rename_i hc; cases hs; exact finRow (run13 (I := I5) rfl rfl l 0 hc) (int_bytes _)
  · cases hs
noncomputable def I7 := addI I6 14 (pureG g14)
theorem A7 : IAgree Try.prog I7 := agree1 hT hmix hF A6 (by decide) F14 fun b r hs => by
  split at hs
  · rename_i hc; cases hs; exact finRow (run14 (I := I6) rfl rfl rfl rfl rfl rfl b 0 hc) (int_evs _)
  · cases hs
noncomputable def I8 := addI I7 15 (pureG g15)
theorem A8 : IAgree Try.prog I8 := agree1 hT hmix hF A7 (by decide) F15 fun b r hs => by
  split at hs
  · rename_i hc; cases hs; exact finRow (run15 (I := I7) rfl rfl b 0 hc) (int_evs _)
  · cases hs
theorem lawE (l : List Ev) (b : List Int) (hb : ∀ x ∈ b, 0 ≤ x ∧ x ≤ 255) : ∃ h', call F I8 T 1000 4 [evL l, bytL b] e0 = some (.bool true, h') :=
  law4 rfl rfl rfl rfl rfl rfl rfl l b hb
end Go.AM.X
