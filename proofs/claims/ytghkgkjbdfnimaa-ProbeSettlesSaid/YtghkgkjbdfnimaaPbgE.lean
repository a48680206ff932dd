/- A link: all hear a request; what answers it. Own work. -/
import Derived.Test.YtghkgkjbdfnimaaPbgD
namespace Go.AM.X
open Go Go.AM Go.Proofs Go.AM.Sx
set_option maxHeartbeats 6400000
set_option maxRecDepth 100000
set_option linter.unusedVariables false
/-- A list of which the first ones are changed. -/
def upto (f : Nat → Sn → Sn) (S : List Sn) (k : Nat) : List Sn := S.mapIdx fun j o => if j < k then f j o else o
theorem upto_len (f : Nat → Sn → Sn) (S : List Sn) (k : Nat) : (upto f S k).length = S.length := List.length_mapIdx
theorem upto_get (f : Nat → Sn → Sn) (S : List Sn) (k i : Nat) : (upto f S k)[i]? = (S[i]?).map fun o => if i < k then f i o else o := List.getElem?_mapIdx
theorem upto_zero (f : Nat → Sn → Sn) (S : List Sn) : upto f S 0 = S := by
  apply List.ext_getElem?
  intro i
  rw [upto_get]
  cases S[i]? <;> simp
theorem upto_step (f : Nat → Sn → Sn) (S : List Sn) {k : Nat} {s : Sn} (hs : S[k]? = some s) : upto f S (k + 1) = (upto f S k).set k (f k s) := by
  have hk := (List.getElem?_eq_some_iff.1 hs).1
  apply List.ext_getElem?
  intro i
  rw [upto_get, List.getElem?_set, upto_len, upto_get]
  by_cases h : k = i
  · subst h
    rw [if_pos rfl, if_pos hk, hs]
    simp
  · rw [if_neg h]
    cases S[i]? with
    | none => rfl
    | some o =>
      simp only [Option.map_some]
      by_cases h2 : i < k
      · rw [if_pos h2, if_pos (by omega)]
      · rw [if_neg h2, if_neg (by omega)]
theorem upto_same (f : Nat → Sn → Sn) (S : List Sn) {k : Nat} {s : Sn} (hs : S[k]? = some s) (hf : f k s = s) : upto f S (k + 1) = upto f S k := by
  rw [upto_step f S hs, hf]
  have h1 : (upto f S k)[k]? = some s := by rw [upto_get, hs]; simp
  have := List.getElem?_eq_some_iff.1 h1
  rw [← this.2]
  exact List.set_getElem_self _
theorem upto_all (f : Nat → Sn → Sn) (S : List Sn) : upto f S S.length = S.mapIdx f := by
  apply List.ext_getElem?
  intro i
  rw [upto_get, List.getElem?_mapIdx]
  cases h : S[i]? with
  | none => rfl
  | some o => rw [Option.map_some, Option.map_some, if_pos (List.getElem?_eq_some_iff.1 h).1]
theorem map_at {M : List Sm} {S : List Sn} (h : M.map Sm.s = S) {i : Nat} {s : Sn} (hs : S[i]? = some s) : ∃ q, M[i]? = some q ∧ q.s = s := by
  rw [← h, List.getElem?_map, Option.map_eq_some_iff] at hs
  exact hs
theorem F42 : F 42 = some { body := (Try.f42.body.getD .skip), results := Try.f42.results.toList, rf := false } := by kernel_rfl
theorem R42 : regsOk T (Try.f42.body.getD .skip) = true := by kernel_rfl
theorem F43 : F 43 = some { body := (Try.f43.body.getD .skip), results := Try.f43.results.toList, rf := false } := by kernel_rfl
theorem R43 : regsOk T (Try.f43.body.getD .skip) = true := by kernel_rfl
/-- What a station that hears a request of station i learns. -/
def gleanF (i : Nat) (n d : Int) (k : Nat) (o : Sn) : Sn := if k ≠ i ∧ o.st = 2 then learnF n d (i : Nat) o else o
theorem V42 {I : Nat → Option (List AV → AH → Rs)} (h46 : I 46 = none) (h34 : I 34 = none) (h53 : I 53 = none) (h42 : I 42 = none) (h48 : I 48 = none) (m p i : Nat) (lo hi : Int) (S : List Sn) (s0 : Sn) (off : Nat → Prop) (h : AH) (hL : Lk h p lo hi S off) (hs0 : S[i]? = some s0) (hSl : S.length ≤ 100) (hB : ∀ s ∈ S, s.hs.length ≤ m ∧ s.hs.length ≤ 1000000000) :
    ∃ h2 off2, call F I T (m + 180) 42 [.ptr p 0, .int .i64 (i : Nat)] h = some (.tup [], h2) ∧ Lk h2 p lo hi (S.mapIdx (gleanF i s0.n s0.d)) off2 ∧ Stf h h2 off off2 := by
  obtain ⟨own, sv, M, hM, rfl, rfl⟩ := hL
  obtain ⟨fr, g⟩ := hM.g
  have hlen : ∀ h, aLen T 56 sv h = some (.int .i64 (M.length : Nat)) := fun h => hM.r.len T56 d56
  rw [List.length_map] at hSl
  obtain ⟨S, hS⟩ : ∃ S, S = M.map Sm.s := ⟨_, rfl⟩
  rw [← hS] at hs0 hB ⊢
  have hSM : S.length = M.length := by rw [hS, List.length_map]
  obtain ⟨f, hf⟩ : ∃ f, f = gleanF i s0.n s0.d := ⟨_, rfl⟩
  rw [← hf]
  have fst : ∀ k o, (f k o).st = o.st ∧ (f k o).n = o.n ∧ (f k o).d = o.d := fun k o => by
    rw [hf]; unfold gleanF
    split
    · unfold learnF; split <;> exact ⟨rfl, rfl, rfl⟩
    · exact ⟨rfl, rfl, rfl⟩
  rw [call_F (by decide) h42 F42 rfl R42]; simp only [Try.f42, Option.getD]
  simp +contextual (maxSteps := 3000000) only [↓code_seq, ↓code_region, ↓code_block, ↓code_loop, ↓ops_nil, ↓ops_cons, run_none, ↓run0_v, ↓seqK_normal, put_same, env0_at, ev_tmp, ev_const, oc_int, o_move, o_len, o_load, o_nilCheck, o_fieldAddr, g_none, nil_ptr, Option.getD_some, Nat.reduceAdd, List.getElem?_cons_zero, List.getElem?_cons_succ, fa_ptr T58 p58_3 (by decide), load_p1 T56 a56, loadc_def, g, hlen]
  refine iterL_wp (Q := fun r => ∃ h2 off2, r = some (.tup [], h2) ∧ Lk h2 p lo hi (S.mapIdx f) off2 ∧ Stf h h2 (fun c => own c = 0) off2) (N := M.length) (Inv := fun k e h' => ∃ z own2 M2, k + z = M.length ∧ LkOk h' own2 p lo hi sv M2 ∧ M2.map Sm.s = upto f S z ∧ Stf h h' (fun c => own c = 0) (fun c => own2 c = 0) ∧ z ≤ M.length ∧ e 0 = .ptr p 0 ∧ e 1 = .int .i64 (i : Nat) ∧ e 9 = sv ∧ e 10 = .int .i64 (M.length : Nat) ∧ e 11 = .int .i64 (z : Nat)) ?_ ?_ (show M.length < m + 179 by omega)
  · rintro k e h' K' ⟨z, own2, M2, hk, hL2, hMs, hst, hkl, e0, e1, e9, e10, e11⟩ hnext hexit
    have hl2 : M2.length = M.length := by have := congrArg List.length hMs; rw [List.length_map, upto_len] at this; omega
    by_cases hz : z < M.length
    · have c1 : (z : Int) < (M.length : Int) := by omega
      have c7 : IntKind.i64.wrap ((z : Int) + 1) = ((z + 1 : Nat) : Int) := by rw [wrap_i64 (by omega) (by omega)]; rfl
      obtain ⟨s, hs⟩ : ∃ s, S[z]? = some s := ⟨S[z]'(by omega), List.getElem?_eq_getElem (by omega)⟩
      obtain ⟨q, hq, hqs⟩ := map_at hMs (show (upto f S z)[z]? = some s by rw [upto_get, hs]; simp)
      obtain ⟨b, cs, bk, w1, w2, w3⟩ := loadM hL2.r hq
      have gq := StOk.ptr hL2 hq
      by_cases c2 : z = i
      · have c2' : ((z : Nat) : Int) = ((i : Nat) : Int) := by rw [c2]
        simp +contextual (maxSteps := 3000000) only [↓code_skip, ↓code_seq, ↓code_region, ↓code_cond, ↓code_block, aCond_bool, ↓ops_nil, ↓ops_cons, run_none, run_someT, ↓run0_v, ↓seqK_normal, ↓blkK_normal, put_same, put_ne, ev_tmp, ev_const, oc_int, oc_bool, o_move, o_assign, o_pick, o_bin, o_load, o_nilCheck, o_fieldAddr, o_indexAddr, g_none, g_some, pick_bool, bin_add, bin_neq, bin_lss, Option.bind_some, ↓reduceIte, Nat.reduceEqDiff, not_false_eq_true, List.getElem?_cons_zero, List.getElem?_cons_succ, List.getElem?_toArray, Bool.false_eq_true, Bool.not_true, ne_eq, loadc_def, load_p1 T59 a59, e1, e9, e10, e11, c1, w1, w2, w3, eq_true c2', decide_true, c7]
        refine hnext (k - 1) _ _ (by omega) ⟨z + 1, own2, M2, by omega, ?_, ?_, ?_, ?_, ?_, ?_, ?_, ?_, ?_⟩
        · exact hL2
        · exact (by rw [upto_same f S hs (by rw [hf]; unfold gleanF; rw [if_neg (fun g => g.1 c2)])]; exact hMs)
        · exact hst
        · omega
        · simp only [put_ne, not_false_eq_true, reduceCtorEq, ne_eq, e0]
        · simp only [put_ne, Nat.reduceEqDiff, not_false_eq_true, ne_eq, e1]
        · simp only [put_ne, Nat.reduceEqDiff, not_false_eq_true, ne_eq, e9]
        · simp only [put_ne, Nat.reduceEqDiff, not_false_eq_true, ne_eq, e10]
        · simp only [put_same]
      have c2' : ¬ ((z : Nat) : Int) = ((i : Nat) : Int) := by omega
      by_cases c3 : q.s.st = 2
      · obtain ⟨qi, hqi, hqis⟩ := map_at hMs (show (upto f S z)[i]? = some (if i < z then f i s0 else s0) by rw [upto_get, hs0]; rfl)
        obtain ⟨b', cs', bk', x1, x2, x3⟩ := loadM hL2.r hqi
        have gi := StOk.ptr hL2 hqi
        have en : qi.s.n = s0.n ∧ qi.s.d = s0.d := by
          rw [hqis]
          split
          · exact (fst i s0).2
          · exact ⟨rfl, rfl⟩
        rw [en.1, en.2] at gi
        obtain ⟨fr2, g2⟩ := hL2.g
        have hb := hB s (List.mem_of_getElem? hs)
        obtain ⟨h2, own3, q2, k1, k2, k3, k4, k5⟩ := run53 h46 h34 h53 h48 (m + 109) p z s0.n s0.d (i : Nat) lo hi own2 sv M2 q h' hL2 hq (by rw [hqs]; exact ⟨by omega, hb.2⟩)
        simp +contextual (maxSteps := 3000000) only [↓code_skip, ↓code_seq, ↓code_region, ↓code_cond, ↓code_block, aCond_bool, ↓ops_nil, ↓ops_cons, run_none, run_someT, ↓run0_v, ↓run0_r, ↓seqK_normal, ↓blkK_normal, put_same, put_ne, ev_tmp, ev_const, ev_func, oc_int, oc_bool, o_move, o_assign, o_pick, o_bin, o_call, o_load, o_nilCheck, o_fieldAddr, o_indexAddr, g_none, g_some, pick_bool, bin_add, bin_eql, bin_neq, bin_lss, nil_ptr, Option.bind_some, Option.map_some, ↓reduceIte, Nat.reduceEqDiff, not_false_eq_true, Nat.reduceAdd, reduceCtorEq, List.getElem?_cons_zero, List.getElem?_cons_succ, List.getElem?_toArray, List.map_cons, List.map_nil, List.append_nil, List.nil_append, Nat.reduceLeDiff, Bool.not_false, ne_eq, fa_ptr T58 p58_3 (by decide), load_p1 T56 a56, loadc_def, load_p1 T59 a59, fa_ptr T64 p64_1 (by decide), load_p1 T3 a3, fa_ptr T64 p64_4 (by decide), load_pA T35 a35, s35, loadn_def, List.drop_succ_cons, List.length_cons, List.length_nil, List.drop_zero, List.take_succ_cons, List.take_zero, Nat.zero_add, e0, e1, e9, e10, e11, c1, w1, w2, w3, c2', gq, eq_true c3, g2, x1, x2, x3, gi, k1, decide_true, decide_false, c7, callV_fn (g := 53) (by decide)]
        refine hnext (k - 1) _ _ (by omega) ⟨z + 1, own3, M2.set z q2, by omega, ?_, ?_, ?_, ?_, ?_, ?_, ?_, ?_, ?_⟩
        · exact k2
        · exact (by rw [map_set_s, hMs, k3, hqs, upto_step f S hs, hf]; congr 1; unfold gleanF; rw [if_pos ⟨c2, by rw [← hqs]; exact c3⟩])
        · exact hst.trans k5
        · omega
        · simp only [put_ne, not_false_eq_true, reduceCtorEq, ne_eq, e0]
        · simp only [put_ne, Nat.reduceEqDiff, not_false_eq_true, ne_eq, e1]
        · simp only [put_ne, Nat.reduceEqDiff, not_false_eq_true, ne_eq, e9]
        · simp only [put_ne, Nat.reduceEqDiff, not_false_eq_true, ne_eq, e10]
        · simp only [put_same]
      · simp +contextual (maxSteps := 3000000) only [↓code_skip, ↓code_seq, ↓code_region, ↓code_cond, ↓code_block, aCond_bool, ↓ops_nil, ↓ops_cons, run_none, run_someT, ↓run0_v, ↓seqK_normal, ↓blkK_normal, put_same, put_ne, ev_tmp, ev_const, oc_int, oc_bool, o_move, o_assign, o_pick, o_bin, o_load, o_nilCheck, o_fieldAddr, o_indexAddr, g_none, g_some, pick_bool, bin_add, bin_eql, bin_neq, bin_lss, nil_ptr, Option.bind_some, ↓reduceIte, Nat.reduceEqDiff, not_false_eq_true, Nat.reduceAdd, List.getElem?_cons_zero, List.getElem?_cons_succ, List.getElem?_toArray, Bool.false_eq_true, Bool.not_false, ne_eq, loadc_def, load_p1 T59 a59, fa_ptr T64 p64_1 (by decide), load_p1 T3 a3, e1, e9, e10, e11, c1, w1, w2, w3, c2', gq, c3, decide_true, decide_false, c7]
        refine hnext (k - 1) _ _ (by omega) ⟨z + 1, own2, M2, by omega, ?_, ?_, ?_, ?_, ?_, ?_, ?_, ?_, ?_⟩
        · exact hL2
        · exact (by rw [upto_same f S hs (by rw [hf]; unfold gleanF; rw [if_neg (fun g => c3 (by rw [hqs]; exact g.2))])]; exact hMs)
        · exact hst
        · omega
        · simp only [put_ne, not_false_eq_true, reduceCtorEq, ne_eq, e0]
        · simp only [put_ne, Nat.reduceEqDiff, not_false_eq_true, ne_eq, e1]
        · simp only [put_ne, Nat.reduceEqDiff, not_false_eq_true, ne_eq, e9]
        · simp only [put_ne, Nat.reduceEqDiff, not_false_eq_true, ne_eq, e10]
        · simp only [put_same]
    · have c1 : ¬ (z : Int) < (M.length : Int) := by omega
      have hin : z = M.length := by omega
      rw [hin, ← hSM, upto_all] at hMs
      simp +contextual (maxSteps := 3000000) only [↓code_seq, ↓code_region, ↓code_cond, ↓code_exit, aCond_bool, ↓ops_nil, ↓ops_cons, run_none, ↓run0_v, ↓seqK_normal, ↓seqK_exit, put_same, ev_tmp, o_bin, g_none, bin_lss, decide_eq_true_eq, ↓reduceIte, e10, e11, c1]
      refine hexit _ _ _ (by simp) ⟨h', _, ?_, ⟨own2, sv, M2, hL2, hMs.symm, rfl⟩, hst⟩
      simp +contextual (maxSteps := 3000000) only [↓blkK_exit, ↓retK_normal, resultsOf, oneOrAll, Option.map_some, ↓reduceIte]
  · refine ⟨0, own, M, by omega, ?_, ?_, ?_, ?_, ?_, ?_, ?_, ?_, ?_⟩
    · exact hM
    · exact (by rw [upto_zero, hS])
    · exact Stf.refl _ _
    · omega
    · simp only [put_ne, env0_at, Option.getD_some, not_false_eq_true, reduceCtorEq, List.getElem?_cons_zero, ne_eq]
    · simp only [put_ne, env0_at, Option.getD_some, Nat.reduceEqDiff, not_false_eq_true, List.getElem?_cons_zero, List.getElem?_cons_succ, ne_eq]
    · simp only [put_same, put_ne, Nat.reduceEqDiff, not_false_eq_true, ne_eq]
    · simp only [put_same, put_ne, Nat.reduceEqDiff, not_false_eq_true, ne_eq]
    · simp only [put_same]; rfl
/-- What answers a request of station i for an address. -/
def ansIf (S : List Sn) (i : Nat) (n d : Int) (k : Nat) : Bool := match S[k]? with
  | some o => decide (k ≠ i) && decide (o.st = 2) && eqA o.n o.d n d
  | none => false
def ansF (S : List Sn) (i : Nat) (n d : Int) : Nat → Sn → Sn
  | 0, s => s
  | k + 1, s => if ansIf S i n d k = true then learnF n d (k : Nat) (ansF S i n d k s) else ansF S i n d k s
theorem learn_core (n d t : Int) (s : Sn) : (learnF n d t s).st = s.st ∧ (learnF n d t s).n = s.n ∧ (learnF n d t s).d = s.d ∧ (learnF n d t s).rv = s.rv ∧ (learnF n d t s).row = s.row ∧ (learnF n d t s).k = s.k ∧ (learnF n d t s).se = s.se ∧ (learnF n d t s).qs = s.qs := by
  unfold learnF; split <;> exact ⟨rfl, rfl, rfl, rfl, rfl, rfl, rfl, rfl⟩
theorem ans_len (S : List Sn) (i : Nat) (n d : Int) : ∀ k s, (ansF S i n d k s).hs.length ≤ s.hs.length + k
  | 0, s => Nat.le_refl _
  | k + 1, s => by
    have ih := ans_len S i n d k s
    unfold ansF
    split
    · have := learn_len n d (k : Nat) (ansF S i n d k s); omega
    · omega
theorem ans_core (S : List Sn) (i : Nat) (n d : Int) : ∀ k s, (ansF S i n d k s).st = s.st ∧ (ansF S i n d k s).n = s.n ∧ (ansF S i n d k s).d = s.d ∧ (ansF S i n d k s).rv = s.rv ∧ (ansF S i n d k s).row = s.row ∧ (ansF S i n d k s).k = s.k ∧ (ansF S i n d k s).se = s.se ∧ (ansF S i n d k s).qs = s.qs
  | 0, s => ⟨rfl, rfl, rfl, rfl, rfl, rfl, rfl, rfl⟩
  | k + 1, s => by
    have ih := ans_core S i n d k s
    unfold ansF
    split
    · have h := learn_core n d (k : Nat) (ansF S i n d k s)
      exact ⟨h.1.trans ih.1, h.2.1.trans ih.2.1, h.2.2.1.trans ih.2.2.1, h.2.2.2.1.trans ih.2.2.2.1, h.2.2.2.2.1.trans ih.2.2.2.2.1, h.2.2.2.2.2.1.trans ih.2.2.2.2.2.1, h.2.2.2.2.2.2.1.trans ih.2.2.2.2.2.2.1, h.2.2.2.2.2.2.2.trans ih.2.2.2.2.2.2.2⟩
    · exact ih
theorem updI_at {S : List Sn} {i : Nat} {s : Sn} (hs : S[i]? = some s) (f : Sn → Sn) : updI S i f = S.set i (f s) := by unfold updI; rw [hs]
theorem updI_len (S : List Sn) (i : Nat) (f : Sn → Sn) : (updI S i f).length = S.length := by
  unfold updI; split
  · exact List.length_set
  · rfl
theorem V43 {I : Nat → Option (List AV → AH → Rs)} (h71 : I 71 = none) (h60 : I 60 = none) (h65 : I 65 = none) (h52 : I 52 = none) (h39 : I 39 = none) (h46 : I 46 = none) (h34 : I 34 = none) (h53 : I 53 = none) (h43 : I 43 = none) (h48 : I 48 = none) (m p i : Nat) (lo hi n d : Int) (S : List Sn) (s0 : Sn) (off : Nat → Prop) (h : AH) (hL : Lk h p lo hi S off) (hs0 : S[i]? = some s0) (hSl : S.length ≤ 100) (hB : s0.hs.length + 100 ≤ m ∧ s0.hs.length + 100 ≤ 1000000000) :
    ∃ h2 off2, call F I T (m + 180) 43 [.ptr p 0, .int .i64 (i : Nat), .agg [.int .i64 n, .int .i64 d]] h = some (.tup [], h2) ∧ Lk h2 p lo hi (updI S i (ansF S i n d S.length)) off2 ∧ Stf h h2 off off2 := by
  obtain ⟨own, sv, M, hM, rfl, rfl⟩ := hL
  have gA := Grow.alloc h (.cells [.int .i64 n, .int .i64 d] .own)
  obtain ⟨h1, e1⟩ : ∃ h1, h1 = h.alloc (.cells [.int .i64 n, .int .i64 d] .own) := ⟨_, rfl⟩
  rw [← e1] at gA
  have g0 : h1.get h.next = some (.cells [.int .i64 n, .int .i64 d] .own) := by rw [e1, AH.get_alloc, if_pos rfl]
  have nb : h.next < h1.next := by rw [e1]; simp
  have o0 := hM.nw h.next (Nat.le_refl _)
  have hM1 := hM.grow gA
  obtain ⟨fr, g⟩ := hM1.g
  have hlen : ∀ h, aLen T 56 sv h = some (.int .i64 (M.length : Nat)) := fun h => hM.r.len T56 d56
  rw [List.length_map] at hSl
  obtain ⟨S, hS⟩ : ∃ S, S = M.map Sm.s := ⟨_, rfl⟩
  rw [← hS] at hs0 ⊢
  have hSM : S.length = M.length := by rw [hS, List.length_map]
  have hil := (List.getElem?_eq_some_iff.1 hs0).1
  rw [call_F (by decide) h43 F43 rfl R43]; simp only [Try.f43, Option.getD]
  simp +contextual (maxSteps := 3000000) only [↓code_seq, ↓code_region, ↓code_block, ↓code_loop, ↓ops_nil, ↓ops_cons, run_none, ↓run0_v, ↓run0_r, ↓seqK_normal, put_same, put_ne, env0_at, ev_tmp, ev_const, oc_int, o_move, o_len, o_box, o_load, o_nilCheck, o_fieldAddr, g_none, nil_ptr, Option.getD_some, not_false_eq_true, Nat.reduceAdd, reduceCtorEq, List.getElem?_cons_zero, List.getElem?_cons_succ, ne_eq, box_agg, fa_ptr T58 p58_3 (by decide), load_p1 T56 a56, loadc_def, ← e1, g, hlen]
  refine iterL_wp (Q := fun r => ∃ h2 off2, r = some (.tup [], h2) ∧ Lk h2 p lo hi (updI S i (ansF S i n d S.length)) off2 ∧ Stf h h2 (fun c => own c = 0) off2) (N := M.length) (Inv := fun k e h' => ∃ z own2 M2, k + z = M.length ∧ LkOk h' own2 p lo hi sv M2 ∧ M2.map Sm.s = S.set i (ansF S i n d z s0) ∧ Stf h1 h' (fun c => own c = 0) (fun c => own2 c = 0) ∧ z ≤ M.length ∧ e 0 = .ptr p 0 ∧ e 1 = .int .i64 (i : Nat) ∧ e 5 = .ptr h.next 0 ∧ e 11 = sv ∧ e 12 = .int .i64 (M.length : Nat) ∧ e 13 = .int .i64 (z : Nat)) ?_ ?_ (show M.length < m + 179 by omega)
  · rintro k e h' K' ⟨z, own2, M2, hk, hL2, hMs, hst, hkl, e0, e1, e5, e11, e12, e13⟩ hnext hexit
    have hl2 : M2.length = M.length := by have := congrArg List.length hMs; rw [List.length_map, List.length_set] at this; omega
    have gb : h'.get h.next = some (.cells [.int .i64 n, .int .i64 d] .own) := (hst.2 _ nb o0).1.trans g0
    by_cases hz : z < M.length
    · have c1 : (z : Int) < (M.length : Int) := by omega
      have c7 : IntKind.i64.wrap ((z : Int) + 1) = ((z + 1 : Nat) : Int) := by rw [wrap_i64 (by omega) (by omega)]; rfl
      obtain ⟨s, hs⟩ : ∃ s, S[z]? = some s := ⟨S[z]'(by omega), List.getElem?_eq_getElem (by omega)⟩
      have hsu : (S.set i (ansF S i n d z s0))[z]? = some (if z = i then ansF S i n d z s0 else s) := by
        rw [List.getElem?_set]
        by_cases e : i = z
        · rw [if_pos e, if_pos hil, if_pos e.symm]
        · rw [if_neg e, if_neg (Ne.symm e), hs]
      obtain ⟨q, hq, hqs⟩ := map_at hMs hsu
      obtain ⟨b, cs, bk, w1, w2, w3⟩ := loadM hL2.r hq
      have gq := StOk.ptr hL2 hq
      by_cases c2 : z = i
      · have c2' : ((z : Nat) : Int) = ((i : Nat) : Int) := by rw [c2]
        have hno : ansIf S i n d z = false := by unfold ansIf; rw [hs]; simp [c2]
        simp +contextual (maxSteps := 3000000) only [↓code_skip, ↓code_seq, ↓code_region, ↓code_cond, ↓code_block, aCond_bool, ↓ops_nil, ↓ops_cons, run_none, run_someT, ↓run0_v, ↓seqK_normal, ↓blkK_normal, put_same, put_ne, ev_tmp, ev_const, ev_func, oc_int, oc_bool, o_move, o_assign, o_pick, o_bin, o_call, o_load, o_nilCheck, o_fieldAddr, o_indexAddr, g_none, g_some, pick_bool, bin_add, bin_neq, bin_lss, Option.bind_some, ↓reduceIte, Nat.reduceEqDiff, not_false_eq_true, Nat.reduceAdd, reduceCtorEq, List.getElem?_cons_zero, List.getElem?_cons_succ, List.getElem?_toArray, Bool.false_eq_true, List.map_cons, List.map_nil, List.append_nil, List.nil_append, Bool.not_true, ne_eq, loadc_def, load_p1 T59 a59, load_pA T35 a35, s35, loadn_def, callV_fn (g := 39) (by decide), e0, e1, e5, e11, e12, e13, c1, w1, w2, w3, eq_true c2', decide_true, c7]
        refine hnext (k - 1) _ _ (by omega) ⟨z + 1, own2, M2, by omega, ?_, ?_, ?_, ?_, ?_, ?_, ?_, ?_, ?_, ?_⟩
        · exact hL2
        · exact (by unfold ansF; rw [hno, if_neg (by simp)]; exact hMs)
        · exact hst
        · omega
        · simp only [put_ne, not_false_eq_true, reduceCtorEq, ne_eq, e0]
        · simp only [put_ne, Nat.reduceEqDiff, not_false_eq_true, ne_eq, e1]
        · simp only [put_ne, Nat.reduceEqDiff, not_false_eq_true, ne_eq, e5]
        · simp only [put_ne, Nat.reduceEqDiff, not_false_eq_true, ne_eq, e11]
        · simp only [put_ne, Nat.reduceEqDiff, not_false_eq_true, ne_eq, e12]
        · simp only [put_same]
      have c2' : ¬ ((z : Nat) : Int) = ((i : Nat) : Int) := by omega
      rw [if_neg c2] at hqs
      by_cases c3 : q.s.st = 2
      · cases c4 : eqA q.s.n q.s.d n d
        · have hno : ansIf S i n d z = false := by unfold ansIf; rw [hs]; simp [← hqs, c4]
          simp +contextual (maxSteps := 3000000) only [↓code_skip, ↓code_seq, ↓code_region, ↓code_cond, ↓code_block, aCond_bool, ↓ops_nil, ↓ops_cons, run_none, run_someT, ↓run0_v, ↓seqK_normal, ↓blkK_normal, put_same, put_ne, ev_tmp, ev_const, ev_func, oc_int, oc_bool, o_move, o_assign, o_pick, o_bin, o_call, o_load, o_nilCheck, o_fieldAddr, o_indexAddr, g_none, g_some, pick_bool, bin_add, bin_eql, bin_neq, bin_lss, nil_ptr, Option.bind_some, Option.map_some, ↓reduceIte, Nat.reduceEqDiff, not_false_eq_true, Nat.reduceAdd, reduceCtorEq, List.getElem?_cons_zero, List.getElem?_cons_succ, List.getElem?_toArray, Bool.false_eq_true, List.map_cons, List.map_nil, List.append_nil, List.nil_append, Nat.reduceLeDiff, Nat.le_refl, Bool.not_false, ne_eq, loadc_def, load_p1 T59 a59, fa_ptr T64 p64_1 (by decide), load_p1 T3 a3, fa_ptr T64 p64_4 (by decide), load_pA T35 a35, s35, loadn_def, callV_fn (g := 39) (by decide), List.drop_succ_cons, List.length_cons, List.length_nil, List.drop_zero, List.take_succ_cons, List.take_zero, List.take_nil, Nat.zero_add, e0, e1, e5, e11, e12, e13, c1, w1, w2, w3, c2', gq, gb, eql35, c4, eq_true c3, decide_true, decide_false, c7]
          refine hnext (k - 1) _ _ (by omega) ⟨z + 1, own2, M2, by omega, ?_, ?_, ?_, ?_, ?_, ?_, ?_, ?_, ?_, ?_⟩
          · exact hL2
          · exact (by unfold ansF; rw [hno, if_neg (by simp)]; exact hMs)
          · exact hst
          · omega
          · simp only [put_ne, not_false_eq_true, reduceCtorEq, ne_eq, e0]
          · simp only [put_ne, Nat.reduceEqDiff, not_false_eq_true, ne_eq, e1]
          · simp only [put_ne, Nat.reduceEqDiff, not_false_eq_true, ne_eq, e5]
          · simp only [put_ne, Nat.reduceEqDiff, not_false_eq_true, ne_eq, e11]
          · simp only [put_ne, Nat.reduceEqDiff, not_false_eq_true, ne_eq, e12]
          · simp only [put_same]
        · have hyes : ansIf S i n d z = true := by unfold ansIf; rw [hs]; simp [← hqs, c4, c2, c3]
          obtain ⟨hF, f1, f2, f3, f4, f5⟩ := run39 h71 h60 h65 h52 h39 (m + 176) p lo hi own2 sv M2 h' hL2
          obtain ⟨fr2, g2⟩ := f2.g
          obtain ⟨qi, hqi, hqis⟩ := map_at hMs (show (S.set i (ansF S i n d z s0))[i]? = some (ansF S i n d z s0) by rw [List.getElem?_set_self hil])
          obtain ⟨b', cs', bk', x1, x2, x3⟩ := loadM f2.r hqi
          have gb2 := (f3.2 _ (show h.next < h'.next by have := hst.1; omega) ((hst.2 _ nb o0).2)).1.trans gb
          have hb := ans_len S i n d z s0
          obtain ⟨h2, own3, q2, k1, k2, k3, k4, k5⟩ := run53 h46 h34 h53 h48 (m + 109) p i n d (z : Nat) lo hi own2 sv M2 qi hF f2 hqi (by rw [hqis]; omega)
          simp +contextual (maxSteps := 3000000) only [↓code_skip, ↓code_seq, ↓code_region, ↓code_cond, ↓code_block, aCond_bool, ↓ops_nil, ↓ops_cons, run_none, run_someT, ↓run0_v, ↓run0_r, ↓seqK_normal, ↓blkK_normal, put_same, put_ne, ev_tmp, ev_const, ev_func, oc_int, oc_bool, o_move, o_assign, o_pick, o_bin, o_call, o_load, o_nilCheck, o_fieldAddr, o_indexAddr, g_none, g_some, pick_bool, bin_add, bin_eql, bin_neq, bin_lss, nil_ptr, Option.bind_some, Option.map_some, ↓reduceIte, Nat.reduceEqDiff, not_false_eq_true, Nat.reduceAdd, reduceCtorEq, List.getElem?_cons_zero, List.getElem?_cons_succ, List.getElem?_toArray, List.map_cons, List.map_nil, List.append_nil, List.nil_append, Nat.reduceLeDiff, Nat.le_refl, Bool.not_false, ne_eq, fa_ptr T58 p58_3 (by decide), load_p1 T56 a56, loadc_def, load_p1 T59 a59, fa_ptr T64 p64_1 (by decide), load_p1 T3 a3, fa_ptr T64 p64_4 (by decide), load_pA T35 a35, s35, loadn_def, List.drop_succ_cons, List.length_cons, List.length_nil, List.drop_zero, List.take_succ_cons, List.take_zero, List.take_nil, Nat.zero_add, e0, e1, e5, e11, e12, e13, c1, w1, w2, w3, c2', gq, gb, eql35, c4, eq_true c3, f1, g2, x1, x2, x3, gb2, k1, decide_true, decide_false, c7, callV_fn (g := 53) (by decide), callV_fn (g := 39) (by decide)]
          refine hnext (k - 1) _ _ (by omega) ⟨z + 1, own3, M2.set i q2, by omega, ?_, ?_, ?_, ?_, ?_, ?_, ?_, ?_, ?_, ?_⟩
          · exact k2
          · exact (by unfold ansF; rw [hyes, if_pos rfl, map_set_s, hMs, List.set_set, k3, hqis])
          · exact (hst.trans f3).trans k5
          · omega
          · simp only [put_ne, not_false_eq_true, reduceCtorEq, ne_eq, e0]
          · simp only [put_ne, Nat.reduceEqDiff, not_false_eq_true, ne_eq, e1]
          · simp only [put_ne, Nat.reduceEqDiff, not_false_eq_true, ne_eq, e5]
          · simp only [put_ne, Nat.reduceEqDiff, not_false_eq_true, ne_eq, e11]
          · simp only [put_ne, Nat.reduceEqDiff, not_false_eq_true, ne_eq, e12]
          · simp only [put_same]
      · have hno : ansIf S i n d z = false := by unfold ansIf; rw [hs]; simp [← hqs, c3]
        simp +contextual (maxSteps := 3000000) only [↓code_skip, ↓code_seq, ↓code_region, ↓code_cond, ↓code_block, aCond_bool, ↓ops_nil, ↓ops_cons, run_none, run_someT, ↓run0_v, ↓seqK_normal, ↓blkK_normal, put_same, put_ne, ev_tmp, ev_const, ev_func, oc_int, oc_bool, o_move, o_assign, o_pick, o_bin, o_call, o_load, o_nilCheck, o_fieldAddr, o_indexAddr, g_none, g_some, pick_bool, bin_add, bin_eql, bin_neq, bin_lss, nil_ptr, Option.bind_some, ↓reduceIte, Nat.reduceEqDiff, not_false_eq_true, Nat.reduceAdd, reduceCtorEq, List.getElem?_cons_zero, List.getElem?_cons_succ, List.getElem?_toArray, Bool.false_eq_true, List.map_cons, List.map_nil, List.append_nil, List.nil_append, Bool.not_false, ne_eq, loadc_def, load_p1 T59 a59, fa_ptr T64 p64_1 (by decide), load_p1 T3 a3, load_pA T35 a35, s35, loadn_def, callV_fn (g := 39) (by decide), e0, e1, e5, e11, e12, e13, c1, w1, w2, w3, c2', gq, c3, decide_true, decide_false, c7]
        refine hnext (k - 1) _ _ (by omega) ⟨z + 1, own2, M2, by omega, ?_, ?_, ?_, ?_, ?_, ?_, ?_, ?_, ?_, ?_⟩
        · exact hL2
        · exact (by unfold ansF; rw [hno, if_neg (by simp)]; exact hMs)
        · exact hst
        · omega
        · simp only [put_ne, not_false_eq_true, reduceCtorEq, ne_eq, e0]
        · simp only [put_ne, Nat.reduceEqDiff, not_false_eq_true, ne_eq, e1]
        · simp only [put_ne, Nat.reduceEqDiff, not_false_eq_true, ne_eq, e5]
        · simp only [put_ne, Nat.reduceEqDiff, not_false_eq_true, ne_eq, e11]
        · simp only [put_ne, Nat.reduceEqDiff, not_false_eq_true, ne_eq, e12]
        · simp only [put_same]
    · have c1 : ¬ (z : Int) < (M.length : Int) := by omega
      have hin : z = M.length := by omega
      rw [hin] at hMs
      simp +contextual (maxSteps := 3000000) only [↓code_seq, ↓code_region, ↓code_cond, ↓code_exit, aCond_bool, ↓ops_nil, ↓ops_cons, run_none, ↓run0_v, ↓seqK_normal, ↓seqK_exit, put_same, ev_tmp, o_bin, g_none, bin_lss, decide_eq_true_eq, ↓reduceIte, e12, e13, c1]
      refine hexit _ _ _ (by simp) ⟨h', _, ?_, ⟨own2, sv, M2, hL2, ?_, rfl⟩, (Stf.grow _ gA).trans hst⟩
      · simp +contextual (maxSteps := 3000000) only [↓blkK_exit, ↓retK_normal, resultsOf, oneOrAll, Option.map_some, ↓reduceIte]
      · rw [updI_at hs0, hMs, hSM]
  · refine ⟨0, own, M, by omega, ?_, ?_, ?_, ?_, ?_, ?_, ?_, ?_, ?_, ?_⟩
    · exact hM1
    · exact (by show M.map Sm.s = S.set i s0; rw [← hS, ← (List.getElem?_eq_some_iff.1 hs0).2]; exact (List.set_getElem_self _).symm)
    · exact Stf.refl _ _
    · omega
    · simp only [put_ne, env0_at, Option.getD_some, not_false_eq_true, reduceCtorEq, List.getElem?_cons_zero, ne_eq]
    · simp only [put_ne, env0_at, Option.getD_some, Nat.reduceEqDiff, not_false_eq_true, List.getElem?_cons_zero, List.getElem?_cons_succ, ne_eq]
    · simp only [put_same, put_ne, Nat.reduceEqDiff, not_false_eq_true, ne_eq]
    · simp only [put_same, put_ne, Nat.reduceEqDiff, not_false_eq_true, ne_eq]
    · simp only [put_same, put_ne, Nat.reduceEqDiff, not_false_eq_true, ne_eq]
    · simp only [put_same]; rfl
end Go.AM.X
namespace Go.AM.X
open Go Go.AM Go.Proofs Go.AM.Sx
set_option maxHeartbeats 6400000
set_option maxRecDepth 100000
set_option linter.unusedVariables false
theorem F8 : F 8 = some { body := (Try.f8.body.getD .skip), results := Try.f8.results.toList, rf := false } := by kernel_rfl
theorem K22 {I : Nat → Option (List AV → AH → Rs)} (h22 : I 22 = some clG) (m : Nat) (v : AV) (row : List Int) (h : AH) (hr : Rv v row) (hl : row.length * 8 ≤ 140737488355328) : call F I T (m + 1) 22 [v] h = some (v, h) := by
  rw [call_I (by decide) h22]
  rcases hr with ⟨rfl, rfl⟩ | rfl
  · rfl
  · unfold clG
    by_cases h0 : row.length = 0
    · have : row = [] := List.length_eq_zero_iff.1 h0
      subst this
      rfl
    · simp only [intL_map, Option.isSome_some, true_and]
      rw [if_neg h0, if_pos (by omega)]
def newS (v : AV) (row : List Int) : Sn := ⟨v, row, 0, 0, 0, 0, 0, [], []⟩
theorem LkOk.add {h h2 : AH} {own : Nat → Nat} {p : Nat} {lo hi : Int} {sv v v' : AV} {row : List Int} {M : List Sm} (hL : LkOk h own p lo hi sv M) (hv : Rv v row) (fr : Int)
    (q2 : RowC 1 h2 v' (M.length + 1) ((M.map fun m => .ptr m.a 0) ++ [.ptr h.next 0])) (q3 : h.next + 1 + 1 ≤ h2.next) (q4 : ∀ c, c < h.next + 1 → offRow sv c → h2.get c = (h.alloc (.cells [v, .int .i64 0, .int .i64 0, .int .i64 0, .int .i64 0, .int .i64 0, .nils, .nils] .own)).get c)
    (q5 : ∀ b o l k z x, v' = .sl b o l k z x → h.next + 1 ≤ b ∨ ∃ o l k z x, sv = .sl b o l k z x) :
    ∃ own2, LkOk (h2.put p (.cells [.int .i64 lo, .int .i64 hi, .nils, v', .int .i64 fr] .own)) own2 p lo hi v' (M ++ [⟨h.next, .nils, .nils, newS v row⟩]) ∧ Stf h (h2.put p (.cells [.int .i64 lo, .int .i64 hi, .nils, v', .int .i64 fr] .own)) (fun c => own c = 0) (fun c => own2 c = 0) := by
  have hlt := hL.lt
  obtain ⟨own1, ho1⟩ : ∃ own1 : Nat → Nat, own1 = fun c => if c = h.next then M.length + 2 else own c := ⟨_, rfl⟩
  have o1 : ∀ c, c < h.next → own1 c = own c := fun c hc => by rw [ho1]; simp only; rw [if_neg (by omega)]
  have o2 : ∀ c, h.next + 1 ≤ c → own1 c = 0 := fun c hc => by rw [ho1]; simp only; rw [if_neg (by omega)]; exact hL.nw c (by omega)
  have o3 : own1 h.next = M.length + 2 := by rw [ho1]; simp
  obtain ⟨own2, ho2⟩ : ∃ own2, own2 = newOwn own1 (h.next + 1) 1 v' := ⟨_, rfl⟩
  have p1 : ∀ c, c < h.next → own2 c = own c := fun c hc => by rw [ho2, newOwn_lt _ (by omega), o1 c hc]
  have hput : ∀ c, c ≠ p → (h2.put p (.cells [.int .i64 lo, .int .i64 hi, .nils, v', .int .i64 fr] .own)).get c = h2.get c := fun c hc => by rw [AH.get_put, if_neg hc]
  have old : ∀ c, c < h.next → c ≠ p → offRow sv c → (h2.put p (.cells [.int .i64 lo, .int .i64 hi, .nils, v', .int .i64 fr] .own)).get c = h.get c := fun c hc hp ho => by
    rw [hput c hp, q4 c (by omega) ho, AH.get_alloc, if_neg (by omega)]
  have offs : ∀ c, own c ≠ 1 → offRow sv c := fun c hc b o l k z x e g => hc (by rw [g]; exact (hL.rx _ _ _ _ _ _ e).1)
  have hvb : ∀ b o l k z x, v' = .sl b o l k z x → b ≠ p := fun b o l k z x e => by
    rcases q5 _ _ _ _ _ _ e with g | ⟨_, _, _, _, _, g⟩
    · omega
    · exact (hL.rx _ _ _ _ _ _ g).2
  refine ⟨own2, { lt := by show p < h2.next; omega, op := (p1 p hlt).trans hL.op, g := ⟨fr, by rw [AH.get_put, if_pos rfl]⟩, r := ?_, rx := fun b o l k z x e => ⟨?_, hvb _ _ _ _ _ _ e⟩, s := fun i m hm => ?_, nw := fun c hc => ?_ }, by show h.next ≤ h2.next; omega, fun c hc ho => ⟨?_, ?_⟩⟩
  · rw [List.length_append, List.map_append]
    exact q2.keep (show h2.next ≤ (h2.put p _).next from Nat.le_refl _) fun b o l k z x e => hput b (hvb _ _ _ _ _ _ e)
  · rcases q5 _ _ _ _ _ _ e with g | ⟨_, _, _, _, _, g⟩
    · rw [ho2]; exact newOwn_b e g
    · rw [p1 b (hL.r.lt g)]; exact (hL.rx _ _ _ _ _ _ g).1
  · rcases Nat.lt_or_ge i M.length with g | g
    · rw [List.getElem?_append_left g] at hm
      exact (hL.s i m hm).keep (by show h.next ≤ h2.next; omega) fun c hc ho => ⟨old c hc (fun e => by rw [e, hL.op] at ho; omega) (offs c (by omega)), p1 c hc⟩
    · have hi : i = M.length := by
        have := (List.getElem?_eq_some_iff.1 hm).1
        rw [List.length_append] at this; simp at this; omega
      subst hi
      rw [List.getElem?_append_right (Nat.le_refl _), Nat.sub_self] at hm
      cases hm
      refine { lt := by show h.next < h2.next; omega, oa := by show own2 h.next = M.length + 2; rw [ho2, newOwn_lt _ (by omega)]; exact o3, g := ?_, rv := hv, ra := RowC.nil _ _, rh := RowC.nil _ _, ax := fun _ _ _ _ _ _ e => (by cases e), hx := fun _ _ _ _ _ _ e => (by cases e), ah := fun _ _ _ _ _ _ e => (by cases e) }
      show (h2.put p _).get h.next = _
      rw [hput h.next (by omega), q4 h.next (by omega) (fun b o l k z x e => by have := hL.r.lt e; omega), AH.get_alloc, if_pos rfl]
      rfl
  · rw [ho2]
    exact newOwn_ge (N := h2.next) o2 (by omega) (fun b o l k z x e => q2.lt e) hc
  · have ho' : own c = 0 := ho
    exact old c hc (fun e => by rw [e, hL.op] at ho'; omega) (offs c (by omega))
  · show own2 c = 0
    rw [p1 c hc]; exact ho
def AddP (n p : Nat) (lo hi : Int) (S : List Sn) (v : AV) (row : List Int) (h : AH) (off : Nat → Prop) (r : Rs) : Prop :=
  ∃ h2 off2, r = some (.tup [.int .i64 (n : Nat), .int .i64 0], h2) ∧ Lk h2 p lo hi (S ++ [newS v row]) off2 ∧ Stf h h2 off off2
theorem V8 {I : Nat → Option (List AV → AH → Rs)} (h21 : I 21 = none) (h22 : I 22 = some clG) (h8 : I 8 = none) (m p : Nat) (lo hi : Int) (S : List Sn) (v : AV) (row : List Int) (off : Nat → Prop) (h : AH) (hL : Lk h p lo hi S off) (hl : ¬ lo = 0) (hv : Rv v row) (hrl : row.length * 8 ≤ 140737488355328) (hS : S.length < 40) :
    AddP S.length p lo hi S v row h off (call F I T (m + 5) 8 [.ptr p 0, v] h) := by
  obtain ⟨own, sv, M, hM, rfl, rfl⟩ := hL
  rw [List.length_map] at hS ⊢
  obtain ⟨fr, g⟩ := hM.g
  have k1 := run21 h21 (m + 3) p lo hi fr sv h g hl
  have k2 := K22 h22 (m + 3) v row h hv hrl
  have hlen : ∀ h, aLen T 56 sv h = some (.int .i64 (M.length : Nat)) := fun h => hM.r.len T56 d56
  have c1 : ¬ (M.length : Int) = 40 := by omega
  have gA := Grow.alloc h (.cells [v, .int .i64 0, .int .i64 0, .int .i64 0, .int .i64 0, .int .i64 0, .nils, .nils] .own)
  obtain ⟨v', h2, q1, q2, q3, q4, q5⟩ := (hM.r.grow gA).push (new := [.ptr h.next 0]) T56 d56 T59 s59 (by decide) (by rw [b59]; decide) rfl rfl (by rw [b59]; simp [maxBytes]; omega)
  obtain ⟨own2, t1, t2⟩ := hM.add hv fr q2 q3 q4 q5
  rw [AH.next_alloc] at q1
  obtain ⟨u1, u2⟩ := q2.cells
  have g2 : h2.get p = some (.cells [.int .i64 lo, .int .i64 hi, .nils, sv, .int .i64 fr] .own) := by
    rw [q4 p (by have := hM.lt; simp; omega) (fun b o l k z x e g => (hM.rx _ _ _ _ _ _ e).2 g.symm), AH.get_alloc, if_neg (by have := hM.lt; omega)]; exact g
  have w1 := store_1 (T := T) T56 s56 u1 u2 g2 (show 3 < 5 by decide)
  obtain ⟨h3, e3⟩ : ∃ h3, h3 = h2.put p (.cells [.int .i64 lo, .int .i64 hi, .nils, v', .int .i64 fr] .own) := ⟨_, rfl⟩
  replace w1 : aStore T 56 (.ptr p 3) v' h2 = some h3 := by rw [e3]; exact w1
  rw [← e3] at t1 t2
  have g3 : h3.get p = some (.cells [.int .i64 lo, .int .i64 hi, .nils, v', .int .i64 fr] .own) := by rw [e3, AH.get_put, if_pos rfl]
  have hlen2 : ∀ h, aLen T 56 v' h = some (.int .i64 ((M.length + 1 : Nat) : Int)) := fun h => q2.len T56 d56
  have c7 : IntKind.i64.wrap (((M.length + 1 : Nat) : Int) - 1) = (M.length : Int) := by rw [wrap_i64 (by omega) (by omega)]; omega
  have pne1 : ¬ p = h.next := by have := hM.lt; omega
  have pne2 : ¬ p = h.next + 1 := by have := hM.lt; omega
  have sv1 : sameV sv sv = true := by rcases hM.r with ⟨rfl, _⟩ | ⟨b, cap, ex, rest, rfl, _⟩ <;> simp [sameV]
  rcases hv with ⟨rfl, rfl⟩ | rfl
  · rw [call_code (by decide) h8 F8 rfl]; simp only [Try.f8, Option.getD]
    simp +contextual (maxSteps := 3000000) only [aCond_bool, ↓ops_nil, ↓ops_cons, run_none, ↓run0_v, ↓run0_r, ↓seqK_normal, ↓blkK_normal, put_same, put_ne, env0_at, ev_tmp, ev_const, ev_func, oc_int, o_move, o_assign, o_bin, o_call, o_len, o_load, o_nilCheck, o_fieldAddr, g_none, bin_eql, nil_ptr, Option.getD_some, decide_eq_true_eq, ↓reduceIte, not_false_eq_true, Nat.reduceAdd, reduceCtorEq, List.getElem?_cons_zero, List.getElem?_cons_succ, Bool.false_eq_true, List.map_cons, List.map_nil, List.append_nil, List.nil_append, ne_eq, ↓cd_skip, ↓cd_seq, ↓cd_region, ↓cd_cond, ↓cd_block, fa_ptr T58 p58_3 (by decide), load_p1 T56 a56, loadc_def, k1, g, hlen, c1, callV_fn (g := 21) (by decide)]
    rw [code_soft (ss := [(4, 0, 10)]) (by kernel_rfl) (by kernel_rfl) (by simp)]
    simp +contextual (maxSteps := 3000000) only [↓ops_nil, ↓ops_cons, run_none, ↓run0_v, ↓run0_h, ↓run0_r, ↓seqK_normal, ↓retK_ret, put_same, put_ne, put_none, env0_at, ev_tmp, ev_const, ev_func, oc_int, o_move, o_assign, o_bin, o_call, o_len, o_box, o_build, o_buildSlice, o_load, o_store, o_nilCheck, o_fieldAddr, o_append, g_none, nil_ptr, resultsOf, oneOrAll, Option.bind_some, Option.map_some, Option.getD_some, ↓reduceIte, Nat.reduceEqDiff, not_false_eq_true, Nat.reduceAdd, Nat.reduceMul, reduceCtorEq, List.getElem?_cons_zero, List.getElem?_cons_succ, List.map_cons, List.map_nil, List.append_nil, List.nil_append, List.cons_append, AH.next_alloc, and_true, Nat.reduceLeDiff, Nat.le_refl, ne_eq, ↓cd_seq, ↓cd_region, ↓cd_ret, fa_ptr T58 p58_3 (by decide), load_p1 T56 a56, loadc_def, build_struct T64 d64, z64, parts_eq, fillA, AV.cells, AH.splice, List.take_zero, List.drop_succ_cons, List.drop_zero, List.drop_nil, List.length_cons, List.length_nil, p64_0, box_agg, buildSl T56 d56 T59 (n := 1) (by rw [s59]; decide), s59, z59, repl, run0_h, opsTr_nil, opsTr_cons, List.length_cons, List.length_nil, List.drop_zero, List.take_zero, Nat.zero_add, g, k2, q1, w1, g3, run0_h, callV_fn (g := 22) (by decide)]
    refine soft_Q (AddP M.length p lo hi (M.map Sm.s) _ _ h fun c => own c = 0) ?_ ?_
    rotate_left
    · simp +contextual (maxSteps := 3000000) only [run_none, ↓run0_v, put_same, ev_tmp, o_load, g_none, ↓reduceIte, Nat.reduceAdd, List.getElem?_cons_zero, List.getElem?_cons_succ, List.getElem?_toArray, AH.get_alloc, AH.next_alloc, load_p1 T56 a56, loadc_def, softOk, sameAt, stepV, Bool.and_true, Nat.zero_add, g, sv1, pne1, pne2]
    simp +contextual (maxSteps := 3000000) only [↓run0_v, bin_sub, hlen2, c7]
    exact ⟨_, _, rfl, ⟨own2, v', _, t1, by rw [List.map_append]; rfl, rfl⟩, t2⟩
  · rw [call_code (by decide) h8 F8 rfl]; simp only [Try.f8, Option.getD]
    simp +contextual (maxSteps := 3000000) only [aCond_bool, ↓ops_nil, ↓ops_cons, run_none, ↓run0_v, ↓run0_r, ↓seqK_normal, ↓blkK_normal, put_same, put_ne, env0_at, ev_tmp, ev_const, ev_func, oc_int, o_move, o_assign, o_bin, o_call, o_len, o_load, o_nilCheck, o_fieldAddr, g_none, bin_eql, nil_ptr, Option.getD_some, decide_eq_true_eq, ↓reduceIte, not_false_eq_true, Nat.reduceAdd, reduceCtorEq, List.getElem?_cons_zero, List.getElem?_cons_succ, Bool.false_eq_true, List.map_cons, List.map_nil, List.append_nil, List.nil_append, ne_eq, ↓cd_skip, ↓cd_seq, ↓cd_region, ↓cd_cond, ↓cd_block, fa_ptr T58 p58_3 (by decide), load_p1 T56 a56, loadc_def, k1, g, hlen, c1, callV_fn (g := 21) (by decide)]
    rw [code_soft (ss := [(4, 0, 10)]) (by kernel_rfl) (by kernel_rfl) (by simp)]
    simp +contextual (maxSteps := 3000000) only [↓ops_nil, ↓ops_cons, run_none, ↓run0_v, ↓run0_h, ↓run0_r, ↓seqK_normal, ↓retK_ret, put_same, put_ne, put_none, env0_at, ev_tmp, ev_const, ev_func, oc_int, o_move, o_assign, o_bin, o_call, o_len, o_box, o_build, o_buildSlice, o_load, o_store, o_nilCheck, o_fieldAddr, o_append, g_none, nil_ptr, resultsOf, oneOrAll, Option.bind_some, Option.map_some, Option.getD_some, ↓reduceIte, Nat.reduceEqDiff, not_false_eq_true, Nat.reduceAdd, Nat.reduceMul, reduceCtorEq, List.getElem?_cons_zero, List.getElem?_cons_succ, List.map_cons, List.map_nil, List.append_nil, List.nil_append, List.cons_append, AH.next_alloc, and_true, Nat.reduceLeDiff, Nat.le_refl, ne_eq, ↓cd_seq, ↓cd_region, ↓cd_ret, fa_ptr T58 p58_3 (by decide), load_p1 T56 a56, loadc_def, build_struct T64 d64, z64, parts_eq, fillA, AV.cells, AH.splice, List.take_zero, List.drop_succ_cons, List.drop_zero, List.drop_nil, List.length_cons, List.length_nil, p64_0, box_agg, buildSl T56 d56 T59 (n := 1) (by rw [s59]; decide), s59, z59, repl, run0_h, opsTr_nil, opsTr_cons, List.length_cons, List.length_nil, List.drop_zero, List.take_zero, Nat.zero_add, g, k2, q1, w1, g3, run0_h, callV_fn (g := 22) (by decide)]
    refine soft_Q (AddP M.length p lo hi (M.map Sm.s) _ _ h fun c => own c = 0) ?_ ?_
    rotate_left
    · simp +contextual (maxSteps := 3000000) only [run_none, ↓run0_v, put_same, ev_tmp, o_load, g_none, ↓reduceIte, Nat.reduceAdd, List.getElem?_cons_zero, List.getElem?_cons_succ, List.getElem?_toArray, AH.get_alloc, AH.next_alloc, load_p1 T56 a56, loadc_def, softOk, sameAt, stepV, Bool.and_true, Nat.zero_add, g, sv1, pne1, pne2]
    simp +contextual (maxSteps := 3000000) only [↓run0_v, bin_sub, hlen2, c7]
    exact ⟨_, _, rfl, ⟨own2, v', _, t1, by rw [List.map_append]; rfl, rfl⟩, t2⟩
end Go.AM.X
