/- A link: a step. Own work. -/
import Derived.Test.YtghkgkjbdfnimaaPbgH
namespace Go.AM.X
open Go Go.AM Go.Proofs Go.AM.Sx
set_option maxHeartbeats 12800000
set_option maxRecDepth 100000
set_option linter.unusedVariables false
theorem F11 : F 11 = some { body := (Try.f11.body.getD .skip), results := Try.f11.results.toList, rf := false } := by kernel_rfl
theorem R11 : regsOk T (Try.f11.body.getD .skip) = true := by kernel_rfl
def ageH (e : Hi) : Hi := { e with g := IntKind.i64.wrap (e.g + 1) }
def ageF (s : Sn) : Sn := { s with hs := (s.hs.map ageH).filter fun e => !decide (20 < e.g) }
def stepS (lo hi : Int) (S : List Sn) : List Sn := (askS (probeS lo hi S)).map ageF
theorem probeS_len (lo hi : Int) (S : List Sn) : (probeS lo hi S).length = S.length := by unfold probeS; exact List.length_mapIdx
theorem probeS_hq {lo hi : Int} {S : List Sn} {s : Sn} (hs : s ∈ probeS lo hi S) : ∃ t ∈ S, s.hs = t.hs ∧ s.qs = t.qs := by
  obtain ⟨i, hi, rfl⟩ := List.getElem_of_mem hs
  unfold probeS at hi ⊢
  rw [List.length_mapIdx] at hi
  rw [List.getElem_mapIdx]
  refine ⟨S[i], List.getElem_mem hi, ?_⟩
  split
  · unfold prF
    split
    · exact ⟨rfl, rfl⟩
    · split <;> exact ⟨rfl, rfl⟩
  · exact ⟨rfl, rfl⟩
theorem askS_len (S : List Sn) : (askS S).length = S.length := by unfold askS; rw [List.length_map, reqFs_len, List.length_map]
theorem askS_hs {S : List Sn} {B C : Nat} (hB : ∀ s ∈ S, s.hs.length ≤ B) (hC : ∀ s ∈ S, s.qs.length ≤ C) (hl : S.length ≤ 100) : ∀ s ∈ askS S, s.hs.length ≤ B + 10100 * C ∧ s.qs.length ≤ C := fun s hs => by
  unfold askS at hs
  obtain ⟨t, ht, rfl⟩ := List.mem_map.1 hs
  have h1 : ∀ s ∈ S.map incF, s.hs.length ≤ B := fun s hs => by
    obtain ⟨s', hs', rfl⟩ := List.mem_map.1 hs
    exact hB s' hs'
  have h2 : ∀ s ∈ S.map incF, s.qs.length ≤ C := fun s hs => by
    obtain ⟨s', hs', rfl⟩ := List.mem_map.1 hs
    show (s'.qs.map inc).length ≤ C
    rw [List.length_map]; exact hC s' hs'
  have h3 : (reqs S).length ≤ 100 * C := Nat.le_trans (reqsU_len hC _) (Nat.mul_le_mul_right _ hl)
  have h4 := reqFs_hs (reqs S) h1 (by rw [List.length_map]; exact hl) t ht
  have h5 := reqFs_qs (reqs S) h2 t ht
  refine ⟨by show t.hs.length ≤ _; omega, ?_⟩
  show (t.qs.filter _).length ≤ C
  exact Nat.le_trans (List.length_filter_le _ _) h5
def Nm (s : Sn) : Prop := (0 ≤ s.k ∧ s.k ≤ 600 ∧ (s.st = 1 → s.k ≤ 599)) ∧ 0 ≤ s.se ∧ s.se ≤ 10 ∧ (s.st = 1 → s.se ≤ 9)
theorem V11 {I : Nat → Option (List AV → AH → Rs)} (h21 : I 21 = none) (h71 : I 71 = none) (h60 : I 60 = none) (h65 : I 65 = none) (h52 : I 52 = none) (h39 : I 39 = none) (h41 : I 41 = none) (h40 : I 40 = none) (h27 : I 27 = none) (h46 : I 46 = none) (h34 : I 34 = none) (h53 : I 53 = none) (h42 : I 42 = none) (h43 : I 43 = none) (h47 : I 47 = none) (h44 : I 44 = none) (h28 : I 28 = none) (h29 : I 29 = none) (h30 : I 30 = none) (h11 : I 11 = none) (h48 : I 48 = none) (h45 : I 45 = none) (m p : Nat) (lo hi : Int) (S : List Sn) (off : Nat → Prop) (h : AH) (B C : Nat) (hL : Lk h p lo hi S off) (hl : 1 ≤ lo ∧ lo ≤ hi ∧ hi ≤ 65279) (hSl : S.length ≤ 100) (hN : ∀ s ∈ S, Nm s) (hB : ∀ s ∈ S, s.hs.length ≤ B) (hC : ∀ s ∈ S, s.qs.length ≤ C) (hm : B + 10100 * C + 300 ≤ m ∧ m ≤ 900000000) :
    ∃ h2 off2, call F I T (m + 301) 11 [.ptr p 0] h = some (.int .i64 0, h2) ∧ Lk h2 p lo hi (stepS lo hi S) off2 ∧ Stf h h2 off off2 := by
  obtain ⟨own, sv, M, hM, rfl, rfl⟩ := hL
  rw [List.length_map] at hSl
  obtain ⟨fr, g⟩ := hM.g
  have k1 := run21 h21 (m + 299) p lo hi fr sv h g (by omega)
  obtain ⟨h1, M1, k2, k3, k4, k5⟩ := run27 h71 h60 h65 h52 h39 h41 h40 h27 (m + 90) p lo hi own sv M h hM hl (by omega) (fun s hs => by have := hN s hs; unfold Nm at this; omega)
  obtain ⟨S1, hS1⟩ : ∃ S1, S1 = probeS lo hi (M.map Sm.s) := ⟨_, rfl⟩
  rw [← hS1] at k4
  have hS1l : S1.length = M.length := by rw [hS1, probeS_len, List.length_map]
  have hB1 : ∀ s ∈ S1, s.hs.length ≤ B := fun s hs => by rw [hS1] at hs; obtain ⟨t, ht, e1, e2⟩ := probeS_hq hs; rw [e1]; exact hB t ht
  have hC1 : ∀ s ∈ S1, s.qs.length ≤ C := fun s hs => by rw [hS1] at hs; obtain ⟨t, ht, e1, e2⟩ := probeS_hq hs; rw [e2]; exact hC t ht
  obtain ⟨h2, off2, k6, k7, k8⟩ := V28 h71 h60 h65 h52 h39 h46 h34 h53 h42 h43 h47 h44 h28 h48 h45 m p lo hi S1 (fun c => own c = 0) h1 B C ⟨own, sv, M1, k3, k4.symm, rfl⟩ (by omega) hB1 hC1 hm
  have hst2 := k5.trans k8
  obtain ⟨S2, hS2⟩ : ∃ S2, S2 = askS S1 := ⟨_, rfl⟩
  rw [← hS2] at k7
  have hB2 : ∀ s ∈ S2, s.hs.length ≤ B + 10100 * C := fun s hs => by rw [hS2] at hs; exact (askS_hs hB1 hC1 (by omega) s hs).1
  have hS2l : S2.length = M.length := by rw [hS2, askS_len, hS1l]
  have hfin : stepS lo hi (M.map Sm.s) = S2.map ageF := by unfold stepS; rw [← hS1, ← hS2]
  rw [hfin]
  obtain ⟨own', sv', M', hM', hSM', rfl⟩ := k7
  obtain ⟨fr', g'⟩ := hM'.g
  have hlen' : ∀ h, aLen T 56 sv' h = some (.int .i64 (M'.length : Nat)) := fun h => hM'.r.len T56 d56
  have hM'l : M'.length = M.length := by rw [← hS2l, hSM', List.length_map]
  obtain ⟨Qf, hQf⟩ : ∃ Qf : Rs → Prop, Qf = fun r => ∃ h2 off2, r = some (.int .i64 0, h2) ∧ Lk h2 p lo hi (S2.map ageF) off2 ∧ Stf h h2 (fun c => own c = 0) off2 := ⟨_, rfl⟩
  suffices hh : Qf (call F I T (m + 301) 11 [.ptr p 0] h) by rw [hQf] at hh; exact hh
  rw [call_F (by decide) h11 F11 rfl R11]; simp only [Try.f11, Option.getD]
  simp +contextual (maxSteps := 3000000) only [↓code_skip, ↓code_seq, ↓code_region, ↓code_cond, ↓code_block, ↓code_loop, aCond_bool, ↓ops_nil, ↓ops_cons, run_none, ↓run0_v, ↓run0_r, ↓seqK_normal, put_same, put_ne, env0_at, ev_tmp, ev_const, ev_func, oc_int, o_move, o_assign, o_call, o_len, o_load, o_nilCheck, o_fieldAddr, g_none, nil_ptr, Option.getD_some, ↓reduceIte, not_false_eq_true, Nat.reduceAdd, reduceCtorEq, List.getElem?_cons_zero, List.getElem?_cons_succ, Bool.false_eq_true, List.map_cons, List.map_nil, List.append_nil, List.nil_append, ne_eq, fa_ptr T58 p58_3 (by decide), load_p1 T56 a56, loadc_def, k1, k2, k6, g', hlen', callV_fn (g := 21) (by decide), callV_fn (g := 27) (by decide), callV_fn (g := 28) (by decide)]
  refine iterL_wp (Q := fun r => Qf r) (N := M'.length) (Inv := fun k e h' => ∃ u own3 M3, k + u = M'.length ∧ LkOk h' own3 p lo hi sv' M3 ∧ M3.map Sm.s = uptoG ageF S2 u ∧ Stf h h' (fun c => own c = 0) (fun c => own3 c = 0) ∧ u ≤ M'.length ∧ e 0 = .ptr p 0 ∧ e 15 = sv' ∧ e 16 = .int .i64 (M'.length : Nat) ∧ e 17 = .int .i64 (u : Nat)) ?_ ?_ (show M'.length < m + 300 by omega)
  · rintro k e h' K' ⟨u, own3, M3, hk, hL3, hMs3, hst3, hul, e0, e15, e16, e17⟩ hnext hexit
    by_cases hu : u < M'.length
    · have r1 : (u : Int) < (M'.length : Int) := by omega
      have r7 : IntKind.i64.wrap ((u : Int) + 1) = ((u + 1 : Nat) : Int) := by rw [wrap_i64 (by omega) (by omega)]; rfl
      obtain ⟨s, hs⟩ : ∃ s, S2[u]? = some s := ⟨S2[u]'(by omega), List.getElem?_eq_getElem (by omega)⟩
      obtain ⟨q, hq, hqs⟩ := map_at hMs3 (uptoG_get ageF S2 hs)
      obtain ⟨b, cs, bk, w1, w2, w3⟩ := loadM hL3.r hq
      have gq := StOk.ptr hL3 hq
      have hB4 := hB2 s (List.mem_of_getElem? hs)
      have hlh : ∀ h, aLen T 62 q.hv h = some (.int .i64 (s.hs.length : Nat)) := fun h => by rw [← hqs]; exact (hL3.s u q hq).rh.len T62 d62
      have hnext0 := hnext
      obtain ⟨k0, hk0⟩ : ∃ k0, k0 = k := ⟨k, rfl⟩
      simp +contextual (maxSteps := 3000000) only [↓code_skip, ↓code_seq, ↓code_region, ↓code_cond, ↓code_block, ↓code_loop, aCond_bool, ↓ops_nil, ↓ops_cons, run_none, ↓run0_v, ↓seqK_normal, put_same, put_ne, ev_tmp, ev_const, oc_int, o_move, o_assign, o_bin, o_len, o_load, o_nilCheck, o_fieldAddr, o_indexAddr, g_none, bin_lss, nil_ptr, decide_eq_true_eq, ↓reduceIte, Nat.reduceEqDiff, not_false_eq_true, Nat.reduceAdd, List.getElem?_cons_zero, List.getElem?_cons_succ, ne_eq, loadc_def, load_p1 T59 a59, fa_ptr T64 p64_6 (by decide), load_p1 T62 a62, e15, e16, e17, r1, w1, w2, w3, gq, hlh]
      refine iterL_wp (Q := fun r => Qf r) (N := s.hs.length) (Inv := fun k e h' => ∃ y M4 q4, k + y = s.hs.length ∧ LkOk h' own3 p lo hi sv' M4 ∧ M4.map Sm.s = (uptoG ageF S2 u).set u { s with hs := uptoG ageH s.hs y } ∧ (M4[u]? = some q4 ∧ q4.a = q.a ∧ q4.hv = q.hv ∧ q4.av = q.av) ∧ Stf h h' (fun c => own c = 0) (fun c => own3 c = 0) ∧ y ≤ s.hs.length ∧ e 0 = .ptr p 0 ∧ e 4 = .ptr q.a 0 ∧ e 15 = sv' ∧ e 16 = .int .i64 (M'.length : Nat) ∧ e 17 = .int .i64 (u : Nat) ∧ e 25 = .int .i64 (s.hs.length : Nat) ∧ e 26 = .int .i64 (y : Nat)) ?_ ?_ (show s.hs.length < m + 300 by omega)
      · rintro k e h' K' ⟨y, M4, q4, hk, hL4, hMs4, hq4, hst4, hyl, e0, e4, e15, e16, e17, e25, e26⟩ hnext hexit
        obtain ⟨hq4a, hq4b, hq4c, hq4d⟩ := hq4
        have hzu : u < (uptoG ageF S2 u).length := by rw [uptoG_len]; omega
        have hq4s : q4.s = { s with hs := uptoG ageH s.hs y } := by
          have h1 := congrArg (fun l => l[u]?) hMs4
          simp only [List.getElem?_map, hq4a, Option.map_some, List.getElem?_set_self hzu] at h1
          exact Option.some.inj h1
        have hS4 := hL4.s u q4 hq4a
        have gq4 := StOk.ptr hL4 hq4a
        rw [hq4b] at gq4
        by_cases hy : y < s.hs.length
        · have d1 : (y : Int) < (s.hs.length : Int) := by omega
          have d7 : IntKind.i64.wrap ((y : Int) + 1) = ((y + 1 : Nat) : Int) := by rw [wrap_i64 (by omega) (by omega)]; rfl
          obtain ⟨ak, he⟩ : ∃ ak, s.hs[y]? = some ak := ⟨s.hs[y], List.getElem?_eq_getElem hy⟩
          have heq : q4.s.hs[y]? = some ak := by rw [hq4s]; exact uptoG_get ageH s.hs he
          obtain ⟨b1, cs1, bk1, x1, x2, x3, x4⟩ := loadHi hS4.rh heq
          have x5 : cs1[y * 4 + 3]? = some (.int .i64 ak.g) := by
            have := congrArg (fun l => l[3]?) x4
            simpa [List.getElem?_take, List.getElem?_drop] using this
          obtain ⟨b2, h3, y1, y2, y3, y4, y5, _⟩ := storeC Hi.av 4 Hi.len T62 d62 T68 s68 T3 s3 (y := ageH ak) (w := .int .i64 (IntKind.i64.wrap (ak.g + 1))) (j := 3) hS4.rh heq (by decide) rfl rfl rfl
          have hbb : b2 = b1 := by rw [x1] at y1; cases y1; rfl
          subst hbb
          obtain ⟨tL, tS⟩ := hL4.rowH hq4a (hs2 := q4.s.hs.set y (ageH ak)) (by rw [List.length_set]; exact y3) y4 y5
          have hzm : u < M4.length := (List.getElem?_eq_some_iff.1 hq4a).1
          simp +contextual (maxSteps := 3000000) only [↓code_skip, ↓code_seq, ↓code_region, ↓code_cond, ↓code_block, aCond_bool, ↓ops_nil, ↓ops_cons, run_none, ↓run0_v, ↓run0_h, ↓seqK_normal, ↓blkK_normal, put_same, put_ne, put_none, ev_tmp, ev_const, oc_int, o_move, o_assign, o_bin, o_load, o_store, o_nilCheck, o_fieldAddr, o_indexAddr, g_none, bin_add, bin_lss, nil_ptr, decide_eq_true_eq, ↓reduceIte, Nat.reduceEqDiff, not_false_eq_true, Nat.reduceAdd, List.getElem?_cons_zero, List.getElem?_cons_succ, ne_eq, loadc_def, fa_ptr T64 p64_6 (by decide), load_p1 T62 a62, fa_ptr T68 p68_2 (by decide), load_p1 T3 a3, run0_h, e4, e25, e26, d1, gq4, x1, x2, x5, y2, d7]
          refine hnext (k - 1) _ _ (by omega) ⟨y + 1, M4.set u { q4 with s := { q4.s with hs := q4.s.hs.set y (ageH ak) } }, { q4 with s := { q4.s with hs := q4.s.hs.set y (ageH ak) } }, by omega, ?_, ?_, ?_, ?_, ?_, ?_, ?_, ?_, ?_, ?_, ?_, ?_⟩
          · exact tL
          · exact (by rw [map_set_s, hMs4, List.set_set, hq4s, uptoG_step ageH s.hs he])
          · exact ⟨List.getElem?_set_self hzm, hq4b, hq4c, hq4d⟩
          · exact hst4.trans tS
          · omega
          · simp only [put_ne, not_false_eq_true, reduceCtorEq, ne_eq, e0]
          · simp only [put_ne, Nat.reduceEqDiff, not_false_eq_true, ne_eq, e4]
          · simp only [put_ne, Nat.reduceEqDiff, not_false_eq_true, ne_eq, e15]
          · simp only [put_ne, Nat.reduceEqDiff, not_false_eq_true, ne_eq, e16]
          · simp only [put_ne, Nat.reduceEqDiff, not_false_eq_true, ne_eq, e17]
          · simp only [put_ne, Nat.reduceEqDiff, not_false_eq_true, ne_eq, e25]
          · simp only [put_same]
        · have d1 : ¬ (y : Int) < (s.hs.length : Int) := by omega
          have hyn : y = s.hs.length := by omega
          rw [hyn, uptoG_all] at hq4s
          have hq4l : q4.s.hs.length ≤ B + 10100 * C := by rw [hq4s]; show (s.hs.map ageH).length ≤ _; rw [List.length_map]; exact hB4
          obtain ⟨v2, h3, l1, l2, l3, l4⟩ := run29 h46 h29 (m + 249) 30 (by decide) [] (fun e => decide (20 < e.g)) q4.hv q4.s.hs h' hS4.rh ⟨by omega, by omega⟩ (fun n H hK x hx => run30 h30 n x H)
          obtain ⟨u1, u2⟩ := l2.cells
          obtain ⟨t0, t1, t2⟩ := hL4.setH hq4a l2 l3.1 (fun c hc ho => l3.2 c hc ho) (fun b o l k z x e => .inr (l4 _ _ _ _ _ _ e))
          have w6 := store_1 (T := T) T62 s62 u1 u2 t0 (show 7 < 8 by decide)
          obtain ⟨h5, e5⟩ : ∃ h5, h5 = h3.put q4.a (.cells [q4.s.rv, .int .i64 q4.s.st, .int .i64 q4.s.k, .int .i64 q4.s.se, .int .i64 q4.s.n, .int .i64 q4.s.d, q4.av, v2] .own) := ⟨_, rfl⟩
          replace w6 : aStore T 62 (.ptr q.a 7) v2 h3 = some h5 := by rw [← hq4b, e5]; exact w6
          rw [← e5] at t1 t2
          simp +contextual (maxSteps := 3000000) only [↓code_seq, ↓code_region, ↓code_cond, ↓code_exit, aCond_bool, ↓ops_nil, ↓ops_cons, run_none, ↓run0_v, ↓seqK_normal, ↓seqK_exit, put_same, ev_tmp, o_bin, g_none, bin_lss, decide_eq_true_eq, ↓reduceIte, e25, e26, d1]
          refine hexit _ _ _ (by simp) ?_
          simp +contextual (maxSteps := 3000000) only [↓code_region, ↓ops_nil, ↓ops_cons, run_none, ↓run0_v, ↓run0_h, ↓run0_r, ↓seqK_normal, ↓blkK_normal, ↓blkK_exit, put_same, put_ne, put_none, ev_tmp, ev_const, ev_func, oc_int, o_move, o_bin, o_call, o_load, o_store, o_nilCheck, o_fieldAddr, g_none, bin_add, nil_ptr, ↓reduceIte, Nat.reduceEqDiff, not_false_eq_true, Nat.reduceAdd, List.getElem?_cons_zero, List.getElem?_cons_succ, List.map_cons, List.map_nil, List.append_nil, List.nil_append, ne_eq, loadc_def, fa_ptr T64 p64_6 (by decide), load_p1 T62 a62, run0_h, e4, e17, gq4, l1, w6, run0_h, r7, callV_fn (g := 29) (by decide)]
          refine hnext0 (k0 - 1) _ _ (by omega) ⟨u + 1, _, _, by omega, t1, ?_, hst4.trans t2, by omega, ?_, ?_, ?_, ?_⟩
          · rw [map_set_s, hMs4, List.set_set, uptoG_step ageF S2 hs, hq4s]
            rfl
          all_goals simp +contextual (maxSteps := 3000000) only [put_same, put_ne, Nat.reduceEqDiff, not_false_eq_true, reduceCtorEq, ne_eq, e0, e15, e16]
      · refine ⟨0, M3, q, by omega, ?_, ?_, ?_, ?_, ?_, ?_, ?_, ?_, ?_, ?_, ?_, ?_⟩
        · exact hL3
        · exact (by rw [uptoG_zero, hMs3]; exact (set_same (uptoG_get ageF S2 hs)).symm)
        · exact ⟨hq, rfl, rfl, rfl⟩
        · exact hst3
        · omega
        · simp only [put_ne, not_false_eq_true, reduceCtorEq, ne_eq, e0]
        · simp only [put_same, put_ne, Nat.reduceEqDiff, not_false_eq_true, ne_eq]
        · simp only [put_ne, Nat.reduceEqDiff, not_false_eq_true, ne_eq, e15]
        · simp only [put_ne, Nat.reduceEqDiff, not_false_eq_true, ne_eq, e16]
        · simp only [put_ne, Nat.reduceEqDiff, not_false_eq_true, ne_eq, e17]
        · simp only [put_same, put_ne, Nat.reduceEqDiff, not_false_eq_true, ne_eq]
        · simp only [put_same]; rfl
    · have r1 : ¬ (u : Int) < (M'.length : Int) := by omega
      have hun : u = S2.length := by omega
      rw [hun, uptoG_all] at hMs3
      simp +contextual (maxSteps := 3000000) only [↓code_seq, ↓code_region, ↓code_cond, ↓code_exit, aCond_bool, ↓ops_nil, ↓ops_cons, run_none, ↓run0_v, ↓seqK_normal, ↓seqK_exit, put_same, ev_tmp, o_bin, g_none, bin_lss, decide_eq_true_eq, ↓reduceIte, e16, e17, r1]
      refine hexit _ _ _ (by simp) ?_
      simp +contextual (maxSteps := 3000000) only [↓code_seq, ↓code_region, ↓code_ret, ↓ops_nil, ↓ops_cons, run_none, ↓run0_v, ↓seqK_normal, ↓blkK_exit, ↓retK_ret, put_same, ev_const, oc_int, o_assign, g_none, resultsOf, oneOrAll, Option.map_some, ↓reduceIte]
      rw [hQf]
      exact ⟨h', _, rfl, ⟨own3, sv', M3, hL3, hMs3.symm, rfl⟩, hst3⟩
  · refine ⟨0, own', M', by omega, ?_, ?_, ?_, ?_, ?_, ?_, ?_, ?_⟩
    · exact hM'
    · exact (by rw [uptoG_zero, hSM'])
    · exact hst2
    · omega
    · simp only [put_ne, env0_at, Option.getD_some, not_false_eq_true, reduceCtorEq, List.getElem?_cons_zero, ne_eq]
    · simp only [put_same, put_ne, Nat.reduceEqDiff, not_false_eq_true, ne_eq]
    · simp only [put_same, put_ne, Nat.reduceEqDiff, not_false_eq_true, ne_eq]
    · simp only [put_same]; rfl
end Go.AM.X
