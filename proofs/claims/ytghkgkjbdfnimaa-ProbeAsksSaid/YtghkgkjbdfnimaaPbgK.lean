/- ProbeOwn: the law, walked. Own work. -/
import Derived.Test.YtghkgkjbdfnimaaPbgJ
namespace Go.AM.X
open Go Go.AM Go.Proofs Go.AM.Sx
set_option maxHeartbeats 12800000
set_option maxRecDepth 100000
set_option linter.unusedVariables false
def OkS (i : Nat) (s : Sn) : Prop := Nm s ∧ s.hs.length ≤ 1212000 * i ∧ s.qs.length ≤ i
/-- What holds behind i acts. -/
structure Own (S : List Sn) (i na : Nat) : Prop where
  al : Alone S
  ok : ∀ s ∈ S, OkS i s
  ln : S.length ≤ na
theorem OkS.mono {i : Nat} {s : Sn} (h : OkS i s) : OkS (i + 1) s := ⟨h.1, by have := h.2.1; omega, by have := h.2.2; omega⟩
theorem Own.stay {S : List Sn} {i na : Nat} (h : Own S i na) : Own S (i + 1) na := ⟨h.al, fun s hs => (h.ok s hs).mono, h.ln⟩
theorem mem_upd {S : List Sn} {j : Nat} {f : Sn → Sn} {t : Sn} (ht : t ∈ updI S j f) : t ∈ S ∨ ∃ s ∈ S, t = f s := by
  unfold updI at ht
  split at ht
  · rename_i s hs
    rcases List.mem_or_eq_of_mem_set ht with g | g
    · exact .inl g
    · exact .inr ⟨s, List.mem_of_getElem? hs, g⟩
  · exact .inl ht
theorem Own.upd {S : List Sn} {i na : Nat} (h : Own S i na) (j : Nat) {f : Sn → Sn} (hf : ∀ s, (f s).st = 2 → s.st = 2 ∧ s.n = (f s).n ∧ s.d = (f s).d) (hN : ∀ s, Nm s → Nm (f s)) (hh : ∀ s, (f s).hs.length ≤ s.hs.length) (hq : ∀ s, (f s).qs.length ≤ s.qs.length + 1) : Own (updI S j f) (i + 1) na :=
  ⟨h.al.upd j hf, fun t ht => by
    rcases mem_upd ht with g | ⟨s, hs, rfl⟩
    · exact (h.ok t g).mono
    · have := h.ok s hs
      exact ⟨hN s this.1, by have := this.2.1; have := hh s; omega, by have := this.2.2; have := hq s; omega⟩, by rw [updI_len]; exact h.ln⟩
theorem Own.add {S : List Sn} {i na : Nat} (h : Own S i na) (v : AV) (row : List Int) : Own (S ++ [newS v row]) (i + 1) (na + 1) :=
  ⟨h.al.add v row, fun t ht => by
    rcases List.mem_append.1 ht with g | g
    · exact (h.ok t g).mono
    · rw [List.mem_singleton.1 g]
      exact ⟨by unfold Nm newS; simp, Nat.zero_le _, Nat.zero_le _⟩, by rw [List.length_append]; have := h.ln; simp; omega⟩
theorem Own.step {S : List Sn} {i na : Nat} {lo hi : Int} (h : Own S i na) (hi' : i ≤ 120) (hl : S.length ≤ 100) : Own (stepS lo hi S) (i + 1) na := by
  refine ⟨h.al.step, fun t ht => ?_, by rw [stepS_len]; exact h.ln⟩
  have h1 := stepS_hs (B := 1212000 * i) (C := 120) (fun s hs => (h.ok s hs).2.1) (fun s hs => by have := (h.ok s hs).2.2; omega) hl t ht
  have h2 := stepS_hs (B := 1212000 * i) (C := i) (fun s hs => (h.ok s hs).2.1) (fun s hs => (h.ok s hs).2.2) hl t ht
  exact ⟨Nm.step (fun s hs => (h.ok s hs).1) t ht, by omega, by omega⟩
theorem probeF_ok (s : Sn) : ((probeF s).st = 2 → s.st = 2 ∧ s.n = (probeF s).n ∧ s.d = (probeF s).d) ∧ (Nm s → Nm (probeF s)) ∧ (probeF s).hs.length ≤ s.hs.length ∧ (probeF s).qs.length ≤ s.qs.length + 1 := by
  unfold probeF
  split
  · exact ⟨fun h => ⟨h, rfl, rfl⟩, id, Nat.le_refl _, Nat.le_succ _⟩
  · exact ⟨fun h => absurd h (show ¬ (1 : Int) = 2 by decide), fun _ => by unfold Nm leaveS; simp, Nat.zero_le _, Nat.zero_le _⟩
theorem leaveS_ok (s : Sn) : ((leaveS s).st = 2 → s.st = 2 ∧ s.n = (leaveS s).n ∧ s.d = (leaveS s).d) ∧ (Nm s → Nm (leaveS s)) ∧ (leaveS s).hs.length ≤ s.hs.length ∧ (leaveS s).qs.length ≤ s.qs.length + 1 :=
  ⟨fun h => absurd h (show ¬ (0 : Int) = 2 by decide), fun _ => by unfold Nm leaveS; simp, Nat.zero_le _, Nat.zero_le _⟩
theorem askF_ok (n d : Int) (s : Sn) : ((askF n d s).st = 2 → s.st = 2 ∧ s.n = (askF n d s).n ∧ s.d = (askF n d s).d) ∧ (Nm s → Nm (askF n d s)) ∧ (askF n d s).hs.length ≤ s.hs.length ∧ (askF n d s).qs.length ≤ s.qs.length + 1 := by
  unfold askF
  split
  · exact ⟨fun h => ⟨h, rfl, rfl⟩, id, Nat.le_refl _, by simp⟩
  · exact ⟨fun h => ⟨h, rfl, rfl⟩, id, Nat.le_refl _, Nat.le_succ _⟩
theorem store_act (h : AH) (a : Ac) : ∃ h2, aStore T 42 (.ptr h.next 0) (.agg [.int .i64 a.dd, .int .i64 a.sn, .int .i64 a.n, .int .i64 a.d, rowV a.row]) (h.alloc (.cells [.int .i64 0, .int .i64 0, .int .i64 0, .int .i64 0, .nils] .own)) = some h2 ∧ h2.next = h.next + 1 ∧ h2.get h.next = some (.cells [.int .i64 a.dd, .int .i64 a.sn, .int .i64 a.n, .int .i64 a.d, rowV a.row] .own) ∧ Grow h h2 := by
  have h1 := store_n (T := T) (t := 42) (b := h.next) (o := 0) (v := .agg a.av) (vs := a.av) (h := h.alloc (.cells [.int .i64 0, .int .i64 0, .int .i64 0, .int .i64 0, .nils] .own)) (cs := [.int .i64 0, .int .i64 0, .int .i64 0, .int .i64 0, .nils]) T42 rfl (by rw [s42]; rfl) rfl (by rw [AH.get_alloc, if_pos rfl]) (by simp [Ac.len])
  refine ⟨_, h1, by simp, by rw [AH.get_put, if_pos rfl]; rfl, by simp, fun c hc => ?_⟩
  rw [AH.get_put, if_neg (by omega), AH.get_alloc, if_neg (by omega)]
theorem law4 (m : Nat) (lo hi : Int) (lost : List Int) (l : List Ac) (hl : l.length ≤ 1000000000000000) (hm : 160000000 ≤ m ∧ m ≤ 800000000) :
    ∃ h', call F Ip T (m + 303) 4 [.agg [.int .i64 lo, .int .i64 hi, rowV lost], .lst false 5 l.length (fl Ac.av l)] e0 = some (.bool true, h') := by
  have h4 : Ip 4 = none := rfl
  have hlen : ∀ h, aLen T 39 (.lst false 5 l.length (fl Ac.av l)) h = some (.int .i64 (l.length : Nat)) := fun h => by simp [aLen, T39, d39]
  have ia := fun i a (ha : l[i]? = some a) => loadAc ha
  have r13 := fun M h => run13 (I := Ip) rfl M lo hi lost l h hl
  obtain ⟨VL, hVL⟩ : ∃ VL, VL = AV.lst false 5 l.length (fl Ac.av l) := ⟨_, rfl⟩
  rw [← hVL] at hlen ia r13 ⊢
  obtain ⟨VW, hVW⟩ : ∃ VW, VW = rowV lost := ⟨_, rfl⟩
  rw [← hVW] at r13 ⊢
  have hcV : VW.cells = some [VW] ∧ VW.one = true := by rw [hVW]; exact ⟨rfl, rfl⟩
  have k7 := fun h => K7 (m + 301) h
  by_cases hok : okL lo hi
  rotate_left
  · have k6 := run6no (m + 240) lo hi (e0.alloc (.cells [.int .i64 lo, .int .i64 hi, VW] .own)) hok
    rw [call_F (by decide) h4 F4 rfl R4]; simp only [Try.f4, Option.getD]
    simp +contextual (maxSteps := 3000000) only [↓code_skip, ↓code_seq, ↓code_region, ↓code_cond, ↓code_ret, aCond_bool, ↓ops_nil, ↓ops_cons, run_none, run_someF, ↓run0_v, ↓run0_r, ↓seqK_normal, ↓seqK_ret, ↓retK_ret, put_same, put_ne, env0_at, ev_tmp, ev_const, ev_func, oc_int, oc_bool, oc_nils, oc_nilp, o_move, o_assign, o_pick, o_bin, o_call, o_box, o_load, o_un, o_fieldAddr, o_extract, g_none, g_some, pick_bool, bin_neq, extract_tup, next_e0, resultsOf, oneOrAll, Option.bind_some, Option.map_some, Option.getD_some, ↓reduceIte, Nat.reduceEqDiff, not_false_eq_true, Nat.reduceAdd, List.getElem?_cons_zero, List.getElem?_cons_succ, List.getElem?_toArray, List.map_cons, List.map_nil, List.append_nil, List.nil_append, AH.get_alloc, Nat.le_refl, Bool.not_eq_eq_eq_not, Bool.not_true, Bool.not_false, ne_eq, decide_eq_false_iff_not, box_agg, fa_ptr T24 p24_0 (by decide), load_p1 T3 a3, loadc_def, fa_ptr T24 p24_1 (by decide), load_pA T24 a24, s24, loadn_def, nn_eql T25 d25, callV_fn (g := 13) (by decide), List.length_cons, List.length_nil, List.drop_zero, List.take_succ_cons, List.take_nil, Nat.zero_add, Nat.add_zero, k6, k7, decide_false, callV_fn (g := 6) (by decide), callV_fn (g := 7) (by decide)]
    exact ⟨_, rfl⟩
  obtain ⟨H, p, off0, k6, hL0, gB, oB, nB⟩ := run6ok (m + 240) lo hi VW hok
  obtain ⟨b, H1, k13, gr, hb⟩ := r13 (m + 172) H
  have hlb : 1 ≤ lo ∧ lo ≤ hi ∧ hi ≤ 65279 := hok
  have hl0 : ¬ lo = 0 := by omega
  cases b with
  | false =>
    rw [call_F (by decide) h4 F4 rfl R4]; simp only [Try.f4, Option.getD]
    simp +contextual (maxSteps := 3000000) only [↓code_seq, ↓code_region, ↓code_cond, ↓code_ret, aCond_bool, ↓ops_nil, ↓ops_cons, run_none, run_someF, ↓run0_v, ↓run0_r, ↓seqK_normal, ↓seqK_ret, ↓retK_ret, put_same, put_ne, env0_at, ev_tmp, ev_const, ev_func, oc_int, oc_bool, oc_nils, o_move, o_assign, o_pick, o_bin, o_call, o_box, o_load, o_un, o_fieldAddr, o_extract, g_none, g_some, pick_bool, bin_neq, un_not, extract_tup, next_e0, resultsOf, oneOrAll, Option.bind_some, Option.map_some, Option.getD_some, ↓reduceIte, Nat.reduceEqDiff, not_false_eq_true, Nat.reduceAdd, List.getElem?_cons_zero, List.getElem?_cons_succ, List.getElem?_toArray, Bool.false_eq_true, List.map_cons, List.map_nil, List.append_nil, List.nil_append, AH.get_alloc, Nat.le_refl, Bool.not_true, Bool.not_false, ne_eq, box_agg, fa_ptr T24 p24_0 (by decide), load_p1 T3 a3, loadc_def, fa_ptr T24 p24_1 (by decide), load_pA T24 a24, s24, loadn_def, List.length_cons, List.length_nil, List.drop_zero, List.take_succ_cons, List.take_nil, Nat.zero_add, Nat.add_zero, k6, gB, k13, k7, decide_true, callV_fn (g := 6) (by decide), callV_fn (g := 7) (by decide), callV_fn (g := 13) (by decide)]
    exact ⟨_, rfl⟩
  | true =>
    obtain ⟨hl1, hl2, hl3⟩ := hb rfl
    rw [call_F (by decide) h4 F4 rfl R4]; simp only [Try.f4, Option.getD]
    simp +contextual (maxSteps := 3000000) only [↓code_skip, ↓code_seq, ↓code_region, ↓code_cond, ↓code_block, ↓code_loop, aCond_bool, ↓ops_nil, ↓ops_cons, run_none, run_someF, ↓run0_v, ↓run0_r, ↓seqK_normal, put_same, put_ne, env0_at, ev_tmp, ev_const, ev_func, oc_int, oc_bool, oc_nils, oc_nilp, o_move, o_assign, o_pick, o_bin, o_call, o_box, o_load, o_un, o_fieldAddr, o_extract, g_none, g_some, pick_bool, bin_neq, un_not, extract_tup, next_e0, Option.bind_some, Option.map_some, Option.getD_some, ↓reduceIte, Nat.reduceEqDiff, not_false_eq_true, Nat.reduceAdd, List.getElem?_cons_zero, List.getElem?_cons_succ, List.getElem?_toArray, Bool.false_eq_true, List.map_cons, List.map_nil, List.append_nil, List.nil_append, AH.get_alloc, Nat.le_refl, Bool.not_true, ne_eq, box_agg, fa_ptr T24 p24_0 (by decide), load_p1 T3 a3, loadc_def, fa_ptr T24 p24_1 (by decide), load_pA T24 a24, s24, loadn_def, pn_eql T25 d25, List.length_cons, List.length_nil, List.drop_zero, List.take_succ_cons, List.take_nil, Nat.zero_add, Nat.add_zero, k6, gB, k13, decide_true, callV_fn (g := 6) (by decide), callV_fn (g := 13) (by decide)]
    refine iterL_wp (Q := fun r => ∃ h', r = some (.bool true, h')) (N := l.length) (Inv := fun k e h' => ∃ i S off, k + i = l.length ∧ Lk h' p lo hi S off ∧ Own S i (nAdds (l.take i)) ∧ i ≤ l.length ∧ e 1 = VL ∧ e 5 = .ptr p 0 ∧ e 7 = .int .i64 (i : Nat)) ?_ ?_ (show l.length < m + 302 by omega)
    · rintro k e h' K' ⟨i, S, off, hk, hL, hO, hil, e1, e5, e7⟩ hnext hexit
      by_cases hi' : i < l.length
      · have d1 : (i : Int) < (l.length : Int) := by omega
        have d7 : IntKind.i64.wrap ((i : Int) + 1) = ((i + 1 : Nat) : Int) := by rw [wrap_i64 (by omega) (by omega)]; rfl
        obtain ⟨a, ha⟩ : ∃ a, l[i]? = some a := ⟨l[i], List.getElem?_eq_getElem hi'⟩
        obtain ⟨pl, w1, w2, w3, _⟩ := ia i a ha
        have htk : l.take (i + 1) = l.take i ++ [a] := by rw [List.take_add_one, ha]; rfl
        obtain ⟨hA, y1, y2, y3, y4⟩ := store_act h' a
        have hLA := hL.grow y4
        have hrow := hl3 a (List.mem_of_getElem? ha)
        have hnal : nAdds (l.take i) ≤ 12 := by
          refine Nat.le_trans ?_ hl2
          unfold nAdds
          exact ((List.take_sublist i l).filter _).length_le
        have hSl : S.length ≤ 12 := Nat.le_trans hO.ln hnal
        have nz : ¬ (0 : Int) < 0 := by decide
        have fin : ∀ {h2 S2 off2}, Lk h2 p lo hi S2 off2 → Alone S2 → S2.length ≤ 200 → call F Ip T (m + 302) 16 [.ptr p 0] h2 = some (.nils, h2) := fun h1 h2 h3 => V16 (I := Ip) rfl rfl m p lo hi _ _ _ h1 hl0 h3 h2
        by_cases c0 : a.dd = 0
        · have hna : nAdds (l.take (i + 1)) = nAdds (l.take i) + 1 := by rw [htk]; unfold nAdds; rw [List.filter_append, List.filter_cons_of_pos (by simpa using c0)]; simp
          obtain ⟨h2, off2, k1, k2, k3⟩ := V8 (I := Ip) rfl rfl rfl (m + 297) p lo hi S (rowV a.row) a.row off hA hLA hl0 (.inr rfl) (by omega) (by omega)
          have hO2 := hO.add (rowV a.row) a.row
          have k4 := fin k2 hO2.al (by have := hO2.ln; omega)
          simp +contextual (maxSteps := 3000000) only [↓code_skip, ↓code_seq, ↓code_region, ↓code_cond, ↓code_block, aCond_bool, ↓ops_nil, ↓ops_cons, run_none, ↓run0_v, ↓run0_h, ↓run0_r, ↓seqK_normal, ↓blkK_normal, put_same, put_ne, put_none, ev_tmp, ev_const, ev_func, oc_int, o_move, o_assign, o_bin, o_call, o_len, o_alloc, o_load, o_store, o_fieldAddr, o_indexAddr, g_none, bin_add, bin_eql, bin_lss, bin_gtr, ↓reduceIte, Nat.reduceEqDiff, not_false_eq_true, List.getElem?_cons_zero, List.getElem?_cons_succ, Bool.false_eq_true, List.map_cons, List.map_nil, List.append_nil, List.nil_append, gt_iff_lt, ne_eq, load_p1 T3 a3, loadc_def, load_fpA T42 a42, s42, alloc_t T42, z42, fa_ptr T42 p42_0 (by decide), fa_ptr T42 p42_3 (by decide), load_p1 T22 a22, len_nils T44 d44, Nat.zero_add, Nat.add_zero, e1, e5, e7, d1, hlen, w1, w2, w3, y1, y3, eq_true c0, k1, k4, nz, d7, decide_true, decide_false, callV_fn (g := 8) (by decide), callV_fn (g := 16) (by decide)]
          refine hnext (k - 1) _ _ (by omega) ⟨i + 1, S ++ [newS (rowV a.row) a.row], off2, by omega, ?_, ?_, ?_, ?_, ?_, ?_⟩
          · exact k2
          · (rw [hna]; exact hO2)
          · omega
          · simp only [put_ne, Nat.reduceEqDiff, not_false_eq_true, ne_eq, e1]
          · simp only [put_ne, Nat.reduceEqDiff, not_false_eq_true, ne_eq, e5]
          · simp only [put_same]
        have hna : nAdds (l.take (i + 1)) = nAdds (l.take i) := by rw [htk]; unfold nAdds; rw [List.filter_append, List.filter_cons_of_neg (by simpa using c0)]; simp
        by_cases c1 : a.dd = 1
        · obtain ⟨h2, off2, k1, k2, k3⟩ := V9 (I := Ip) rfl rfl rfl rfl (m + 297) p a.sn lo hi S off hA hLA hl0
          obtain ⟨S2, hS2⟩ : ∃ S2, S2 = (if bad S.length a.sn = 0 then updI S a.sn.toNat probeF else S) := ⟨_, rfl⟩
          rw [← hS2] at k2
          have hO2 : Own S2 (i + 1) (nAdds (l.take i)) := by
            rw [hS2]
            split
            · exact hO.upd _ (fun s => (probeF_ok s).1) (fun s => (probeF_ok s).2.1) (fun s => (probeF_ok s).2.2.1) (fun s => (probeF_ok s).2.2.2)
            · exact hO.stay
          have k4 := fin k2 hO2.al (by have := hO2.ln; omega)
          simp +contextual (maxSteps := 3000000) only [↓code_skip, ↓code_seq, ↓code_region, ↓code_cond, ↓code_block, aCond_bool, ↓ops_nil, ↓ops_cons, run_none, ↓run0_v, ↓run0_h, ↓run0_r, ↓seqK_normal, ↓blkK_normal, put_same, put_ne, put_none, ev_tmp, ev_const, ev_func, oc_int, o_move, o_assign, o_bin, o_call, o_len, o_alloc, o_load, o_store, o_fieldAddr, o_indexAddr, g_none, bin_add, bin_eql, bin_lss, bin_gtr, ↓reduceIte, Nat.reduceEqDiff, not_false_eq_true, List.getElem?_cons_zero, List.getElem?_cons_succ, Bool.false_eq_true, List.map_cons, List.map_nil, List.append_nil, List.nil_append, gt_iff_lt, ne_eq, load_p1 T3 a3, loadc_def, load_fpA T42 a42, s42, alloc_t T42, z42, fa_ptr T42 p42_0 (by decide), fa_ptr T42 p42_1 (by decide), len_nils T44 d44, Nat.zero_add, Nat.add_zero, e1, e5, e7, d1, hlen, w1, w2, w3, y1, y3, c0, eq_true c1, k1, k4, nz, d7, decide_true, decide_false, callV_fn (g := 9) (by decide), callV_fn (g := 16) (by decide)]
          refine hnext (k - 1) _ _ (by omega) ⟨i + 1, S2, off2, by omega, ?_, ?_, ?_, ?_, ?_, ?_⟩
          · exact k2
          · (rw [hna]; exact hO2)
          · omega
          · simp only [put_ne, Nat.reduceEqDiff, not_false_eq_true, ne_eq, e1]
          · simp only [put_ne, Nat.reduceEqDiff, not_false_eq_true, ne_eq, e5]
          · simp only [put_same]
        by_cases c2 : a.dd = 2
        · obtain ⟨h2, off2, k1, k2, k3⟩ := V14 (I := Ip) rfl rfl rfl rfl (m + 297) p a.sn lo hi S off hA hLA hl0
          obtain ⟨S2, hS2⟩ : ∃ S2, S2 = (if bad S.length a.sn = 0 then updI S a.sn.toNat leaveS else S) := ⟨_, rfl⟩
          rw [← hS2] at k2
          have hO2 : Own S2 (i + 1) (nAdds (l.take i)) := by
            rw [hS2]
            split
            · exact hO.upd _ (fun s => (leaveS_ok s).1) (fun s => (leaveS_ok s).2.1) (fun s => (leaveS_ok s).2.2.1) (fun s => (leaveS_ok s).2.2.2)
            · exact hO.stay
          have k4 := fin k2 hO2.al (by have := hO2.ln; omega)
          simp +contextual (maxSteps := 3000000) only [↓code_skip, ↓code_seq, ↓code_region, ↓code_cond, ↓code_block, aCond_bool, ↓ops_nil, ↓ops_cons, run_none, ↓run0_v, ↓run0_h, ↓run0_r, ↓seqK_normal, ↓blkK_normal, put_same, put_ne, put_none, ev_tmp, ev_const, ev_func, oc_int, o_move, o_assign, o_bin, o_call, o_len, o_alloc, o_load, o_store, o_fieldAddr, o_indexAddr, g_none, bin_add, bin_eql, bin_lss, bin_gtr, ↓reduceIte, Nat.reduceEqDiff, not_false_eq_true, List.getElem?_cons_zero, List.getElem?_cons_succ, Bool.false_eq_true, List.map_cons, List.map_nil, List.append_nil, List.nil_append, gt_iff_lt, ne_eq, load_p1 T3 a3, loadc_def, load_fpA T42 a42, s42, alloc_t T42, z42, fa_ptr T42 p42_0 (by decide), fa_ptr T42 p42_1 (by decide), len_nils T44 d44, Nat.zero_add, Nat.add_zero, e1, e5, e7, d1, hlen, w1, w2, w3, y1, y3, c0, c1, eq_true c2, k1, k4, nz, d7, decide_true, decide_false, callV_fn (g := 14) (by decide), callV_fn (g := 16) (by decide)]
          refine hnext (k - 1) _ _ (by omega) ⟨i + 1, S2, off2, by omega, ?_, ?_, ?_, ?_, ?_, ?_⟩
          · exact k2
          · (rw [hna]; exact hO2)
          · omega
          · simp only [put_ne, Nat.reduceEqDiff, not_false_eq_true, ne_eq, e1]
          · simp only [put_ne, Nat.reduceEqDiff, not_false_eq_true, ne_eq, e5]
          · simp only [put_same]
        by_cases c3 : a.dd = 3
        · obtain ⟨cc, h2, S2, off2, k1, k2, hO2⟩ : ∃ (cc : Int) (h2 : AH) (S2 : List Sn) (off2 : Nat → Prop), call F Ip T (m + 302) 15 [.ptr p 0, .int .i64 a.sn, .agg [.int .i64 a.n, .int .i64 a.d]] hA = some (.int .i64 cc, h2) ∧ Lk h2 p lo hi S2 off2 ∧ Own S2 (i + 1) (nAdds (l.take i)) := by
            by_cases cb : bad S.length a.sn = 0
            · have hbb : 0 ≤ a.sn ∧ a.sn < (S.length : Int) := by unfold bad at cb; split at cb <;> omega
              obtain ⟨j, hj⟩ : ∃ j : Nat, a.sn = (j : Int) := ⟨a.sn.toNat, by omega⟩
              obtain ⟨s, hs⟩ : ∃ s, S[j]? = some s := ⟨S[j]'(by omega), List.getElem?_eq_getElem (by omega)⟩
              have hso := hO.ok s (List.mem_of_getElem? hs)
              obtain ⟨h2, off2, q1, q2, q3⟩ := V15 (I := Ip) rfl rfl rfl rfl rfl rfl rfl rfl rfl rfl (m + 202) p j lo hi a.n a.d S s off hA hLA hl0 hs ⟨⟨by have := hso.2.1; omega, by have := hso.2.1; omega⟩, by have := hso.2.2; omega, by have := hso.2.2; omega⟩
              rw [hj]
              refine ⟨_, h2, _, off2, q1, q2, ?_⟩
              split
              · rw [← updI_at hs (askF a.n a.d)]
                exact hO.upd _ (fun s => (askF_ok _ _ s).1) (fun s => (askF_ok _ _ s).2.1) (fun s => (askF_ok _ _ s).2.2.1) (fun s => (askF_ok _ _ s).2.2.2)
              · exact hO.stay
            · obtain ⟨h2, off2, q1, q2, q3⟩ := V15no (I := Ip) rfl rfl rfl rfl rfl rfl rfl rfl (m + 202) p a.sn lo hi a.n a.d S off hA hLA hl0 cb
              exact ⟨_, h2, S, off2, q1, q2, hO.stay⟩
          have k4 := fin k2 hO2.al (by have := hO2.ln; omega)
          simp +contextual (maxSteps := 3000000) only [↓code_skip, ↓code_seq, ↓code_region, ↓code_cond, ↓code_block, aCond_bool, ↓ops_nil, ↓ops_cons, run_none, ↓run0_v, ↓run0_h, ↓run0_r, ↓seqK_normal, ↓blkK_normal, put_same, put_ne, put_none, ev_tmp, ev_const, ev_func, oc_int, o_move, o_assign, o_bin, o_call, o_len, o_alloc, o_load, o_store, o_fieldAddr, o_indexAddr, g_none, bin_add, bin_eql, bin_lss, bin_gtr, Option.map_some, ↓reduceIte, Nat.reduceEqDiff, not_false_eq_true, Nat.reduceAdd, List.getElem?_cons_zero, List.getElem?_cons_succ, Bool.false_eq_true, List.map_cons, List.map_nil, List.append_nil, List.nil_append, Nat.reduceLeDiff, gt_iff_lt, ne_eq, load_p1 T3 a3, loadc_def, loadn_def, load_fpA T42 a42, s42, alloc_t T42, z42, fa_ptr T42 p42_0 (by decide), fa_ptr T42 p42_1 (by decide), fa_ptr T42 p42_2 (by decide), load_pA T35 a35, s35, len_nils T44 d44, List.drop_succ_cons, List.length_cons, List.length_nil, List.drop_zero, List.take_succ_cons, List.take_zero, Nat.zero_add, Nat.add_zero, e1, e5, e7, d1, hlen, w1, w2, w3, y1, y3, c0, c1, c2, eq_true c3, k1, k4, nz, d7, decide_true, decide_false, callV_fn (g := 15) (by decide), callV_fn (g := 16) (by decide)]
          refine hnext (k - 1) _ _ (by omega) ⟨i + 1, S2, off2, by omega, ?_, ?_, ?_, ?_, ?_, ?_⟩
          · exact k2
          · (rw [hna]; exact hO2)
          · omega
          · simp only [put_ne, Nat.reduceEqDiff, not_false_eq_true, ne_eq, e1]
          · simp only [put_ne, Nat.reduceEqDiff, not_false_eq_true, ne_eq, e5]
          · simp only [put_same]
        obtain ⟨h2, off2, k1, k2, k3⟩ := V11 (I := Ip) rfl rfl rfl rfl rfl rfl rfl rfl rfl rfl rfl rfl rfl rfl rfl rfl rfl rfl rfl rfl rfl rfl (m + 1) p lo hi S off hA (1212000 * i) 120 hLA hlb (by omega) (fun s hs => (hO.ok s hs).1) (fun s hs => (hO.ok s hs).2.1) (fun s hs => by have := (hO.ok s hs).2.2; omega) ⟨by omega, by omega⟩
        have hO2 := hO.step (lo := lo) (hi := hi) (by omega) (by omega)
        have k4 := fin k2 hO2.al (by have := hO2.ln; omega)
        simp +contextual (maxSteps := 3000000) only [↓code_skip, ↓code_seq, ↓code_region, ↓code_cond, ↓code_block, aCond_bool, ↓ops_nil, ↓ops_cons, run_none, ↓run0_v, ↓run0_h, ↓run0_r, ↓seqK_normal, ↓blkK_normal, put_same, put_ne, put_none, ev_tmp, ev_const, ev_func, oc_int, o_move, o_assign, o_bin, o_call, o_len, o_alloc, o_load, o_store, o_fieldAddr, o_indexAddr, g_none, bin_add, bin_eql, bin_lss, bin_gtr, ↓reduceIte, Nat.reduceEqDiff, not_false_eq_true, List.getElem?_cons_zero, Bool.false_eq_true, List.map_cons, List.map_nil, List.append_nil, List.nil_append, gt_iff_lt, ne_eq, load_p1 T3 a3, loadc_def, load_fpA T42 a42, s42, alloc_t T42, z42, fa_ptr T42 p42_0 (by decide), len_nils T44 d44, Nat.add_zero, e1, e5, e7, d1, hlen, w1, w2, w3, y1, y3, c0, c1, c2, c3, k1, k4, nz, d7, decide_true, decide_false, callV_fn (g := 11) (by decide), callV_fn (g := 16) (by decide)]
        refine hnext (k - 1) _ _ (by omega) ⟨i + 1, stepS lo hi S, off2, by omega, ?_, ?_, ?_, ?_, ?_, ?_⟩
        · exact k2
        · (rw [hna]; exact hO2)
        · omega
        · simp only [put_ne, Nat.reduceEqDiff, not_false_eq_true, ne_eq, e1]
        · simp only [put_ne, Nat.reduceEqDiff, not_false_eq_true, ne_eq, e5]
        · simp only [put_same]
      · have d1 : ¬ (i : Int) < (l.length : Int) := by omega
        simp +contextual (maxSteps := 3000000) only [↓code_seq, ↓code_region, ↓code_cond, ↓code_exit, aCond_bool, ↓ops_nil, ↓ops_cons, run_none, ↓run0_v, ↓seqK_normal, ↓seqK_exit, put_same, put_ne, ev_tmp, o_move, o_bin, o_len, g_none, bin_lss, decide_eq_true_eq, ↓reduceIte, Nat.reduceEqDiff, not_false_eq_true, ne_eq, e1, e7, d1, hlen]
        refine hexit _ _ _ (by simp) ?_
        simp +contextual (maxSteps := 3000000) only [↓code_seq, ↓code_region, ↓code_ret, ↓ops_nil, ↓ops_cons, run_none, ↓run0_v, ↓run0_r, ↓seqK_normal, ↓blkK_exit, ↓retK_ret, put_same, ev_tmp, ev_func, o_assign, o_call, g_none, resultsOf, oneOrAll, Option.map_some, ↓reduceIte, List.map_nil, List.append_nil, k7, callV_fn (g := 7) (by decide)]
        exact ⟨_, rfl⟩
    · refine ⟨0, [], off0, by omega, ?_, ?_, ?_, ?_, ?_, ?_⟩
      · exact hL0.grow gr
      · exact ⟨fun _ _ _ _ _ h => (by simp at h), fun s hs => (by cases hs), Nat.zero_le _⟩
      · omega
      · simp only [put_ne, env0_at, Option.getD_some, Nat.reduceEqDiff, not_false_eq_true, List.getElem?_cons_zero, List.getElem?_cons_succ, ne_eq]
      · simp only [put_same, put_ne, Nat.reduceEqDiff, not_false_eq_true, ne_eq]
      · simp only [put_same]; rfl
theorem lawOwn (lo hi : Int) (lost : List Int) (l : List Ac) (hl : l.length ≤ 1000000000000000) :
    ∃ h', call F Ip T 200000303 4 [.agg [.int .i64 lo, .int .i64 hi, rowV lost], .lst false 5 l.length (fl Ac.av l)] e0 = some (.bool true, h') := law4 200000000 lo hi lost l hl ⟨by decide, by decide⟩
end Go.AM.X
namespace Go.AM.X
open Go Go.AM Go.Proofs Go.AM.Sx
set_option maxHeartbeats 12800000
set_option maxRecDepth 100000
set_option linter.unusedSimpArgs false
set_option linter.unusedVariables false
theorem F3 : F 3 = some { body := (Try.f3.body.getD .skip), results := Try.f3.results.toList, rf := false } := by kernel_rfl
theorem R3 : regsOk T (Try.f3.body.getD .skip) = true := by kernel_rfl
/-- Nothing is asked for, and nothing is known. -/
def NoQ (S : List Sn) : Prop := ∀ s ∈ S, s.qs = [] ∧ s.hs = []
theorem noQ_reqs {S : List Sn} (h : NoQ S) : reqs S = [] := by
  unfold reqs reqsU
  rw [List.flatMap_eq_nil_iff]
  intro i hi
  cases hs : S[i]? with
  | none => rfl
  | some s => simp only; rw [(h s (List.mem_of_getElem? hs)).1]; rfl
theorem noQ_ask {S : List Sn} (h : NoQ S) : askS S = S := by
  unfold askS
  rw [noQ_reqs h, List.foldl_nil, List.map_map]
  conv => rhs; rw [← List.map_id S]
  refine List.map_congr_left fun s hs => ?_
  have := (h s hs).1
  show keepF (incF s) = s
  unfold keepF incF
  rw [this]
  cases s
  simp only at this
  subst this
  rfl
theorem noQ_age {S : List Sn} (h : NoQ S) : S.map ageF = S := by
  conv => rhs; rw [← List.map_id S]
  refine List.map_congr_left fun s hs => ?_
  have := (h s hs).2
  unfold ageF
  rw [this]
  cases s
  simp only at this
  subst this
  rfl
theorem noQ_probe {lo hi : Int} {S : List Sn} (h : NoQ S) : NoQ (probeS lo hi S) := fun s hs => by
  obtain ⟨t, ht, e1, e2⟩ := probeS_hq hs
  rw [e1, e2]; exact h t ht
theorem noQ_step {lo hi : Int} {S : List Sn} (h : NoQ S) : stepS lo hi S = probeS lo hi S := by
  unfold stepS
  rw [noQ_ask (noQ_probe h), noQ_age (noQ_probe h)]
/-- A station with an empty row: its state, the place of its address, its probes. -/
abbrev Mo := Nat × Nat × Nat
def mAns (L : List Mo) (i k : Nat) : Bool := match L[k]?, L[i]? with
  | some s, some o => if k = i then false else if s.1 = 2 then decide (s.2.1 = o.2.1) else if s.1 = 1 then decide (s.2.1 = o.2.1) && (decide (o.2.2 < s.2.2) || (decide (s.2.2 = o.2.2) && decide (k < i))) else false
  | _, _ => false
def mF (L : List Mo) (i : Nat) (o : Mo) : Mo := if o.1 = 1 then (if (List.range L.length).any (mAns L i) = true then (if o.2.1 + 1 = 600 then 3 else 1, o.2.1 + 1, 0) else if o.2.2 + 1 = 10 then (2, o.2.1, 10) else (1, o.2.1, o.2.2 + 1)) else o
def mStep (L : List Mo) : List Mo := L.mapIdx (mF L)
def it (M : Nat) : Nat → List Mo
  | 0 => List.replicate M (1, 0, 0)
  | i + 1 => mStep (it M i)
def kM (M : Nat) : Nat := if M = 0 then 0 else M + 9
def chkM (M : Nat) : Bool := (List.range (kM M)).all (fun i => (it M i).any (fun x => Nat.beq x.1 1) && (it M i).all fun x => Nat.ble x.2.1 200 && (Nat.ble x.2.2 10 && (!(Nat.beq x.1 1) || Nat.ble x.2.2 9))) && decide (it M (kM M) = (List.range M).map fun j => (2, j, 10))
theorem chk : (List.range 9).all chkM = true := by kernel_rfl
def em (lo : Int) (x : Mo) : Sn := ⟨.nils, [], (x.1 : Nat), (x.2.1 : Nat), (x.2.2 : Nat), if x.1 = 2 then lo else 0, if x.1 = 2 then 1 + (x.2.1 : Nat) else 0, [], []⟩
theorem em_noQ (lo : Int) (L : List Mo) : NoQ (L.map (em lo)) := fun s hs => by
  obtain ⟨x, _, rfl⟩ := List.mem_map.1 hs
  exact ⟨rfl, rfl⟩
theorem adrN_nil {lo hi : Int} (hl : okL lo hi) {k : Nat} (hk : k ≤ 252) : adrN lo hi [] (k : Nat) = lo := by
  unfold okL at hl
  unfold adrN adN
  have h1 : adx [] (k : Nat) = (k : Nat) := rfl
  have h2 : mx (k : Nat) 0 = (k : Nat) := by unfold mx; rw [if_neg (by omega)]
  have h3 : ((k : Nat) : Int).tdiv 253 = 0 := by rw [Int.tdiv_eq_ediv_of_nonneg (by omega)]; omega
  rw [h1, h2, h3]
  have h4 : IntKind.i64.wrap 0 = 0 := wrap_i64 (by omega) (by omega)
  rw [h4, Int.zero_tmod, Int.add_zero]
  exact wrap_i64 (by omega) (by omega)
theorem adrD_nil {k : Nat} (hk : k ≤ 252) : adrD [] (k : Nat) = 1 + (k : Nat) := by
  unfold adrD adD
  have h1 : adx [] (k : Nat) = (k : Nat) := rfl
  have h2 : mx (k : Nat) 0 = (k : Nat) := by unfold mx; rw [if_neg (by omega)]
  have h3 : ((k : Nat) : Int).tmod 253 = (k : Nat) := by rw [Int.tmod_eq_emod_of_nonneg (by omega)]; omega
  rw [h1, h2, h3]
  exact wrap_i64 (by omega) (by omega)
theorem em_ans {lo hi : Int} (hl : okL lo hi) {L : List Mo} (hk : ∀ x ∈ L, x.2.1 ≤ 200) (i k : Nat) : ansK lo hi (L.map (em lo)) i k = mAns L i k := by
  unfold ansK mAns
  rw [List.getElem?_map, List.getElem?_map]
  cases hs : L[k]? with
  | none => rfl
  | some s =>
    cases ho : L[i]? with
    | none => rfl
    | some o =>
      have ks := hk s (List.mem_of_getElem? hs)
      have ko := hk o (List.mem_of_getElem? ho)
      simp only [Option.map_some]
      unfold ansB
      by_cases e : k = i
      · rw [if_pos e, if_pos e]
      rw [if_neg e, if_neg e]
      have eo1 : adrN lo hi (em lo o).row (em lo o).k = lo := adrN_nil hl (by omega)
      have eo2 : adrD (em lo o).row (em lo o).k = 1 + (o.2.1 : Nat) := adrD_nil (by omega)
      have es1 : adrN lo hi (em lo s).row (em lo s).k = lo := adrN_nil hl (by omega)
      have es2 : adrD (em lo s).row (em lo s).k = 1 + (s.2.1 : Nat) := adrD_nil (by omega)
      rw [eo1, eo2, es1, es2]
      have st : (em lo s).st = ((s.1 : Nat) : Int) := rfl
      have se1 : (em lo s).se = ((s.2.2 : Nat) : Int) := rfl
      have se2 : (em lo o).se = ((o.2.2 : Nat) : Int) := rfl
      by_cases h2 : s.1 = 2
      · rw [if_pos (by rw [st]; omega), if_pos h2]
        have en : (em lo s).n = lo := by show (if s.1 = 2 then lo else 0) = lo; rw [if_pos h2]
        have ed : (em lo s).d = 1 + (s.2.1 : Nat) := by show (if s.1 = 2 then 1 + ((s.2.1 : Nat) : Int) else 0) = _; rw [if_pos h2]
        rw [en, ed]
        unfold eqA
        rw [decide_eq_true rfl, Bool.true_and]
        exact decide_eq_decide.2 (by omega)
      · rw [if_neg (by rw [st]; omega), if_neg h2]
        by_cases h1 : s.1 = 1
        · rw [if_pos (by rw [st]; omega), if_pos h1]
          unfold eqA
          rw [decide_eq_true rfl, Bool.true_and, se1, se2]
          congr 1
          · exact decide_eq_decide.2 (by omega)
          · congr 1
            · exact decide_eq_decide.2 (by omega)
            · congr 1
              exact decide_eq_decide.2 (by omega)
        · rw [if_neg (by rw [st]; omega), if_neg h1]
theorem em_step {lo hi : Int} (hl : okL lo hi) {L : List Mo} (hk : ∀ x ∈ L, x.2.1 ≤ 200) : stepS lo hi (L.map (em lo)) = (mStep L).map (em lo) := by
  rw [noQ_step (em_noQ lo L)]
  apply List.ext_getElem?
  intro i
  unfold mStep
  rw [probe_get, List.getElem?_map, List.getElem?_map, List.getElem?_mapIdx]
  cases ho : L[i]? with
  | none => rfl
  | some o =>
    have ko := hk o (List.mem_of_getElem? ho)
    simp only [Option.map_some]
    congr 1
    have st : (em lo o).st = ((o.1 : Nat) : Int) := rfl
    have hans : ansd lo hi (L.map (em lo)) i = (List.range L.length).any (mAns L i) := by
      unfold ansd
      rw [List.length_map]
      congr 1
      exact funext fun k => em_ans hl hk i k
    unfold mF
    by_cases h1 : o.1 = 1
    · rw [if_pos (by rw [st]; omega), if_pos h1]
      unfold prF
      rw [hans]
      by_cases h2 : (List.range L.length).any (mAns L i) = true
      · rw [if_pos h2, if_pos h2, if_neg (show ¬ o.2.1 + 1 = 600 by omega)]
        have e1 : ¬ (em lo o).k + 1 = 600 := by show ¬ ((o.2.1 : Nat) : Int) + 1 = 600; omega
        rw [if_neg e1]
        unfold em
        simp [h1]
      · rw [if_neg h2, if_neg h2]
        have ese : (em lo o).se = ((o.2.2 : Nat) : Int) := rfl
        by_cases h3 : o.2.2 + 1 = 10
        · rw [if_pos h3, if_pos (by rw [ese]; omega)]
          have eo1 : adrN lo hi (em lo o).row (em lo o).k = lo := adrN_nil hl (by omega)
          have eo2 : adrD (em lo o).row (em lo o).k = 1 + (o.2.1 : Nat) := adrD_nil (by omega)
          rw [eo1, eo2]
          unfold em
          simp
        · rw [if_neg h3, if_neg (by rw [ese]; omega)]
          unfold em
          simp [h1]
    · rw [if_neg (by rw [st]; omega), if_neg h1]
theorem chk_at {M : Nat} (hM : M < 9) : (∀ i, i < kM M → ((it M i).any fun x => Nat.beq x.1 1) = true ∧ (∀ x ∈ it M i, x.2.1 ≤ 200) ∧ ∀ x ∈ it M i, x.2.2 ≤ 10 ∧ (x.1 = 1 → x.2.2 ≤ 9)) ∧ it M (kM M) = (List.range M).map fun j => (2, j, 10) := by
  have h := List.all_eq_true.1 chk M (List.mem_range.2 hM)
  unfold chkM at h
  rw [Bool.and_eq_true] at h
  refine ⟨fun i hi => ?_, of_decide_eq_true h.2⟩
  have h1 := List.all_eq_true.1 h.1 i (List.mem_range.2 hi)
  rw [Bool.and_eq_true] at h1
  have h2 : ∀ x ∈ it M i, x.2.1 ≤ 200 ∧ x.2.2 ≤ 10 ∧ (x.1 = 1 → x.2.2 ≤ 9) := fun x hx => by
    have := List.all_eq_true.1 h1.2 x hx
    simp only [Bool.and_eq_true, Nat.ble_eq, Bool.or_eq_true, Bool.not_eq_true'] at this
    refine ⟨this.1, this.2.1, fun e => ?_⟩
    rcases this.2.2 with g | g
    · exact absurd e (Nat.ne_of_beq_eq_false g)
    · exact g
  exact ⟨h1.1, fun x hx => (h2 x hx).1, fun x hx => (h2 x hx).2⟩
theorem em_busy (lo : Int) (L : List Mo) : (L.map (em lo)).any busy = L.any fun x => Nat.beq x.1 1 := by
  rw [List.any_map]
  congr 1
  funext x
  show (decide (((x.1 : Nat) : Int) = 1) || decide (0 < ([] : List As).length)) = Nat.beq x.1 1
  rw [show decide (0 < ([] : List As).length) = false from rfl, Bool.or_false]
  cases h : Nat.beq x.1 1 with
  | true => have := Nat.eq_of_beq_eq_true h; rw [decide_eq_true]; omega
  | false => have := Nat.ne_of_beq_eq_false h; rw [decide_eq_false]; omega
end Go.AM.X
namespace Go.AM.X
open Go Go.AM Go.Proofs Go.AM.Sx
set_option maxHeartbeats 12800000
set_option maxRecDepth 100000
set_option linter.unusedVariables false
theorem boxS {h h2 : AH} {o o2 : Nat → Prop} (hS : Stf h h2 o o2) {b : Nat} {x : AB} (hb : h.get b = some x ∧ o b ∧ b < h.next) : h2.get b = some x ∧ o2 b ∧ b < h2.next :=
  ⟨(hS.2 b hb.2.2 hb.2.1).1.trans hb.1, (hS.2 b hb.2.2 hb.2.1).2, Nat.lt_of_lt_of_le hb.2.2 hS.1⟩
theorem store_a2 (h : AH) (n d : Int) : ∃ h2, aStore T 35 (.ptr h.next 0) (.agg [.int .i64 n, .int .i64 d]) (h.alloc (.cells [.int .i64 0, .int .i64 0] .own)) = some h2 ∧ h2.next = h.next + 1 ∧ h2.get h.next = some (.cells [.int .i64 n, .int .i64 d] .own) ∧ Grow h h2 := by
  have g0 : (h.alloc (.cells [.int .i64 0, .int .i64 0] .own)).get h.next = some (.cells [.int .i64 0, .int .i64 0] .own) := by rw [AH.get_alloc, if_pos rfl]
  refine ⟨_, st2_0 (x := .int .i64 n) (y := .int .i64 d) rfl rfl g0, by simp, by rw [AH.get_put, if_pos rfl], by simp, fun c hc => ?_⟩
  rw [AH.get_put, if_neg (by omega), AH.get_alloc, if_neg (by omega)]
theorem addProbe {lo : Int} (i : Nat) : updI (List.replicate i (em lo (1, 0, 0)) ++ [newS .nils []]) i probeF = List.replicate (i + 1) (em lo (1, 0, 0)) := by
  have h1 : (List.replicate i (em lo (1, 0, 0)) ++ [newS .nils []])[i]? = some (newS .nils []) := by
    rw [List.getElem?_append_right (by simp)]; simp
  rw [updI_at h1, List.set_append_right _ _ (by simp), List.length_replicate, Nat.sub_self, List.set_cons_zero, List.replicate_succ']
  rfl
theorem law3 (m : Nat) (lo hi n : Int) (lost : List Int) (hn : 0 ≤ n ∧ n ≤ 255) (hm : 160000000 ≤ m ∧ m ≤ 800000000) :
    ∃ h', call F Ip T (m + 304) 3 [.agg [.int .i64 lo, .int .i64 hi, rowV lost], .int .u8 n] e0 = some (.bool true, h') := by
  have h3 : Ip 3 = none := rfl
  obtain ⟨VW, hVW⟩ : ∃ VW, VW = rowV lost := ⟨_, rfl⟩
  rw [← hVW]
  have hcV : VW.cells = some [VW] ∧ VW.one = true := by rw [hVW]; exact ⟨rfl, rfl⟩
  have k7 := fun h => K7 (m + 302) h
  obtain ⟨N, hN⟩ : ∃ N : Nat, n = (N : Int) := ⟨n.toNat, by omega⟩
  subst hN
  have w0 : IntKind.i64.wrap (N : Int) = (N : Int) := wrap_i64 (by omega) (by omega)
  obtain ⟨M, hM⟩ : ∃ M, M = N % 9 := ⟨_, rfl⟩
  have hM9 : M < 9 := by omega
  have w1 : ((N : Nat) : Int).tmod 9 = (M : Int) := by rw [Int.tmod_eq_emod_of_nonneg (by omega)]; omega
  have w2 : ¬ (9 : Int) = 0 := by decide
  by_cases hok : okL lo hi
  rotate_left
  · have k6 := run6no (m + 241) lo hi (e0.alloc (.cells [.int .i64 lo, .int .i64 hi, VW] .own)) hok
    rw [call_F (by decide) h3 F3 rfl R3]; simp only [Try.f3, Option.getD]
    simp +contextual (maxSteps := 3000000) only [↓code_skip, ↓code_seq, ↓code_region, ↓code_cond, ↓code_ret, aCond_bool, ↓ops_nil, ↓ops_cons, run_none, ↓run0_v, ↓run0_r, ↓seqK_normal, ↓seqK_ret, ↓retK_ret, put_same, put_ne, env0_at, ev_tmp, ev_const, ev_func, oc_int, oc_bool, oc_nils, oc_nilp, o_move, o_assign, o_bin, o_call, o_box, o_load, o_convert, o_fieldAddr, o_extract, g_none, bin_rem, bin_neq, extract_tup, next_e0, resultsOf, oneOrAll, Option.map_some, Option.getD_some, ↓reduceIte, Nat.reduceEqDiff, not_false_eq_true, List.getElem?_cons_zero, List.getElem?_cons_succ, List.map_cons, List.map_nil, List.append_nil, List.nil_append, AH.get_alloc, Bool.not_eq_eq_eq_not, Bool.not_true, Bool.not_false, ne_eq, decide_eq_false_iff_not, box_agg, fa_ptr T24 p24_0 (by decide), load_p1 T3 a3, loadc_def, fa_ptr T24 p24_1 (by decide), conv_int T5 T3 d3, nn_eql T25 d25, Nat.zero_add, Nat.add_zero, k6, k7, w0, w1, w2, decide_false, callV_fn (g := 6) (by decide), callV_fn (g := 7) (by decide)]
    exact ⟨_, rfl⟩
  obtain ⟨H, p, off0, k6, hL0, gB, oB, nB⟩ := run6ok (m + 241) lo hi VW hok
  have hlb : 1 ≤ lo ∧ lo ≤ hi ∧ hi ≤ 65279 := hok
  have hl0 : ¬ lo = 0 := by omega
  obtain ⟨c1, c2⟩ := chk_at hM9
  have hK : kM M ≤ 18 := by unfold kM; split <;> omega
  obtain ⟨Qf, hQf⟩ : ∃ Qf : Rs → Prop, Qf = fun r => ∃ h', r = some (.bool true, h') := ⟨_, rfl⟩
  suffices hh : Qf (call F Ip T (m + 304) 3 [.agg [.int .i64 lo, .int .i64 hi, VW], .int .u8 (N : Nat)] e0) by rw [hQf] at hh; exact hh
  have nz : ¬ (0 : Int) = 2 := by decide
  rw [call_F (by decide) h3 F3 rfl R3]; simp only [Try.f3, Option.getD]
  simp +contextual (maxSteps := 3000000) only [↓code_skip, ↓code_seq, ↓code_region, ↓code_cond, ↓code_block, ↓code_loop, aCond_bool, ↓ops_nil, ↓ops_cons, run_none, ↓run0_v, ↓run0_r, ↓seqK_normal, put_same, put_ne, env0_at, ev_tmp, ev_const, ev_func, oc_int, oc_bool, oc_nils, oc_nilp, o_move, o_assign, o_bin, o_call, o_box, o_load, o_convert, o_fieldAddr, o_extract, g_none, bin_rem, bin_neq, extract_tup, next_e0, Option.getD_some, ↓reduceIte, Nat.reduceEqDiff, not_false_eq_true, List.getElem?_cons_zero, List.getElem?_cons_succ, Bool.false_eq_true, List.map_cons, List.map_nil, List.append_nil, List.nil_append, AH.get_alloc, Bool.not_true, ne_eq, box_agg, fa_ptr T24 p24_0 (by decide), load_p1 T3 a3, loadc_def, fa_ptr T24 p24_1 (by decide), conv_int T5 T3 d3, pn_eql T25 d25, Nat.zero_add, Nat.add_zero, k6, w0, w1, w2, decide_true, callV_fn (g := 6) (by decide)]
  refine iterL_wp (Q := fun r => Qf r) (N := M) (Inv := fun k e h' => ∃ i off, k + i = M ∧ Lk h' p lo hi (List.replicate i (em lo (1, 0, 0))) off ∧ (h'.get 0 = some (.cells [.int .i64 lo, .int .i64 hi, VW] .own) ∧ off 0 ∧ 0 < h'.next) ∧ i ≤ M ∧ e 2 = .ptr 0 0 ∧ e 5 = .ptr p 0 ∧ e 7 = .int .i64 (M : Nat) ∧ e 8 = .int .i64 (i : Nat)) ?_ ?_ (show M < m + 303 by omega)
  · rintro k e h' K' ⟨i, off, hk, hL, hb, hil, e2, e5, e7, e8⟩ hnext hexit
    by_cases hi' : i < M
    · have d1 : (i : Int) < (M : Int) := by omega
      have d7 : IntKind.i64.wrap ((i : Int) + 1) = ((i + 1 : Nat) : Int) := by rw [wrap_i64 (by omega) (by omega)]; rfl
      obtain ⟨h2, off2, k1, k2, k3⟩ := V8 (I := Ip) rfl rfl rfl (m + 298) p lo hi (List.replicate i (em lo (1, 0, 0))) .nils [] off h' hL hl0 (.inl ⟨rfl, rfl⟩) (by simp) (by simp; omega)
      rw [List.length_replicate] at k1
      obtain ⟨h4, off4, l1, l2, l3⟩ := V9 (I := Ip) rfl rfl rfl rfl (m + 298) p (i : Nat) lo hi _ off2 h2 k2 hl0
      have hbad : bad (List.replicate i (em lo (1, 0, 0)) ++ [newS .nils []]).length (i : Nat) = 0 := by
        unfold bad; rw [List.length_append, List.length_replicate, if_neg]; simp; omega
      rw [hbad] at l1 l2
      rw [if_pos rfl, Int.toNat_natCast, addProbe] at l2
      simp +contextual (maxSteps := 3000000) only [↓code_skip, ↓code_seq, ↓code_region, ↓code_cond, ↓code_block, aCond_bool, ↓ops_nil, ↓ops_cons, run_none, run_someF, ↓run0_v, ↓run0_r, ↓seqK_normal, ↓blkK_normal, put_same, put_ne, ev_tmp, ev_const, ev_func, oc_int, oc_bool, oc_nils, o_move, o_assign, o_pick, o_bin, o_call, o_extract, g_none, g_some, pick_bool, bin_add, bin_neq, bin_lss, extract_tup, Option.bind_some, ↓reduceIte, Nat.reduceEqDiff, not_false_eq_true, List.getElem?_cons_zero, List.getElem?_cons_succ, List.getElem?_toArray, Bool.false_eq_true, List.map_cons, List.map_nil, List.append_nil, List.nil_append, Bool.not_true, ne_eq, e5, e7, e8, d1, k1, l1, d7, decide_true, callV_fn (g := 8) (by decide), callV_fn (g := 9) (by decide)]
      refine hnext (k - 1) _ _ (by omega) ⟨i + 1, off4, by omega, ?_, ?_, ?_, ?_, ?_, ?_, ?_⟩
      · exact l2
      · exact boxS (k3.trans l3) hb
      · omega
      · simp only [put_ne, Nat.reduceEqDiff, not_false_eq_true, ne_eq, e2]
      · simp only [put_ne, Nat.reduceEqDiff, not_false_eq_true, ne_eq, e5]
      · simp only [put_ne, Nat.reduceEqDiff, not_false_eq_true, ne_eq, e7]
      · simp only [put_same]
    · have d1 : ¬ (i : Int) < (M : Int) := by omega
      have hin : i = M := by omega
      simp +contextual (maxSteps := 3000000) only [↓code_seq, ↓code_region, ↓code_cond, ↓code_exit, aCond_bool, ↓ops_nil, ↓ops_cons, run_none, ↓run0_v, ↓seqK_normal, ↓seqK_exit, put_same, put_ne, ev_tmp, o_move, o_bin, g_none, bin_lss, decide_eq_true_eq, ↓reduceIte, Nat.reduceEqDiff, not_false_eq_true, ne_eq, e7, e8, d1]
      refine hexit _ _ _ (by simp) ?_
      simp +contextual (maxSteps := 3000000) only [↓code_seq, ↓code_region, ↓code_block, ↓code_loop, ↓ops_nil, ↓ops_cons, run_none, ↓run0_v, ↓seqK_normal, ↓blkK_exit, ev_const, oc_int, o_assign, g_none, ↓reduceIte]
      refine iterL_wp (Q := fun r => Qf r) (N := 200) (Inv := fun k e h' => ∃ x off2, k + x = 200 ∧ Lk h' p lo hi ((it M x).map (em lo)) off2 ∧ (h'.get 0 = some (.cells [.int .i64 lo, .int .i64 hi, VW] .own) ∧ off2 0 ∧ 0 < h'.next) ∧ x ≤ kM M ∧ e 2 = .ptr 0 0 ∧ e 5 = .ptr p 0 ∧ e 7 = .int .i64 (M : Nat) ∧ e 11 = .int .i64 (x : Nat)) ?_ ?_ (show 200 < m + 303 by omega)
      · rintro k e h' K' ⟨x, off2, hk, hL2, hb2, hxl, e2, e5, e7, e11⟩ hnext hexit
        have r1 : (x : Int) < 200 := by omega
        have hlx : ∀ y, (it M y).length = M := fun y => by
          induction y with
          | zero => simp [it]
          | succ y ih => show (mStep (it M y)).length = M; unfold mStep; rw [List.length_mapIdx, ih]
        have q1 := V10 (I := Ip) rfl rfl rfl rfl rfl (m + 1) p lo hi _ off2 h' hL2 hl0 (by rw [List.length_map, hlx]; omega)
        rw [em_busy] at q1
        by_cases hx : x < kM M
        · obtain ⟨b1, b2, b3⟩ := c1 x hx
          have r7 : IntKind.i64.wrap ((x : Int) + 1) = ((x + 1 : Nat) : Int) := by rw [wrap_i64 (by omega) (by omega)]; rfl
          rw [b1] at q1
          obtain ⟨h2, off3, k1, k2, k3⟩ := V11 (I := Ip) rfl rfl rfl rfl rfl rfl rfl rfl rfl rfl rfl rfl rfl rfl rfl rfl rfl rfl rfl rfl rfl rfl (m + 2) p lo hi ((it M x).map (em lo)) off2 h' 0 0 hL2 hlb (by rw [List.length_map, hlx]; omega) (fun s hs => by
            obtain ⟨y, hy, rfl⟩ := List.mem_map.1 hs
            have := b2 y hy
            have := b3 y hy
            unfold Nm em
            simp only
            omega) (fun s hs => by rw [(em_noQ lo _ s hs).2]; exact Nat.le_refl _) (fun s hs => by rw [(em_noQ lo _ s hs).1]; exact Nat.le_refl _) ⟨by omega, by omega⟩
          rw [em_step hok b2] at k2
          simp +contextual (maxSteps := 3000000) only [↓code_skip, ↓code_seq, ↓code_region, ↓code_cond, ↓code_block, aCond_bool, ↓ops_nil, ↓ops_cons, run_none, run_someT, ↓run0_v, ↓run0_r, ↓seqK_normal, ↓blkK_normal, put_same, put_ne, ev_tmp, ev_const, ev_func, oc_int, oc_bool, o_move, o_assign, o_pick, o_bin, o_call, o_un, g_none, g_some, pick_bool, bin_add, bin_lss, un_not, Option.bind_some, ↓reduceIte, Nat.reduceEqDiff, not_false_eq_true, List.getElem?_cons_zero, List.getElem?_cons_succ, List.getElem?_toArray, List.map_cons, List.map_nil, List.append_nil, List.nil_append, Bool.not_true, Bool.not_false, ne_eq, e5, e11, r1, q1, k1, r7, decide_true, callV_fn (g := 10) (by decide), callV_fn (g := 11) (by decide)]
          refine hnext (k - 1) _ _ (by omega) ⟨x + 1, off3, by omega, ?_, ?_, ?_, ?_, ?_, ?_, ?_⟩
          · exact k2
          · exact boxS k3 hb2
          · omega
          · simp only [put_ne, Nat.reduceEqDiff, not_false_eq_true, ne_eq, e2]
          · simp only [put_ne, Nat.reduceEqDiff, not_false_eq_true, ne_eq, e5]
          · simp only [put_ne, Nat.reduceEqDiff, not_false_eq_true, ne_eq, e7]
          · simp only [put_same]
        · have hxk : x = kM M := by omega
          rw [hxk, c2] at hL2 q1
          have b0 : ((List.range M).map fun j => ((2, j, 10) : Mo)).any (fun x => Nat.beq x.1 1) = false := by
            rw [List.any_eq_false]
            intro y hy
            obtain ⟨j, _, rfl⟩ := List.mem_map.1 hy
            simp
          rw [b0] at q1
          rw [List.map_map] at hL2
          simp +contextual (maxSteps := 3000000) only [↓code_seq, ↓code_region, ↓code_cond, ↓code_exit, aCond_bool, ↓ops_nil, ↓ops_cons, run_none, run_someT, ↓run0_v, ↓run0_r, ↓seqK_normal, ↓seqK_exit, put_same, put_ne, ev_tmp, ev_const, ev_func, oc_int, oc_bool, o_move, o_pick, o_bin, o_call, o_un, g_none, g_some, pick_bool, bin_lss, un_not, Option.bind_some, ↓reduceIte, Nat.reduceEqDiff, not_false_eq_true, List.getElem?_cons_zero, List.getElem?_cons_succ, List.getElem?_toArray, Bool.false_eq_true, List.map_cons, List.map_nil, List.append_nil, List.nil_append, Bool.not_true, Bool.not_false, ne_eq, e5, e11, r1, q1, decide_true, callV_fn (g := 10) (by decide)]
          refine hexit _ _ _ (by simp) ?_
          simp +contextual (maxSteps := 3000000) only [↓code_seq, ↓code_region, ↓code_block, ↓code_loop, ↓ops_nil, ↓ops_cons, run_none, ↓run0_v, ↓seqK_normal, ↓blkK_exit, ev_const, oc_int, o_assign, g_none, ↓reduceIte]
          refine iterL_wp (Q := fun r => Qf r) (N := M) (Inv := fun k e h' => ∃ u off3, k + u = M ∧ Lk h' p lo hi ((List.range M).map (em lo ∘ fun j => ((2, j, 10) : Mo))) off3 ∧ (h'.get 0 = some (.cells [.int .i64 lo, .int .i64 hi, VW] .own) ∧ off3 0 ∧ 0 < h'.next) ∧ u ≤ M ∧ e 2 = .ptr 0 0 ∧ e 5 = .ptr p 0 ∧ e 7 = .int .i64 (M : Nat) ∧ e 12 = .int .i64 (u : Nat)) ?_ ?_ (show M < m + 303 by omega)
          · rintro k e h' K' ⟨u, off3, hk, hL3, hb3, hul, e2, e5, e7, e12⟩ hnext hexit
            by_cases hu : u < M
            · have s1' : (u : Int) < (M : Int) := by omega
              have s7 : IntKind.i64.wrap ((u : Int) + 1) = ((u + 1 : Nat) : Int) := by rw [wrap_i64 (by omega) (by omega)]; rfl
              have s8 : IntKind.i64.wrap (1 + (u : Int)) = 1 + (u : Int) := wrap_i64 (by omega) (by omega)
              have hs : ((List.range M).map (em lo ∘ fun j => ((2, j, 10) : Mo)))[u]? = some (em lo (2, u, 10)) := by simp [hu]
              obtain ⟨h2, n', d', k1, k2, k3⟩ := V12 (I := Ip) rfl rfl rfl (m + 298) p u lo hi _ _ off3 h' hL3 hl0 hs
              obtain ⟨en, ed⟩ := k3 rfl
              have en' : n' = lo := en
              have ed' : d' = 1 + (u : Int) := ed
              rw [en', ed'] at k1
              have k1' : call F Ip T (m + 303) 12 [.ptr p 0, .int .i64 (u : Nat)] h' = some (.tup [.agg [.int .i64 lo, .int .i64 (1 + (u : Int))], .bool true], h2) := k1
              obtain ⟨h4, y1, y2, y3, y4⟩ := store_a2 h2 lo (1 + (u : Int))
              have g2 := (k2.trans y4).2 0 hb3.2.2
              have g3 := g2.trans hb3.1
              have ne0 : eqA lo (1 + (u : Int)) lo (1 + (u : Int)) = true := eqA_iff.2 ⟨rfl, rfl⟩
              simp +contextual (maxSteps := 3000000) only [↓code_skip, ↓code_seq, ↓code_region, ↓code_cond, ↓code_block, aCond_bool, ↓ops_nil, ↓ops_cons, run_none, run_someF, ↓run0_v, ↓run0_h, ↓run0_r, ↓seqK_normal, ↓blkK_normal, put_same, put_ne, put_none, ev_tmp, ev_const, ev_func, oc_int, oc_bool, o_move, o_assign, o_pick, o_bin, o_call, o_alloc, o_build, o_load, o_store, o_un, o_fieldAddr, o_extract, g_none, g_some, pick_bool, bin_add, bin_lss, un_not, extract_tup, Option.bind_some, Option.map_some, ↓reduceIte, Nat.reduceEqDiff, not_false_eq_true, Nat.reduceAdd, List.getElem?_cons_zero, List.getElem?_cons_succ, List.getElem?_toArray, Bool.false_eq_true, List.map_cons, List.map_nil, List.append_nil, List.nil_append, List.cons_append, and_true, Nat.reduceLeDiff, Nat.le_refl, Bool.not_true, ne_eq, fa_ptr T24 p24_0 (by decide), load_p1 T3 a3, loadc_def, alloc_t T35, z35, load_pA T35 a35, s35, loadn_def, build_struct T35 d35, parts_eq, fillA, AV.cells, AH.splice, List.take_succ_cons, List.take_zero, List.take_nil, List.drop_succ_cons, List.drop_zero, List.drop_nil, List.length_cons, List.length_nil, p35_0, p35_1, List.length_cons, List.length_nil, List.drop_zero, List.take_succ_cons, List.take_zero, List.take_nil, Nat.zero_add, Nat.add_zero, e2, e5, e7, e12, s1', k1', y1, y3, g3, s8, neq35, ne0, s7, decide_true, callV_fn (g := 12) (by decide)]
              refine hnext (k - 1) _ _ (by omega) ⟨u + 1, off3, by omega, ?_, ?_, ?_, ?_, ?_, ?_, ?_⟩
              · exact (hL3.grow k2).grow y4
              · exact ⟨g3, hb3.2.1, Nat.lt_of_lt_of_le hb3.2.2 (k2.trans y4).1⟩
              · omega
              · simp only [put_ne, Nat.reduceEqDiff, not_false_eq_true, ne_eq, e2]
              · simp only [put_ne, Nat.reduceEqDiff, not_false_eq_true, ne_eq, e5]
              · simp only [put_ne, Nat.reduceEqDiff, not_false_eq_true, ne_eq, e7]
              · simp only [put_same]
            · have s1' : ¬ (u : Int) < (M : Int) := by omega
              have q2 := V10 (I := Ip) rfl rfl rfl rfl rfl (m + 1) p lo hi _ off3 h' hL3 hl0 (by simp; omega)
              rw [← List.map_map, em_busy, b0] at q2
              simp +contextual (maxSteps := 3000000) only [↓code_seq, ↓code_region, ↓code_cond, ↓code_exit, aCond_bool, ↓ops_nil, ↓ops_cons, run_none, ↓run0_v, ↓seqK_normal, ↓seqK_exit, put_same, put_ne, ev_tmp, o_move, o_bin, g_none, bin_lss, decide_eq_true_eq, ↓reduceIte, Nat.reduceEqDiff, not_false_eq_true, ne_eq, e7, e12, s1']
              refine hexit _ _ _ (by simp) ?_
              simp +contextual (maxSteps := 3000000) only [↓code_seq, ↓code_region, ↓code_ret, ↓ops_nil, ↓ops_cons, run_none, run_someT, ↓run0_v, ↓run0_r, ↓seqK_normal, ↓blkK_exit, ↓retK_ret, put_same, put_ne, ev_tmp, ev_const, ev_func, oc_bool, o_move, o_assign, o_pick, o_call, g_none, g_some, pick_bool, resultsOf, oneOrAll, Option.bind_some, Option.map_some, ↓reduceIte, Nat.reduceEqDiff, not_false_eq_true, List.getElem?_cons_zero, List.getElem?_cons_succ, List.getElem?_toArray, List.map_cons, List.map_nil, List.append_nil, List.nil_append, Bool.not_false, ne_eq, e5, q2, k7, callV_fn (g := 10) (by decide), callV_fn (g := 7) (by decide)]
              rw [hQf]; exact ⟨_, rfl⟩
          · refine ⟨0, off2, by omega, ?_, ?_, ?_, ?_, ?_, ?_, ?_⟩
            · exact hL2
            · exact hb2
            · omega
            · simp only [put_ne, Nat.reduceEqDiff, not_false_eq_true, ne_eq, e2]
            · simp only [put_ne, Nat.reduceEqDiff, not_false_eq_true, ne_eq, e5]
            · simp only [put_ne, Nat.reduceEqDiff, not_false_eq_true, ne_eq, e7]
            · simp only [put_same]; rfl
      · refine ⟨0, off, by omega, ?_, ?_, ?_, ?_, ?_, ?_, ?_⟩
        · exact (by rw [show (it M 0).map (em lo) = List.replicate M (em lo (1, 0, 0)) by simp [it], ← hin]; exact hL)
        · exact hb
        · omega
        · simp only [put_ne, Nat.reduceEqDiff, not_false_eq_true, ne_eq, e2]
        · simp only [put_ne, Nat.reduceEqDiff, not_false_eq_true, ne_eq, e5]
        · simp only [put_ne, Nat.reduceEqDiff, not_false_eq_true, ne_eq, e7]
        · simp only [put_same]; rfl
  · refine ⟨0, off0, by omega, ?_, ?_, ?_, ?_, ?_, ?_, ?_⟩
    · exact hL0
    · exact ⟨gB, oB, nB⟩
    · omega
    · simp only [put_same, put_ne, Nat.reduceEqDiff, not_false_eq_true, ne_eq]
    · simp only [put_same, put_ne, Nat.reduceEqDiff, not_false_eq_true, ne_eq]
    · simp only [put_same, put_ne, Nat.reduceEqDiff, not_false_eq_true, ne_eq]
    · simp only [put_same]; rfl
theorem lawSet (lo hi n : Int) (lost : List Int) (hn : 0 ≤ n ∧ n ≤ 255) :
    ∃ h', call F Ip T 200000304 3 [.agg [.int .i64 lo, .int .i64 hi, rowV lost], .int .u8 n] e0 = some (.bool true, h') := law3 200000000 lo hi n lost hn ⟨by decide, by decide⟩
end Go.AM.X
