/- ProbeAsks: the plain law. Own work. -/
import Derived.Test.YtghkgkjbdfnimaaPbgK
namespace Go.AM.X
open Go Go.AM Go.Proofs Go.AM.Sx
set_option maxHeartbeats 6400000
set_option maxRecDepth 100000
set_option linter.unusedSimpArgs false
set_option linter.unusedVariables false
def RowB (row : List Int) : Prop := ∀ y ∈ row, -9223372036854775808 ≤ y ∧ y ≤ 9223372036854775807
theorem adr_ok {lo hi : Int} (hl : okL lo hi) {row : List Int} (hr : RowB row) {k : Int} (hk : 0 ≤ k ∧ k ≤ 600) : isAd lo hi (adrN lo hi row k) (adrD row k) = true := by
  unfold okL at hl
  obtain ⟨x, hx⟩ : ∃ x, x = mx (adx row k) 0 := ⟨_, rfl⟩
  have hxb : 0 ≤ x ∧ x ≤ 9223372036854775807 := by
    have key : adx row k ≤ 9223372036854775807 := by
      unfold adx
      split
      · rename_i y hy
        have hb := hr y (List.mem_of_getElem? hy)
        have hw : IntKind.i64.wrap (0 - y) ≤ 9223372036854775807 := by
          by_cases e : y = -9223372036854775808
          · subst e; decide
          · rw [wrap_i64 (by omega) (by omega)]; omega
        unfold mx
        split <;> omega
      · omega
    rw [hx]
    unfold mx
    split <;> omega
  unfold adrN adrD adN adD
  rw [← hx]
  have e1 : x.tdiv 253 = x / 253 := Int.tdiv_eq_ediv_of_nonneg hxb.1
  have e2 : x.tmod 253 = x % 253 := Int.tmod_eq_emod_of_nonneg hxb.1
  have q1 : 0 ≤ x / 253 := Int.ediv_nonneg hxb.1 (by decide)
  have q2 : x / 253 ≤ x := by omega
  have e3 : IntKind.i64.wrap (x / 253) = x / 253 := wrap_i64 (by omega) (by omega)
  have e4 : IntKind.i64.wrap (hi - lo) = hi - lo := wrap_i64 (by omega) (by omega)
  have e5 : IntKind.i64.wrap (hi - lo + 1) = hi - lo + 1 := wrap_i64 (by omega) (by omega)
  rw [e1, e2, e3, e4, e5, Int.tmod_eq_emod_of_nonneg q1]
  have m1 := Int.emod_nonneg (x / 253) (show hi - lo + 1 ≠ 0 by omega)
  have m2 := Int.emod_lt_of_pos (x / 253) (show 0 < hi - lo + 1 by omega)
  have m3 := Int.emod_nonneg x (show (253 : Int) ≠ 0 by decide)
  have m4 := Int.emod_lt_of_pos x (show (0 : Int) < 253 by decide)
  rw [wrap_i64 (by omega) (by omega), wrap_i64 (by omega) (by omega)]
  unfold isAd
  simp only [Bool.and_eq_true, decide_eq_true_eq]
  omega
/-- What holds while nothing is asked for. -/
structure Calm (lo hi : Int) (S : List Sn) : Prop where
  q : NoQ S
  al : Alone S
  nm : ∀ s ∈ S, Nm s
  rb : ∀ s ∈ S, RowB s.row
  ad : ∀ s ∈ S, s.st = 2 → isAd lo hi s.n s.d = true
theorem Calm.step {lo hi : Int} (hl : okL lo hi) {S : List Sn} (h : Calm lo hi S) : Calm lo hi (stepS lo hi S) := by
  refine ⟨?_, h.al.step, Nm.step h.nm, fun t ht => ?_, fun t ht h2 => ?_⟩
  · rw [noQ_step h.q]; exact noQ_probe h.q
  · obtain ⟨i, hi', rfl⟩ := List.getElem_of_mem ht
    obtain ⟨s, hs, hc⟩ := (stepS_c lo hi S).at_ (List.getElem?_eq_getElem hi')
    rw [probe_get, Option.map_eq_some_iff] at hs
    obtain ⟨o, ho, rfl⟩ := hs
    unfold core at hc
    simp only [Prod.mk.injEq] at hc
    rw [← hc.2.1]
    have := h.rb o (List.mem_of_getElem? ho)
    split
    · unfold prF
      split
      · exact this
      · split <;> exact this
    · exact this
  · rw [noQ_step h.q] at ht
    obtain ⟨i, hi', rfl⟩ := List.getElem_of_mem ht
    have hg := List.getElem?_eq_getElem hi'
    rw [probe_get, Option.map_eq_some_iff] at hg
    obtain ⟨o, ho, he⟩ := hg
    rw [← he] at h2 ⊢
    have hom := List.mem_of_getElem? ho
    rcases settled_was ho h2 with ⟨a1, a2⟩ | ⟨a1, a2, a3, a4, a5⟩
    · rw [a2]; exact h.ad o hom a1
    · rw [a4, a5]
      have := h.nm o hom
      exact adr_ok hl (h.rb o hom) (by unfold Nm at this; omega)
theorem hint_nil {s : Sn} (h : s.hs = []) (n d : Int) : hintI s n d = -1 := by unfold hintI; rw [h]; rfl
section
variable {lo hi : Int} {S : List Sn} {a b : Nat} {sa sb : Sn}
/-- What a step makes of one request. -/
theorem Calm.asked (h : Calm lo hi S) (hab : a ≠ b) (ha : S[a]? = some sa) (hb : S[b]? = some sb) (h2a : sa.st = 2) (h2b : sb.st = 2) :
    eqA sb.n sb.d sa.n sa.d = false ∧ askF sb.n sb.d sa = { sa with qs := [⟨sb.n, sb.d, 0⟩] } := by
  have h1 : eqA sb.n sb.d sa.n sa.d = false := by
    rcases Nat.lt_or_ge a b with g | g
    · rw [eqA_comm]; exact h.al a b sa sb g ha hb h2a h2b
    · exact h.al b a sb sa (by omega) hb ha h2b h2a
  refine ⟨h1, ?_⟩
  have hq := h.q sa (List.mem_of_getElem? ha)
  unfold askF
  rw [if_pos ⟨h1, by rw [hq.1]; rfl, by rw [hint_nil hq.2]; decide⟩, hq.1]
  rfl
theorem ansF_one {P : List Sn} {n d : Int} (s0 : Sn) (hb : ∀ k, k < P.length → ansIf P a n d k = decide (k = b)) : ∀ z, z ≤ P.length → ansF P a n d z s0 = if b < z then learnF n d (b : Nat) s0 else s0
  | 0, _ => by rw [if_neg (by omega)]; rfl
  | z + 1, hz => by
    have ih := ansF_one s0 hb z (by omega)
    unfold ansF
    rw [hb z (by omega), ih]
    by_cases e : z = b
    · rw [if_pos (by simpa using e), if_neg (by omega), if_pos (by omega), e]
    · rw [if_neg (by simpa using e)]
      by_cases g : b < z
      · rw [if_pos g, if_pos (by omega)]
      · rw [if_neg g, if_neg (by omega)]
theorem reqs_one {P : List Sn} {q : As} {s : Sn} (ha : P[a]? = some s) (hs : s.qs = [q]) (ho : ∀ i t, P[i]? = some t → i ≠ a → t.qs = []) : ∀ z, z ≤ P.length → reqsU P z = if a < z then [⟨a, q.n, q.d⟩] else []
  | 0, _ => by rw [if_neg (by omega)]; rfl
  | z + 1, hz => by
    obtain ⟨t, ht⟩ : ∃ t, P[z]? = some t := ⟨P[z], List.getElem?_eq_getElem (by omega)⟩
    have ih := reqs_one ha hs ho z (by omega)
    rw [reqsU_step ht, ih]
    by_cases e : z = a
    · subst e
      rw [ha] at ht
      cases ht
      rw [if_neg (by omega), if_pos (by omega), hs]
      rfl
    · rw [ho z t ht e]
      by_cases g : a < z
      · rw [if_pos g, if_pos (by omega)]; rfl
      · rw [if_neg g, if_neg (by omega)]; rfl
/-- Behind a step: the station that asks has a hint, and nothing is asked for. -/
theorem Calm.told (h : Calm lo hi S) (hab : a ≠ b) (ha : S[a]? = some sa) (hb : S[b]? = some sb) (h2a : sa.st = 2) (h2b : sb.st = 2) :
    (∃ t, (stepS lo hi (S.set a { sa with qs := [⟨sb.n, sb.d, 0⟩] }))[a]? = some t ∧ t.hs = [⟨sb.n, sb.d, (b : Nat), 1⟩]) ∧ ∀ t ∈ stepS lo hi (S.set a { sa with qs := [⟨sb.n, sb.d, 0⟩] }), t.qs = [] := by
  obtain ⟨S1, hS1⟩ : ∃ S1, S1 = S.set a { sa with qs := [⟨sb.n, sb.d, 0⟩] } := ⟨_, rfl⟩
  rw [← hS1]
  have hal : a < S.length := (List.getElem?_eq_some_iff.1 ha).1
  have hbl : b < S.length := (List.getElem?_eq_some_iff.1 hb).1
  have hqa := h.q sa (List.mem_of_getElem? ha)
  have s1a : S1[a]? = some { sa with qs := [⟨sb.n, sb.d, 0⟩] } := by rw [hS1, List.getElem?_set_self hal]
  have s1o : ∀ i, i ≠ a → S1[i]? = S[i]? := fun i hi => by rw [hS1, List.getElem?_set_ne (Ne.symm hi)]
  have al1 : Alone S1 := h.al.sub fun i t ht h2 => by
    by_cases e : i = a
    · subst e
      rw [s1a] at ht; cases ht
      exact ⟨sa, ha, h2a, rfl, rfl⟩
    · rw [s1o i e] at ht
      exact ⟨t, ht, h2, rfl, rfl⟩
  -- behind the first two parts
  obtain ⟨P, hP⟩ : ∃ P, P = probeS lo hi S1 := ⟨_, rfl⟩
  have pa : P[a]? = some { sa with qs := [⟨sb.n, sb.d, 0⟩] } := by
    rw [hP, probe_get, s1a, Option.map_some, if_neg (show ¬ sa.st = 1 by omega)]
  have pb : P[b]? = some sb := by rw [hP, probe_get, s1o b (Ne.symm hab), hb, Option.map_some, if_neg (show ¬ sb.st = 1 by omega)]
  have po : ∀ i t, P[i]? = some t → i ≠ a → t.qs = [] ∧ t.hs = [] := fun i t ht hi => by
    rw [hP, probe_get, s1o i hi, Option.map_eq_some_iff] at ht
    obtain ⟨o, ho, rfl⟩ := ht
    have hq := h.q o (List.mem_of_getElem? ho)
    split
    · unfold prF
      split
      · exact hq
      · split <;> exact hq
    · exact hq
  have pal : Alone P := by rw [hP]; exact al1.probe
  have hPl : P.length = S.length := by rw [hP, probeS_len, hS1, List.length_set]
  -- requests
  have hr : reqs P = [⟨a, sb.n, sb.d⟩] := by
    unfold reqs
    rw [reqs_one pa rfl (fun i t ht hi => (po i t ht hi).1) P.length (Nat.le_refl _), if_pos (by omega)]
  obtain ⟨P2, hP2⟩ : ∃ P2, P2 = P.map incF := ⟨_, rfl⟩
  obtain ⟨s0, hs0⟩ : ∃ s0 : Sn, s0 = { sa with qs := [⟨sb.n, sb.d, 1⟩] } := ⟨_, rfl⟩
  have inc1 : inc ⟨sb.n, sb.d, 0⟩ = ⟨sb.n, sb.d, 1⟩ := by unfold inc; congr 1
  have p2a : P2[a]? = some s0 := by
    rw [hP2, List.getElem?_map, pa, Option.map_some, hs0]
    unfold incF
    simp only [List.map_cons, List.map_nil, inc1]
  obtain ⟨P3, hP3⟩ : ∃ P3, P3 = P2.mapIdx (gleanF a s0.n s0.d) := ⟨_, rfl⟩
  have p3a : P3[a]? = some s0 := by
    rw [hP3, List.getElem?_mapIdx, p2a, Option.map_some]
    unfold gleanF
    rw [if_neg (fun g => g.1 rfl)]
  have hP3l : P3.length = S.length := by rw [hP3, List.length_mapIdx, hP2, List.length_map, hPl]
  have c3 : SameC P P3 := by rw [hP3, hP2]; exact (SameC.of_map (f := incF) fun _ => rfl).trans (SameC.of_mapIdx (glean_c _ _ _))
  have p3o : ∀ i t, P3[i]? = some t → i ≠ a → t.qs = [] := fun i t ht hi => by
    rw [hP3, List.getElem?_mapIdx, hP2, List.getElem?_map, Option.map_eq_some_iff] at ht
    obtain ⟨o, ho, rfl⟩ := ht
    rw [Option.map_eq_some_iff] at ho
    obtain ⟨o', ho', rfl⟩ := ho
    have hq := (po i o' ho' hi).1
    have hq2 : (incF o').qs = [] := by unfold incF; simp [hq]
    unfold gleanF
    split
    · rw [(learn_core _ _ _ _).2.2.2.2.2.2.2]; exact hq2
    · exact hq2
  have hans : ∀ k, k < P3.length → ansIf P3 a sb.n sb.d k = decide (k = b) := fun k hk => by
    obtain ⟨t, ht⟩ : ∃ t, P3[k]? = some t := ⟨P3[k], List.getElem?_eq_getElem hk⟩
    obtain ⟨o, ho, hc⟩ := c3.at_ ht
    unfold core at hc
    simp only [Prod.mk.injEq] at hc
    have e1 : t.st = o.st := hc.2.2.1.symm
    have e2 : t.n = o.n := hc.2.2.2.2.2.1.symm
    have e3 : t.d = o.d := hc.2.2.2.2.2.2.symm
    unfold ansIf
    rw [ht]
    simp only
    rw [e1, e2, e3]
    by_cases e : k = b
    · subst e
      rw [pb] at ho
      cases ho
      rw [decide_eq_true (Ne.symm hab), decide_eq_true h2b, eqA_iff.2 ⟨rfl, rfl⟩, decide_eq_true rfl]
      rfl
    · rw [decide_eq_false e]
      by_cases g : o.st = 2
      · have hz : eqA o.n o.d sb.n sb.d = false := by
          rcases Nat.lt_or_ge k b with q | q
          · exact pal k b o sb q ho pb g h2b
          · rw [eqA_comm]; exact pal b k sb o (by omega) pb ho h2b g
        rw [hz, Bool.and_false]
      · rw [decide_eq_false g, Bool.and_false, Bool.false_and]
  obtain ⟨s4, hs4⟩ : ∃ s4 : Sn, s4 = { s0 with hs := [⟨sb.n, sb.d, (b : Nat), 0⟩] } := ⟨_, rfl⟩
  have h0h : s0.hs = [] := by rw [hs0]; exact hqa.2
  have hl : learnF sb.n sb.d (b : Nat) s0 = s4 := by
    unfold learnF
    rw [if_neg (by rw [hint_nil h0h]; decide), hs4, h0h]
    rfl
  have hask : askS P = (P3.set a s4).map keepF := by
    unfold askS
    rw [hr, ← hP2]
    show (reqF P2 ⟨a, sb.n, sb.d⟩).map keepF = _
    unfold reqF
    simp only
    rw [p2a]
    simp only
    rw [← hP3, updI_at p3a, ansF_one s0 hans P3.length (Nat.le_refl _), if_pos (by omega), hl]
  have hstep : stepS lo hi S1 = ((P3.set a s4).map keepF).map ageF := by
    unfold stepS
    rw [← hP, hask]
  rw [hstep]
  have h4h : hintI s4 sb.n sb.d = 0 := by
    unfold hintI
    rw [hs4]
    simp only [idxAt]
    rw [if_pos (eqA_iff.2 ⟨rfl, rfl⟩)]; rfl
  refine ⟨⟨ageF (keepF s4), ?_, ?_⟩, fun t ht => ?_⟩
  · rw [List.getElem?_map, List.getElem?_map, List.getElem?_set_self (by omega)]; rfl
  · unfold ageF keepF
    rw [hs4]
    simp only [List.map_cons, List.map_nil]
    rfl
  · obtain ⟨t1, ht1, rfl⟩ := List.mem_map.1 ht
    obtain ⟨t2, ht2, rfl⟩ := List.mem_map.1 ht1
    show (t2.qs.filter _) = []
    obtain ⟨i, hi', he⟩ := List.getElem_of_mem ht2
    have hg : (P3.set a s4)[i]? = some t2 := by rw [List.getElem?_eq_getElem hi', he]
    by_cases e : a = i
    · subst e
      rw [List.getElem?_set_self (by omega)] at hg
      cases hg
      have hq4 : s4.qs = [⟨sb.n, sb.d, 1⟩] := by rw [hs4, hs0]
      rw [hq4, List.filter_cons_of_neg (by simp only; rw [h4h]; simp), List.filter_nil]
    · rw [List.getElem?_set_ne e] at hg
      rw [p3o i t2 hg (Ne.symm e)]
      rfl
end
end Go.AM.X
namespace Go.AM.X
open Go Go.AM Go.Proofs Go.AM.Sx
set_option maxHeartbeats 12800000
set_option maxRecDepth 100000
set_option linter.unusedVariables false
theorem F5 : F 5 = some { body := (Try.f5.body.getD .skip), results := Try.f5.results.toList, rf := false } := by kernel_rfl
theorem R5 : regsOk T (Try.f5.body.getD .skip) = true := by kernel_rfl
def look2 (r : Rs) : AV × Option AB × Option AB × Bool := match r with
  | some (v, H) => (v, H.get 0, H.get 1, Nat.ble 3 H.next)
  | none => (.bad, none, none, false)
theorem look2_some {r : Rs} {v : AV} {x y : AB} (hv : v ≠ .bad) (h : look2 r = (v, some x, some y, true)) : ∃ H, r = some (v, H) ∧ H.get 0 = some x ∧ H.get 1 = some y ∧ 3 ≤ H.next := by
  cases r with
  | none => simp [look2] at h
  | some p =>
    obtain ⟨v', H⟩ := p
    simp only [look2, Prod.mk.injEq] at h
    exact ⟨H, by rw [h.1], h.2.1, h.2.2.1, Nat.le_of_ble_eq_true h.2.2.2⟩
theorem run19b (m : Nat) (lo hi : Int) (v : AV) (w0 w1 : Int) : ∃ H, call F Ip T (m + 60) 19 [.fn 37 [] [.ptr 2 0]] (((e0.alloc (.cells [.int .i64 lo, .int .i64 hi, v] .own)).alloc (.cells [.int .u8 w0, .int .u8 w1] .own)).alloc (.cells [.nils] .own)) = some (.nils, H) ∧ H.get 0 = some (.cells [.int .i64 lo, .int .i64 hi, v] .own) ∧ H.get 1 = some (.cells [.int .u8 w0, .int .u8 w1] .own) ∧ 3 ≤ H.next :=
  look2_some (by simp) (by kernel_rfl)
theorem run6okb (m : Nat) (lo hi : Int) (v : AV) (w0 w1 : Int) (hl : okL lo hi) : ∃ h2 p off, call F Ip T (m + 62) 6 [.int .i64 lo, .int .i64 hi, .nils] ((e0.alloc (.cells [.int .i64 lo, .int .i64 hi, v] .own)).alloc (.cells [.int .u8 w0, .int .u8 w1] .own)) = some (.tup [.ptr p 0, .int .i64 0], h2) ∧ Lk h2 p lo hi [] off ∧ h2.get 1 = some (.cells [.int .u8 w0, .int .u8 w1] .own) ∧ off 1 ∧ 1 < h2.next := by
  have h6 : Ip 6 = none := rfl
  have h20 : Ip 20 = none := rfl
  obtain ⟨H, k1, k2, k2', k3⟩ := run19b (m + 1) lo hi v w0 w1
  have hne : ¬ 1 = H.next := by omega
  refine ⟨_, _, _, ?_, Lk.begin H lo hi, by rw [AH.get_alloc, if_neg hne]; exact k2', by show (if 1 = H.next then 1 else 0) = 0; rw [if_neg hne], by simp; omega⟩
  unfold okL at hl
  have c1 : ¬ lo < 1 := by omega
  have c2 : ¬ hi < lo := by omega
  have c3 : ¬ 65279 < hi := by omega
  have k20 : call F Ip T (m + 61) 20 [.nils] ((e0.alloc (.cells [.int .i64 lo, .int .i64 hi, v] .own)).alloc (.cells [.int .u8 w0, .int .u8 w1] .own)) = some (.fn 37 [] [.ptr 2 0], ((e0.alloc (.cells [.int .i64 lo, .int .i64 hi, v] .own)).alloc (.cells [.int .u8 w0, .int .u8 w1] .own)).alloc (.cells [.nils] .own)) := by
    rw [call_F (by decide) h20 F20 rfl R20]; simp only [Try.f20, Option.getD]
    simp +contextual (maxSteps := 3000000) only [↓code_seq, ↓code_region, ↓code_ret, ↓ops_nil, ↓ops_cons, run_none, ↓run0_v, ↓run0_r, ↓seqK_normal, ↓retK_ret, put_same, put_ne, env0_at, ev_tmp, ev_const, oc_nilf, o_assign, o_box, o_makeFunc, g_none, next_e0, resultsOf, oneOrAll, Option.map_some, Option.getD_some, Nat.reduceEqDiff, not_false_eq_true, Nat.reduceAdd, List.getElem?_cons_zero, List.map_cons, List.map_nil, AH.next_alloc, ne_eq, box_nils]
    first
    | rfl
    | skip
  rw [call_F (by decide) h6 F6 rfl R6]; simp only [Try.f6, Option.getD]
  simp +contextual (maxSteps := 3000000) only [↓code_skip, ↓code_seq, ↓code_region, ↓code_cond, ↓code_ret, aCond_bool, ↓ops_nil, ↓ops_cons, run_none, run_someF, ↓run0_v, ↓run0_r, ↓seqK_normal, ↓retK_ret, put_same, put_ne, env0_at, ev_tmp, ev_const, ev_func, oc_int, oc_bool, oc_nilp, o_move, o_assign, o_pick, o_bin, o_call, o_box, o_build, g_none, g_some, pick_bool, bin_lss, bin_gtr, resultsOf, oneOrAll, Option.bind_some, Option.map_some, Option.getD_some, ↓reduceIte, Nat.reduceEqDiff, not_false_eq_true, Nat.reduceAdd, reduceCtorEq, List.getElem?_cons_zero, List.getElem?_cons_succ, List.getElem?_toArray, Bool.false_eq_true, List.map_cons, List.map_nil, List.append_nil, List.nil_append, List.cons_append, and_true, Nat.reduceLeDiff, gt_iff_lt, ne_eq, build_struct T58 d58, z58, parts_eq, fillA, AV.cells, AH.splice, List.take_succ_cons, List.take_zero, List.drop_succ_cons, List.drop_zero, List.length_cons, List.length_nil, p58_0, p58_1, p58_2, box_agg, c1, c2, c3, decide_false, k20, k1, callV_fn (g := 20) (by decide), callV_fn (g := 19) (by decide)]
def rE (r : List Int) : List AV := [rowV r]
theorem rE_len (r : List Int) : (rE r).length = 1 := rfl
theorem loadRow {l : List (List Int)} {i : Nat} {a : List Int} (hx : l[i]? = some a) : ∃ pl, aIndexAddr T 46 (.lst false 1 l.length (fl rE l)) (.int .i64 (i : Nat)) = some (.fp pl) ∧ pl[0]? = some (rowV a) := by
  have hi := (List.getElem?_eq_some_iff.1 hx).1
  have h1 := fl_at rE 1 rE_len hx []
  rw [List.append_nil] at h1
  refine ⟨(fl rE l).drop (i * 1), ?_, ?_⟩
  · rw [ia_lst T46 d46 T22 s22, if_pos ⟨by omega, by omega⟩]; simp
  · have := congrArg (fun l => l[0]?) h1
    simp only [List.getElem?_take] at this
    rw [if_pos (by decide)] at this
    exact this
/-- A station that has begun to probe. -/
def pR (r : List Int) : Sn := ⟨rowV r, r, 1, 0, 0, 0, 0, [], []⟩
theorem addProbeR (S : List Sn) (r : List Int) : updI (S ++ [newS (rowV r) r]) S.length probeF = S ++ [pR r] := by
  have h1 : (S ++ [newS (rowV r) r])[S.length]? = some (newS (rowV r) r) := by
    rw [List.getElem?_append_right (Nat.le_refl _)]; simp
  rw [updI_at h1, List.set_append_right _ _ (Nat.le_refl _), Nat.sub_self, List.set_cons_zero]
  rfl
theorem pR_calm (lo hi : Int) (rows : List (List Int)) (hr : ∀ r ∈ rows, RowB r) : Calm lo hi (rows.map pR) where
  q := fun s hs => by obtain ⟨r, _, rfl⟩ := List.mem_map.1 hs; exact ⟨rfl, rfl⟩
  al := fun i j s t _ hs ht h1 h2 => by
    obtain ⟨r, _, rfl⟩ := List.mem_map.1 (List.mem_of_getElem? hs)
    exact absurd h1 (show ¬ (1 : Int) = 2 by decide)
  nm := fun s hs => by obtain ⟨r, _, rfl⟩ := List.mem_map.1 hs; unfold Nm pR; simp
  rb := fun s hs => by obtain ⟨r, hr', rfl⟩ := List.mem_map.1 hs; exact hr r hr'
  ad := fun s hs h => by
    obtain ⟨r, _, rfl⟩ := List.mem_map.1 hs
    exact absurd h (show ¬ (1 : Int) = 2 by decide)
theorem law5 (m : Nat) (lo hi : Int) (lost : List Int) (rows : List (List Int)) (w0 w1 : Int) (hrl : rows.length ≤ 1000000000000000) (hrb : ∀ r ∈ rows, RowB r ∧ r.length * 8 ≤ 140737488355328) (hw0 : 0 ≤ w0 ∧ w0 ≤ 255) (hw1 : 0 ≤ w1 ∧ w1 ≤ 255) (hm : 160000000 ≤ m ∧ m ≤ 800000000) :
    ∃ h', call F Ip T (m + 304) 5 [.agg [.int .i64 lo, .int .i64 hi, rowV lost], .lst false 1 rows.length (fl rE rows), .agg [.int .u8 w0, .int .u8 w1]] e0 = some (.bool true, h') := by
  have h5 : Ip 5 = none := rfl
  have hlen : ∀ h, aLen T 46 (.lst false 1 rows.length (fl rE rows)) h = some (.int .i64 (rows.length : Nat)) := fun h => by simp [aLen, T46, d46]
  have ia := fun i a (ha : rows[i]? = some a) => loadRow ha
  obtain ⟨VL, hVL⟩ : ∃ VL, VL = AV.lst false 1 rows.length (fl rE rows) := ⟨_, rfl⟩
  rw [← hVL] at hlen ia ⊢
  obtain ⟨VW, hVW⟩ : ∃ VW, VW = rowV lost := ⟨_, rfl⟩
  rw [← hVW]
  have hcV : VW.cells = some [VW] ∧ VW.one = true := by rw [hVW]; exact ⟨rfl, rfl⟩
  have k7 := fun h => K7 (m + 302) h
  obtain ⟨Qf, hQf⟩ : ∃ Qf : Rs → Prop, Qf = fun r => ∃ h', r = some (.bool true, h') := ⟨_, rfl⟩
  suffices hh : Qf (call F Ip T (m + 304) 5 [.agg [.int .i64 lo, .int .i64 hi, VW], VL, .agg [.int .u8 w0, .int .u8 w1]] e0) by rw [hQf] at hh; exact hh
  have yes : ∀ h, Qf (some (.bool true, h)) := fun h => by rw [hQf]; exact ⟨_, rfl⟩
  by_cases hok : okL lo hi
  rotate_left
  · have k6 := run6no (m + 241) lo hi ((e0.alloc (.cells [.int .i64 lo, .int .i64 hi, VW] .own)).alloc (.cells [.int .u8 w0, .int .u8 w1] .own)) hok
    rw [call_F (by decide) h5 F5 rfl R5]; simp only [Try.f5, Option.getD]
    simp +contextual (maxSteps := 3000000) only [↓code_skip, ↓code_seq, ↓code_region, ↓code_cond, ↓code_ret, aCond_bool, ↓ops_nil, ↓ops_cons, run_none, run_someF, ↓run0_v, ↓run0_r, ↓seqK_normal, ↓seqK_ret, ↓retK_ret, put_same, put_ne, env0_at, ev_tmp, ev_const, ev_func, oc_int, oc_bool, oc_nils, oc_nilp, o_move, o_assign, o_pick, o_bin, o_call, o_len, o_box, o_load, o_fieldAddr, o_extract, g_none, g_some, pick_bool, bin_neq, extract_tup, next_e0, resultsOf, oneOrAll, Option.bind_some, Option.map_some, Option.getD_some, ↓reduceIte, Nat.reduceEqDiff, not_false_eq_true, reduceCtorEq, List.getElem?_cons_zero, List.getElem?_cons_succ, List.getElem?_toArray, List.map_cons, List.map_nil, List.append_nil, List.nil_append, AH.get_alloc, AH.next_alloc, Bool.not_eq_eq_eq_not, Bool.not_true, Bool.not_false, ne_eq, decide_eq_false_iff_not, box_agg, fa_ptr T24 p24_0 (by decide), load_p1 T3 a3, loadc_def, fa_ptr T24 p24_1 (by decide), nn_eql T25 d25, Nat.zero_add, Nat.add_zero, k6, k7, decide_false, callV_fn (g := 6) (by decide), callV_fn (g := 7) (by decide)]
    exact yes _
  obtain ⟨H, p, off0, k6, hL0, gB, oB, nB⟩ := run6okb (m + 241) lo hi VW w0 w1 hok
  have hlb : 1 ≤ lo ∧ lo ≤ hi ∧ hi ≤ 65279 := hok
  have hl0 : ¬ lo = 0 := by omega
  rw [call_F (by decide) h5 F5 rfl R5]; simp only [Try.f5, Option.getD]
  by_cases c1 : (rows.length : Int) < 2
  · simp +contextual (maxSteps := 3000000) only [↓code_seq, ↓code_region, ↓code_cond, ↓code_ret, aCond_bool, ↓ops_nil, ↓ops_cons, run_none, run_someF, ↓run0_v, ↓run0_r, ↓seqK_normal, ↓seqK_ret, ↓retK_ret, put_same, put_ne, env0_at, ev_tmp, ev_const, ev_func, oc_int, oc_bool, oc_nils, o_move, o_assign, o_pick, o_bin, o_call, o_len, o_box, o_load, o_fieldAddr, o_extract, g_none, g_some, pick_bool, bin_neq, bin_lss, extract_tup, next_e0, resultsOf, oneOrAll, Option.bind_some, Option.map_some, Option.getD_some, ↓reduceIte, Nat.reduceEqDiff, not_false_eq_true, reduceCtorEq, List.getElem?_cons_zero, List.getElem?_cons_succ, List.getElem?_toArray, Bool.false_eq_true, List.map_cons, List.map_nil, List.append_nil, List.nil_append, AH.get_alloc, AH.next_alloc, Bool.not_true, ne_eq, box_agg, fa_ptr T24 p24_0 (by decide), load_p1 T3 a3, loadc_def, fa_ptr T24 p24_1 (by decide), Nat.zero_add, Nat.add_zero, k6, k7, hlen, eq_true c1, decide_true, callV_fn (g := 6) (by decide), callV_fn (g := 7) (by decide)]
    exact yes _
  by_cases c2 : (10 : Int) < (rows.length : Int)
  · simp +contextual (maxSteps := 3000000) only [↓code_seq, ↓code_region, ↓code_cond, ↓code_ret, aCond_bool, ↓ops_nil, ↓ops_cons, run_none, run_someF, ↓run0_v, ↓run0_r, ↓seqK_normal, ↓seqK_ret, ↓retK_ret, put_same, put_ne, env0_at, ev_tmp, ev_const, ev_func, oc_int, oc_bool, oc_nils, o_move, o_assign, o_pick, o_bin, o_call, o_len, o_box, o_load, o_fieldAddr, o_extract, g_none, g_some, pick_bool, bin_neq, bin_lss, bin_gtr, extract_tup, next_e0, resultsOf, oneOrAll, Option.bind_some, Option.map_some, Option.getD_some, ↓reduceIte, Nat.reduceEqDiff, not_false_eq_true, reduceCtorEq, List.getElem?_cons_zero, List.getElem?_cons_succ, List.getElem?_toArray, Bool.false_eq_true, List.map_cons, List.map_nil, List.append_nil, List.nil_append, AH.get_alloc, AH.next_alloc, gt_iff_lt, Bool.not_true, ne_eq, box_agg, fa_ptr T24 p24_0 (by decide), load_p1 T3 a3, loadc_def, fa_ptr T24 p24_1 (by decide), Nat.zero_add, Nat.add_zero, k6, k7, hlen, c1, eq_true c2, decide_true, decide_false, callV_fn (g := 6) (by decide), callV_fn (g := 7) (by decide)]
    exact yes _
  simp +contextual (maxSteps := 3000000) only [↓code_skip, ↓code_seq, ↓code_region, ↓code_cond, ↓code_block, ↓code_loop, aCond_bool, ↓ops_nil, ↓ops_cons, run_none, run_someF, ↓run0_v, ↓run0_r, ↓seqK_normal, put_same, put_ne, env0_at, ev_tmp, ev_const, ev_func, oc_int, oc_bool, oc_nils, oc_nilp, o_move, o_assign, o_pick, o_bin, o_call, o_len, o_box, o_load, o_fieldAddr, o_extract, g_none, g_some, pick_bool, bin_neq, bin_lss, bin_gtr, extract_tup, next_e0, Option.bind_some, Option.getD_some, ↓reduceIte, Nat.reduceEqDiff, not_false_eq_true, reduceCtorEq, List.getElem?_cons_zero, List.getElem?_cons_succ, List.getElem?_toArray, Bool.false_eq_true, List.map_cons, List.map_nil, List.append_nil, List.nil_append, AH.get_alloc, AH.next_alloc, gt_iff_lt, Bool.not_true, ne_eq, box_agg, fa_ptr T24 p24_0 (by decide), load_p1 T3 a3, loadc_def, fa_ptr T24 p24_1 (by decide), pn_eql T25 d25, Nat.zero_add, Nat.add_zero, k6, hlen, c1, c2, decide_true, decide_false, callV_fn (g := 6) (by decide)]
  obtain ⟨n, hn⟩ : ∃ n, n = rows.length := ⟨_, rfl⟩
  rw [← hn] at hlen
  have hn2 : 2 ≤ n ∧ n ≤ 10 := by omega
  refine iterL_wp (Q := fun r => Qf r) (N := n) (Inv := fun k e h' => ∃ i off, k + i = n ∧ Lk h' p lo hi ((rows.take i).map pR) off ∧ (h'.get 1 = some (.cells [.int .u8 w0, .int .u8 w1] .own) ∧ off 1 ∧ 1 < h'.next) ∧ i ≤ n ∧ e 1 = VL ∧ e 5 = .ptr 1 0 ∧ e 7 = .ptr p 0 ∧ e 9 = .int .i64 (i : Nat)) ?_ ?_ (show n < m + 303 by omega)
  · rintro k e h' K' ⟨i, off, hk, hL, hb, hil, e1, e5, e7, e9⟩ hnext hexit
    by_cases hi' : i < n
    · have d1 : (i : Int) < (n : Int) := by omega
      have d7 : IntKind.i64.wrap ((i : Int) + 1) = ((i + 1 : Nat) : Int) := by rw [wrap_i64 (by omega) (by omega)]; rfl
      obtain ⟨rw', hrw⟩ : ∃ rw', rows[i]? = some rw' := ⟨rows[i]'(by omega), List.getElem?_eq_getElem (by omega)⟩
      obtain ⟨pl, x1, x2⟩ := ia i rw' hrw
      have hSl : ((rows.take i).map pR).length = i := by rw [List.length_map, List.length_take]; omega
      obtain ⟨h2, off2, k1, k2, k3⟩ := V8 (I := Ip) rfl rfl rfl (m + 298) p lo hi ((rows.take i).map pR) (rowV rw') rw' off h' hL hl0 (.inr rfl) (hrb rw' (List.mem_of_getElem? hrw)).2 (by omega)
      rw [hSl] at k1
      obtain ⟨h4, off4, l1, l2, l3⟩ := V9 (I := Ip) rfl rfl rfl rfl (m + 298) p (i : Nat) lo hi _ off2 h2 k2 hl0
      have hbad : bad ((rows.take i).map pR ++ [newS (rowV rw') rw']).length (i : Nat) = 0 := by
        unfold bad; rw [List.length_append, hSl, if_neg]; simp; omega
      rw [hbad] at l1 l2
      have htk : (rows.take (i + 1)).map pR = (rows.take i).map pR ++ [pR rw'] := by rw [List.take_add_one, hrw, List.map_append]; rfl
      have hap := addProbeR ((rows.take i).map pR) rw'
      rw [hSl] at hap
      rw [if_pos rfl, Int.toNat_natCast, hap, ← htk] at l2
      have z0 : (i : Int) = (i : Int) := rfl
      simp +contextual (maxSteps := 3000000) only [↓code_skip, ↓code_seq, ↓code_region, ↓code_cond, ↓code_block, aCond_bool, ↓ops_nil, ↓ops_cons, run_none, run_someF, ↓run0_v, ↓run0_r, ↓seqK_normal, ↓blkK_normal, put_same, put_ne, ev_tmp, ev_const, ev_func, oc_int, oc_bool, o_move, o_assign, o_pick, o_bin, o_call, o_len, o_load, o_indexAddr, o_extract, g_none, g_some, pick_bool, bin_add, bin_neq, bin_lss, extract_tup, Option.bind_some, ↓reduceIte, Nat.reduceEqDiff, not_false_eq_true, List.getElem?_cons_zero, List.getElem?_cons_succ, List.getElem?_toArray, Bool.false_eq_true, List.map_cons, List.map_nil, List.append_nil, List.nil_append, Bool.not_true, ne_eq, load_fp1 T22 a22, e1, e7, e9, d1, hlen, x1, x2, k1, l1, d7, decide_true, callV_fn (g := 8) (by decide), callV_fn (g := 9) (by decide)]
      refine hnext (k - 1) _ _ (by omega) ⟨i + 1, off4, by omega, ?_, ?_, ?_, ?_, ?_, ?_, ?_⟩
      · exact l2
      · exact boxS (k3.trans l3) hb
      · omega
      · simp only [put_ne, Nat.reduceEqDiff, not_false_eq_true, ne_eq, e1]
      · simp only [put_ne, Nat.reduceEqDiff, not_false_eq_true, ne_eq, e5]
      · simp only [put_ne, Nat.reduceEqDiff, not_false_eq_true, ne_eq, e7]
      · simp only [put_same]
    · have d1 : ¬ (i : Int) < (n : Int) := by omega
      have hin : i = n := by omega
      rw [List.take_of_length_le (by omega)] at hL
      simp +contextual (maxSteps := 3000000) only [↓code_seq, ↓code_region, ↓code_cond, ↓code_exit, aCond_bool, ↓ops_nil, ↓ops_cons, run_none, ↓run0_v, ↓seqK_normal, ↓seqK_exit, put_same, put_ne, ev_tmp, o_move, o_bin, o_len, g_none, bin_lss, decide_eq_true_eq, ↓reduceIte, Nat.reduceEqDiff, not_false_eq_true, ne_eq, e1, e9, d1, hlen]
      refine hexit _ _ _ (by simp) ?_
      simp +contextual (maxSteps := 3000000) only [↓code_seq, ↓code_region, ↓code_block, ↓code_loop, ↓ops_nil, ↓ops_cons, run_none, ↓run0_v, ↓seqK_normal, ↓blkK_exit, ev_const, oc_int, o_assign, g_none, ↓reduceIte]
      refine iterL_wp (Q := fun r => Qf r) (N := 400) (Inv := fun k e h' => ∃ x S off2, k + x = 400 ∧ Lk h' p lo hi S off2 ∧ (h'.get 1 = some (.cells [.int .u8 w0, .int .u8 w1] .own) ∧ off2 1 ∧ 1 < h'.next) ∧ (Calm lo hi S ∧ S.length = n) ∧ x ≤ 400 ∧ e 1 = VL ∧ e 5 = .ptr 1 0 ∧ e 7 = .ptr p 0 ∧ e 12 = .int .i64 (x : Nat)) ?_ ?_ (show 400 < m + 303 by omega)
      · rintro k e h' K' ⟨x, S, off2, hk, hL2, hb2, hC, hxl, e1, e5, e7, e12⟩ hnext hexit
        obtain ⟨hC, hSn⟩ := hC
        have q1 := V10 (I := Ip) rfl rfl rfl rfl rfl (m + 1) p lo hi _ off2 h' hL2 hl0 (by omega)
        by_cases hx : (x : Int) < 400
        · cases hbz : S.any busy
          · rw [hbz] at q1
            simp +contextual (maxSteps := 3000000) only [↓code_seq, ↓code_region, ↓code_cond, ↓code_exit, aCond_bool, ↓ops_nil, ↓ops_cons, run_none, run_someT, ↓run0_v, ↓run0_r, ↓seqK_normal, ↓seqK_exit, put_same, put_ne, ev_tmp, ev_const, ev_func, oc_int, oc_bool, o_move, o_pick, o_bin, o_call, o_un, g_none, g_some, pick_bool, bin_lss, un_not, Option.bind_some, ↓reduceIte, Nat.reduceEqDiff, not_false_eq_true, List.getElem?_cons_zero, List.getElem?_cons_succ, List.getElem?_toArray, Bool.false_eq_true, List.map_cons, List.map_nil, List.append_nil, List.nil_append, Bool.not_true, Bool.not_false, ne_eq, e7, e12, eq_true hx, q1, decide_true, callV_fn (g := 10) (by decide)]
            refine hexit _ _ _ (by simp) ?_
            obtain ⟨A, hA⟩ : ∃ A, A = w0.toNat % n := ⟨_, rfl⟩
            obtain ⟨Bn, hBn⟩ : ∃ Bn, Bn = w1.toNat % n := ⟨_, rfl⟩
            have hAl : A < n := by rw [hA]; exact Nat.mod_lt _ (by omega)
            have hBl : Bn < n := by rw [hBn]; exact Nat.mod_lt _ (by omega)
            have v0 : IntKind.i64.wrap w0 = w0 := wrap_i64 (by omega) (by omega)
            have v1 : IntKind.i64.wrap w1 = w1 := wrap_i64 (by omega) (by omega)
            have v2 : w0.tmod (n : Int) = (A : Int) := by rw [Int.tmod_eq_emod_of_nonneg hw0.1, hA, Int.natCast_emod, Int.toNat_of_nonneg hw0.1]
            have v3 : w1.tmod (n : Int) = (Bn : Int) := by rw [Int.tmod_eq_emod_of_nonneg hw1.1, hBn, Int.natCast_emod, Int.toNat_of_nonneg hw1.1]
            have v4 : ¬ (n : Int) = 0 := by omega
            have v5 : aIndexAddr T 47 (.ptr 1 0) (.int .i64 0) = some (.ptr 1 0) := by rw [ia_arr T47 d47 T5, if_pos (by decide), s5]; rfl
            have v6 : aIndexAddr T 47 (.ptr 1 0) (.int .i64 1) = some (.ptr 1 1) := by rw [ia_arr T47 d47 T5, if_pos (by decide), s5]; rfl
            obtain ⟨sa, hsa⟩ : ∃ sa, S[A]? = some sa := ⟨S[A]'(by omega), List.getElem?_eq_getElem (by omega)⟩
            obtain ⟨sb, hsb⟩ : ∃ sb, S[Bn]? = some sb := ⟨S[Bn]'(by omega), List.getElem?_eq_getElem (by omega)⟩
            have g1 := hb2.1
            obtain ⟨h2, nb, db, k1, k2, k3⟩ := V12 (I := Ip) rfl rfl rfl (m + 298) p Bn lo hi S sb off2 h' hL2 hl0 hsb
            have hL3 := hL2.grow k2
            obtain ⟨h3, y1, y2, y3, y4⟩ := store_a2 h2 nb db
            have hL4 := hL3.grow y4
            obtain ⟨h4, na, da, l1, l2, l3⟩ := V12 (I := Ip) rfl rfl rfl (m + 298) p A lo hi S sa off2 h3 hL4 hl0 hsa
            have hL5 := hL4.grow l2
            obtain ⟨h5, zz1, zz2, zz3, zz4⟩ := store_a2 h4 na da
            have hL6 := hL5.grow zz4
            have y5 : h5.get h2.next = some (.cells [.int .i64 nb, .int .i64 db] .own) := ((l2.trans zz4).2 _ (by omega)).trans y3
            have ok1 : off2 h2.next := hL3.off_ge (Nat.le_refl _)
            have ok2 : h2.next < h5.next := Nat.lt_of_lt_of_le (by omega) (l2.trans zz4).1
            by_cases cab : A = Bn
            · have cab' : (A : Int) = (Bn : Int) := by rw [cab]
              simp +contextual (maxSteps := 3000000) only [↓code_seq, ↓code_region, ↓code_cond, ↓code_ret, aCond_bool, ↓ops_nil, ↓ops_cons, run_none, run_someF, ↓run0_v, ↓run0_h, ↓run0_r, ↓seqK_normal, ↓seqK_ret, ↓blkK_exit, ↓retK_ret, put_same, put_ne, put_none, ev_tmp, ev_const, ev_func, oc_int, oc_bool, o_move, o_assign, o_pick, o_bin, o_call, o_len, o_alloc, o_load, o_store, o_un, o_convert, o_indexAddr, o_extract, g_none, g_some, pick_bool, bin_rem, bin_eql, extract_tup, resultsOf, oneOrAll, Option.bind_some, Option.map_some, ↓reduceIte, Nat.reduceEqDiff, not_false_eq_true, List.getElem?_cons_zero, List.getElem?_cons_succ, List.getElem?_toArray, List.map_cons, List.map_nil, List.append_nil, List.nil_append, ne_eq, loadc_def, load_p1 T5 a5, conv_int T5 T3 d3, alloc_t T35, z35, e1, e5, e7, hlen, g1, v5, v6, v0, v1, v2, v3, v4, k1, y1, l1, zz1, eq_true cab', k7, decide_true, callV_fn (g := 12) (by decide), callV_fn (g := 7) (by decide)]
              exact yes _
            have cab' : ¬ (A : Int) = (Bn : Int) := by omega
            by_cases csb : sb.st = 2
            rotate_left
            · simp +contextual (maxSteps := 3000000) only [↓code_seq, ↓code_region, ↓code_cond, ↓code_ret, aCond_bool, ↓ops_nil, ↓ops_cons, run_none, run_someF, ↓run0_v, ↓run0_h, ↓run0_r, ↓seqK_normal, ↓seqK_ret, ↓blkK_exit, ↓retK_ret, put_same, put_ne, put_none, ev_tmp, ev_const, ev_func, oc_int, oc_bool, o_move, o_assign, o_pick, o_bin, o_call, o_len, o_alloc, o_load, o_store, o_un, o_convert, o_indexAddr, o_extract, g_none, g_some, pick_bool, bin_rem, bin_eql, un_not, extract_tup, resultsOf, oneOrAll, Option.bind_some, Option.map_some, ↓reduceIte, Nat.reduceEqDiff, not_false_eq_true, List.getElem?_cons_zero, List.getElem?_cons_succ, List.getElem?_toArray, Bool.false_eq_true, List.map_cons, List.map_nil, List.append_nil, List.nil_append, Bool.not_false, ne_eq, loadc_def, load_p1 T5 a5, conv_int T5 T3 d3, alloc_t T35, z35, e1, e5, e7, hlen, g1, v5, v6, v0, v1, v2, v3, v4, k1, y1, l1, zz1, cab', csb, k7, decide_false, callV_fn (g := 12) (by decide), callV_fn (g := 7) (by decide)]
              exact yes _
            by_cases csa : sa.st = 2
            rotate_left
            · simp +contextual (maxSteps := 3000000) only [↓code_seq, ↓code_region, ↓code_cond, ↓code_ret, aCond_bool, ↓ops_nil, ↓ops_cons, run_none, run_someF, ↓run0_v, ↓run0_h, ↓run0_r, ↓seqK_normal, ↓seqK_ret, ↓blkK_exit, ↓retK_ret, put_same, put_ne, put_none, ev_tmp, ev_const, ev_func, oc_int, oc_bool, o_move, o_assign, o_pick, o_bin, o_call, o_len, o_alloc, o_load, o_store, o_un, o_convert, o_indexAddr, o_extract, g_none, g_some, pick_bool, bin_rem, bin_eql, un_not, extract_tup, resultsOf, oneOrAll, Option.bind_some, Option.map_some, ↓reduceIte, Nat.reduceEqDiff, not_false_eq_true, List.getElem?_cons_zero, List.getElem?_cons_succ, List.getElem?_toArray, Bool.false_eq_true, List.map_cons, List.map_nil, List.append_nil, List.nil_append, Bool.not_true, Bool.not_false, ne_eq, loadc_def, load_p1 T5 a5, conv_int T5 T3 d3, alloc_t T35, z35, e1, e5, e7, hlen, g1, v5, v6, v0, v1, v2, v3, v4, k1, y1, l1, zz1, cab', eq_true csb, csa, k7, decide_true, decide_false, callV_fn (g := 12) (by decide), callV_fn (g := 7) (by decide)]
              exact yes _
            obtain ⟨enb, edb⟩ := k3 csb
            subst enb
            subst edb
            have hcalm := hC.asked cab hsa hsb csa csb
            have hac : askC lo hi sb.n sb.d sa = true := by unfold askC; rw [decide_eq_true csa, hC.ad sb (List.mem_of_getElem? hsb) csb]; rfl
            have hqa := hC.q sa (List.mem_of_getElem? hsa)
            obtain ⟨h6, off6, aa1, aa2, aa3⟩ := V15 (I := Ip) rfl rfl rfl rfl rfl rfl rfl rfl rfl rfl (m + 203) p A lo hi sb.n sb.d S sa off2 h5 hL6 hl0 hsa ⟨⟨by rw [hqa.2]; exact Nat.zero_le _, by rw [hqa.2]; exact Nat.zero_le _⟩, by rw [hqa.1]; exact Nat.zero_le _, by rw [hqa.1]; exact Nat.zero_le _⟩
            rw [hac, if_pos rfl, hcalm.2] at aa2
            rw [hac, if_pos rfl] at aa1
            obtain ⟨S1, hS1⟩ : ∃ S1, S1 = S.set A { sa with qs := [⟨sb.n, sb.d, 0⟩] } := ⟨_, rfl⟩
            rw [← hS1] at aa2
            have hS1l : S1.length = n := by rw [hS1, List.length_set]; exact hSn
            have in1 : ∀ s ∈ S1, Nm s ∧ s.hs.length ≤ 0 ∧ s.qs.length ≤ 1 := fun s hs => by
              rw [hS1] at hs
              rcases List.mem_or_eq_of_mem_set hs with g | g
              · exact ⟨hC.nm s g, by rw [(hC.q s g).2]; exact Nat.le_refl _, by rw [(hC.q s g).1]; exact Nat.zero_le _⟩
              · rw [g]; exact ⟨hC.nm sa (List.mem_of_getElem? hsa), by rw [hqa.2]; exact Nat.le_refl _, Nat.le_refl _⟩
            obtain ⟨h7, off7, bb1, bb2, bb3⟩ := V11 (I := Ip) rfl rfl rfl rfl rfl rfl rfl rfl rfl rfl rfl rfl rfl rfl rfl rfl rfl rfl rfl rfl rfl rfl (m + 2) p lo hi S1 off6 h6 0 1 aa2 hlb (by omega) (fun s hs => (in1 s hs).1) (fun s hs => (in1 s hs).2.1) (fun s hs => (in1 s hs).2.2) ⟨by omega, by omega⟩
            obtain ⟨⟨t, ht, hth⟩, hnq⟩ := hC.told cab hsa hsb csa csb
            rw [← hS1] at ht hnq
            obtain ⟨S2, hS2⟩ : ∃ S2, S2 = stepS lo hi S1 := ⟨_, rfl⟩
            rw [← hS2] at ht hnq bb2
            have hS2l : S2.length = n := by rw [hS2, stepS_len]; exact hS1l
            have bx6 := boxS aa3 ⟨y5, ok1, ok2⟩
            have bx7 := boxS bb3 bx6
            simp +contextual (maxSteps := 3000000) only [↓code_skip, ↓code_seq, ↓code_region, ↓code_cond, ↓code_block, ↓code_loop, aCond_bool, ↓ops_nil, ↓ops_cons, run_none, run_someF, ↓run0_v, ↓run0_h, ↓run0_r, ↓seqK_normal, ↓blkK_exit, put_same, put_ne, put_none, ev_tmp, ev_const, ev_func, oc_int, oc_bool, o_move, o_assign, o_pick, o_bin, o_call, o_len, o_alloc, o_load, o_store, o_un, o_convert, o_indexAddr, o_extract, g_none, g_some, pick_bool, bin_rem, bin_eql, bin_neq, un_not, extract_tup, Option.bind_some, Option.map_some, ↓reduceIte, Nat.reduceEqDiff, not_false_eq_true, Nat.reduceAdd, List.getElem?_cons_zero, List.getElem?_cons_succ, List.getElem?_toArray, Bool.false_eq_true, List.map_cons, List.map_nil, List.append_nil, List.nil_append, Nat.le_refl, Bool.not_true, ne_eq, loadc_def, load_p1 T5 a5, conv_int T5 T3 d3, alloc_t T35, z35, load_pA T35 a35, s35, loadn_def, List.length_cons, List.length_nil, List.drop_zero, List.take_succ_cons, List.take_nil, Nat.zero_add, e1, e5, e7, hlen, g1, v5, v6, v0, v1, v2, v3, v4, k1, y1, l1, zz1, cab', eq_true csb, eq_true csa, y5, aa1, bb1, decide_true, decide_false, callV_fn (g := 12) (by decide), callV_fn (g := 15) (by decide), callV_fn (g := 11) (by decide)]
            refine iterL_wp (Q := fun r => Qf r) (N := n) (Inv := fun k e h' => ∃ u, k + u = n ∧ h' = h7 ∧ u ≤ n ∧ e 1 = VL ∧ e 7 = .ptr p 0 ∧ e 13 = .int .i64 (A : Nat) ∧ e 14 = .int .i64 (Bn : Nat) ∧ e 15 = .ptr h2.next 0 ∧ e 19 = .bool ((S2.take u).any fun s => decide (s.st = 1)) ∧ e 20 = .int .i64 (u : Nat)) ?_ ?_ (show n < m + 303 by omega)
            · rintro k e h' K' ⟨u, hk, hh, hul, e1, e7, e13, e14, e15, e19, e20⟩ hnext hexit
              rw [hh]
              by_cases hu : u < n
              · have s1' : (u : Int) < (n : Int) := by omega
                have s7 : IntKind.i64.wrap ((u : Int) + 1) = ((u + 1 : Nat) : Int) := by rw [wrap_i64 (by omega) (by omega)]; rfl
                obtain ⟨s, hs⟩ : ∃ s, S2[u]? = some s := ⟨S2[u]'(by omega), List.getElem?_eq_getElem (by omega)⟩
                have q2 := V17 (I := Ip) rfl rfl rfl (m + 298) p u lo hi S2 s off7 h7 bb2 hl0 hs
                have htk : (S2.take (u + 1)).any (fun s => decide (s.st = 1)) = ((S2.take u).any (fun s => decide (s.st = 1)) || decide (s.st = 1)) := by
                  rw [List.take_add_one, hs, List.any_append]; simp
                cases hbt : (S2.take u).any (fun s => decide (s.st = 1))
                · rw [hbt] at e19
                  rw [hbt, Bool.false_or] at htk
                  by_cases cs : s.st = 1
                  · rw [decide_eq_true cs] at htk
                    simp +contextual (maxSteps := 3000000) only [↓code_skip, ↓code_seq, ↓code_region, ↓code_cond, ↓code_block, aCond_bool, ↓ops_nil, ↓ops_cons, run_none, run_someF, ↓run0_v, ↓run0_r, ↓seqK_normal, ↓blkK_normal, put_same, put_ne, ev_tmp, ev_const, ev_func, oc_int, oc_bool, o_move, o_assign, o_pick, o_bin, o_call, o_len, g_none, g_some, pick_bool, bin_add, bin_eql, bin_lss, Option.bind_some, ↓reduceIte, Nat.reduceEqDiff, not_false_eq_true, Nat.succ_ne_self, List.getElem?_cons_zero, List.getElem?_cons_succ, List.getElem?_toArray, Bool.false_eq_true, List.map_cons, List.map_nil, List.append_nil, List.nil_append, ne_eq, e1, e7, e19, e20, s1', hlen, q2, eq_true cs, s7, decide_true, callV_fn (g := 17) (by decide)]
                    refine hnext (k - 1) _ _ (by omega) ⟨u + 1, by omega, ?_, ?_, ?_, ?_, ?_, ?_, ?_, ?_, ?_⟩
                    · rfl
                    · omega
                    · simp only [put_ne, Nat.reduceEqDiff, not_false_eq_true, ne_eq, e1]
                    · simp only [put_ne, Nat.reduceEqDiff, not_false_eq_true, ne_eq, e7]
                    · simp only [put_ne, Nat.reduceEqDiff, not_false_eq_true, ne_eq, e13]
                    · simp only [put_ne, Nat.reduceEqDiff, not_false_eq_true, ne_eq, e14]
                    · simp only [put_ne, Nat.reduceEqDiff, not_false_eq_true, ne_eq, e15]
                    · simp only [put_same, put_ne, Nat.reduceEqDiff, not_false_eq_true, ne_eq]; rw [htk]
                    · simp only [put_same]
                  · rw [decide_eq_false cs] at htk
                    simp +contextual (maxSteps := 3000000) only [↓code_skip, ↓code_seq, ↓code_region, ↓code_cond, ↓code_block, aCond_bool, ↓ops_nil, ↓ops_cons, run_none, run_someF, ↓run0_v, ↓run0_r, ↓seqK_normal, ↓blkK_normal, put_same, put_ne, ev_tmp, ev_const, ev_func, oc_int, oc_bool, o_move, o_assign, o_pick, o_bin, o_call, o_len, g_none, g_some, pick_bool, bin_add, bin_eql, bin_lss, Option.bind_some, ↓reduceIte, Nat.reduceEqDiff, not_false_eq_true, Nat.succ_ne_self, List.getElem?_cons_zero, List.getElem?_cons_succ, List.getElem?_toArray, Bool.false_eq_true, List.map_cons, List.map_nil, List.append_nil, List.nil_append, ne_eq, e1, e7, e19, e20, s1', hlen, q2, cs, s7, decide_true, decide_false, callV_fn (g := 17) (by decide)]
                    refine hnext (k - 1) _ _ (by omega) ⟨u + 1, by omega, ?_, ?_, ?_, ?_, ?_, ?_, ?_, ?_, ?_⟩
                    · rfl
                    · omega
                    · simp only [put_ne, Nat.reduceEqDiff, not_false_eq_true, ne_eq, e1]
                    · simp only [put_ne, Nat.reduceEqDiff, not_false_eq_true, ne_eq, e7]
                    · simp only [put_ne, Nat.reduceEqDiff, not_false_eq_true, ne_eq, e13]
                    · simp only [put_ne, Nat.reduceEqDiff, not_false_eq_true, ne_eq, e14]
                    · simp only [put_ne, Nat.reduceEqDiff, not_false_eq_true, ne_eq, e15]
                    · simp only [put_same, put_ne, Nat.reduceEqDiff, not_false_eq_true, ne_eq]; rw [htk]
                    · simp only [put_same]
                · rw [hbt] at e19
                  rw [hbt, Bool.true_or] at htk
                  simp +contextual (maxSteps := 3000000) only [↓code_skip, ↓code_seq, ↓code_region, ↓code_cond, ↓code_block, aCond_bool, ↓ops_nil, ↓ops_cons, run_none, run_someF, ↓run0_v, ↓seqK_normal, ↓blkK_normal, put_same, put_ne, ev_tmp, ev_const, ev_func, oc_int, oc_bool, o_move, o_assign, o_pick, o_bin, o_call, o_len, g_none, g_some, pick_bool, bin_add, bin_lss, Option.bind_some, ↓reduceIte, Nat.reduceEqDiff, not_false_eq_true, Nat.succ_ne_self, List.getElem?_cons_zero, List.getElem?_cons_succ, List.getElem?_toArray, List.map_cons, List.map_nil, List.append_nil, List.nil_append, ne_eq, callV_fn (g := 17) (by decide), e1, e7, e19, e20, s1', hlen, s7, decide_true]
                  refine hnext (k - 1) _ _ (by omega) ⟨u + 1, by omega, ?_, ?_, ?_, ?_, ?_, ?_, ?_, ?_, ?_⟩
                  · rfl
                  · omega
                  · simp only [put_ne, Nat.reduceEqDiff, not_false_eq_true, ne_eq, e1]
                  · simp only [put_ne, Nat.reduceEqDiff, not_false_eq_true, ne_eq, e7]
                  · simp only [put_ne, Nat.reduceEqDiff, not_false_eq_true, ne_eq, e13]
                  · simp only [put_ne, Nat.reduceEqDiff, not_false_eq_true, ne_eq, e14]
                  · simp only [put_ne, Nat.reduceEqDiff, not_false_eq_true, ne_eq, e15]
                  · simp only [put_same, put_ne, Nat.reduceEqDiff, not_false_eq_true, ne_eq]; rw [htk]
                  · simp only [put_same]
              · have s1' : ¬ (u : Int) < (n : Int) := by omega
                rw [List.take_of_length_le (by omega)] at e19
                obtain ⟨h8, c8, g8⟩ := V18 (I := Ip) rfl rfl rfl rfl rfl rfl (m + 203) p A lo hi sb.n sb.d S2 t off7 h7 bb2 hl0 ht (by rw [hth]; simp) ⟨sb.n, sb.d, (Bn : Nat), 1⟩ (by rw [hth]; simp [eqA_iff.2])
                have bx7' := bx7.1
                have q3 := V10 (I := Ip) rfl rfl rfl rfl rfl (m + 1) p lo hi _ off7 h8 (bb2.grow g8) hl0 (by omega)
                have hbb : S2.any busy = S2.any fun s => decide (s.st = 1) := by
                  rw [Bool.eq_iff_iff, List.any_eq_true, List.any_eq_true]
                  constructor
                  · rintro ⟨s, hs, hb⟩
                    unfold busy at hb
                    rw [hnq s hs] at hb
                    exact ⟨s, hs, by simpa using hb⟩
                  · rintro ⟨s, hs, hb⟩
                    exact ⟨s, hs, by unfold busy; rw [hb]; rfl⟩
                rw [hbb] at q3
                have hbq : ∀ x : Bool, (x == x) = true := fun x => by cases x <;> rfl
                simp +contextual (maxSteps := 3000000) only [↓code_seq, ↓code_region, ↓code_cond, ↓code_exit, aCond_bool, ↓ops_nil, ↓ops_cons, run_none, ↓run0_v, ↓seqK_normal, ↓seqK_exit, put_same, put_ne, ev_tmp, o_move, o_bin, o_len, g_none, bin_lss, decide_eq_true_eq, ↓reduceIte, Nat.reduceEqDiff, not_false_eq_true, ne_eq, e1, e20, s1', hlen]
                refine hexit _ _ _ (by simp) ?_
                simp +contextual (maxSteps := 3000000) only [↓code_seq, ↓code_region, ↓code_ret, ↓ops_nil, ↓ops_cons, run_none, run_someT, ↓run0_v, ↓run0_r, ↓seqK_normal, ↓blkK_exit, ↓retK_ret, put_same, put_ne, ev_tmp, ev_const, ev_func, oc_bool, o_move, o_assign, o_pick, o_bin, o_call, o_load, o_un, o_extract, g_none, g_some, pick_bool, bin_eql, un_not, extract_tup, resultsOf, oneOrAll, Option.bind_some, Option.map_some, ↓reduceIte, Nat.reduceEqDiff, not_false_eq_true, Nat.reduceAdd, List.getElem?_cons_zero, List.getElem?_cons_succ, List.getElem?_toArray, List.map_cons, List.map_nil, List.append_nil, List.nil_append, Nat.le_refl, ne_eq, load_pA T35 a35, s35, loadn_def, bool_eql T4 d4, List.length_cons, List.length_nil, List.drop_zero, List.take_succ_cons, List.take_nil, Nat.zero_add, e7, e13, e14, e15, e19, bx7', c8, q3, k7, decide_true, decide_false, callV_fn (g := 18) (by decide), callV_fn (g := 10) (by decide), callV_fn (g := 7) (by decide)]
                exact yes _
            · refine ⟨0, by omega, ?_, ?_, ?_, ?_, ?_, ?_, ?_, ?_, ?_⟩
              · rfl
              · omega
              · simp only [put_ne, Nat.reduceEqDiff, not_false_eq_true, ne_eq, e1]
              · simp only [put_ne, Nat.reduceEqDiff, not_false_eq_true, ne_eq, e7]
              · simp only [put_same, put_ne, Nat.reduceEqDiff, not_false_eq_true, ne_eq]
              · simp only [put_same, put_ne, Nat.reduceEqDiff, not_false_eq_true, ne_eq]
              · simp only [put_same, put_ne, Nat.reduceEqDiff, not_false_eq_true, ne_eq]
              · simp only [put_same, put_ne, Nat.reduceEqDiff, not_false_eq_true, ne_eq]; rfl
              · simp only [put_same]; rfl
          · rw [hbz] at q1
            have r7 : IntKind.i64.wrap ((x : Int) + 1) = ((x + 1 : Nat) : Int) := by rw [wrap_i64 (by omega) (by omega)]; rfl
            obtain ⟨h2, off3, k1, k2, k3⟩ := V11 (I := Ip) rfl rfl rfl rfl rfl rfl rfl rfl rfl rfl rfl rfl rfl rfl rfl rfl rfl rfl rfl rfl rfl rfl (m + 2) p lo hi S off2 h' 0 0 hL2 hlb (by omega) hC.nm (fun s hs => by rw [(hC.q s hs).2]; exact Nat.le_refl _) (fun s hs => by rw [(hC.q s hs).1]; exact Nat.le_refl _) ⟨by omega, by omega⟩
            simp +contextual (maxSteps := 3000000) only [↓code_skip, ↓code_seq, ↓code_region, ↓code_cond, ↓code_block, aCond_bool, ↓ops_nil, ↓ops_cons, run_none, run_someT, ↓run0_v, ↓run0_r, ↓seqK_normal, ↓blkK_normal, put_same, put_ne, ev_tmp, ev_const, ev_func, oc_int, oc_bool, o_move, o_assign, o_pick, o_bin, o_call, o_un, g_none, g_some, pick_bool, bin_add, bin_lss, un_not, Option.bind_some, ↓reduceIte, Nat.reduceEqDiff, not_false_eq_true, List.getElem?_cons_zero, List.getElem?_cons_succ, List.getElem?_toArray, List.map_cons, List.map_nil, List.append_nil, List.nil_append, Bool.not_true, Bool.not_false, ne_eq, e7, e12, eq_true hx, q1, k1, r7, decide_true, callV_fn (g := 10) (by decide), callV_fn (g := 11) (by decide)]
            refine hnext (k - 1) _ _ (by omega) ⟨x + 1, stepS lo hi S, off3, by omega, ?_, ?_, ?_, ?_, ?_, ?_, ?_, ?_⟩
            · exact k2
            · exact boxS k3 hb2
            · exact ⟨hC.step hok, by rw [stepS_len]; exact hSn⟩
            · omega
            · simp only [put_ne, Nat.reduceEqDiff, not_false_eq_true, ne_eq, e1]
            · simp only [put_ne, Nat.reduceEqDiff, not_false_eq_true, ne_eq, e5]
            · simp only [put_ne, Nat.reduceEqDiff, not_false_eq_true, ne_eq, e7]
            · simp only [put_same]
        · simp +contextual (maxSteps := 3000000) only [↓code_seq, ↓code_region, ↓code_cond, ↓code_exit, aCond_bool, ↓ops_nil, ↓ops_cons, run_none, run_someT, ↓run0_v, ↓seqK_normal, ↓seqK_exit, put_same, put_ne, ev_tmp, ev_const, ev_func, oc_int, oc_bool, o_move, o_pick, o_bin, o_call, o_un, g_none, g_some, pick_bool, bin_lss, Option.bind_some, ↓reduceIte, Nat.reduceEqDiff, not_false_eq_true, List.getElem?_cons_zero, List.getElem?_cons_succ, List.getElem?_toArray, Bool.false_eq_true, List.map_cons, List.map_nil, List.append_nil, List.nil_append, ne_eq, callV_fn (g := 10) (by decide), e7, e12, hx, decide_false]
          refine hexit _ _ _ (by simp) ?_
          obtain ⟨A, hA⟩ : ∃ A, A = w0.toNat % n := ⟨_, rfl⟩
          obtain ⟨Bn, hBn⟩ : ∃ Bn, Bn = w1.toNat % n := ⟨_, rfl⟩
          have hAl : A < n := by rw [hA]; exact Nat.mod_lt _ (by omega)
          have hBl : Bn < n := by rw [hBn]; exact Nat.mod_lt _ (by omega)
          have v0 : IntKind.i64.wrap w0 = w0 := wrap_i64 (by omega) (by omega)
          have v1 : IntKind.i64.wrap w1 = w1 := wrap_i64 (by omega) (by omega)
          have v2 : w0.tmod (n : Int) = (A : Int) := by rw [Int.tmod_eq_emod_of_nonneg hw0.1, hA, Int.natCast_emod, Int.toNat_of_nonneg hw0.1]
          have v3 : w1.tmod (n : Int) = (Bn : Int) := by rw [Int.tmod_eq_emod_of_nonneg hw1.1, hBn, Int.natCast_emod, Int.toNat_of_nonneg hw1.1]
          have v4 : ¬ (n : Int) = 0 := by omega
          have v5 : aIndexAddr T 47 (.ptr 1 0) (.int .i64 0) = some (.ptr 1 0) := by rw [ia_arr T47 d47 T5, if_pos (by decide), s5]; rfl
          have v6 : aIndexAddr T 47 (.ptr 1 0) (.int .i64 1) = some (.ptr 1 1) := by rw [ia_arr T47 d47 T5, if_pos (by decide), s5]; rfl
          obtain ⟨sa, hsa⟩ : ∃ sa, S[A]? = some sa := ⟨S[A]'(by omega), List.getElem?_eq_getElem (by omega)⟩
          obtain ⟨sb, hsb⟩ : ∃ sb, S[Bn]? = some sb := ⟨S[Bn]'(by omega), List.getElem?_eq_getElem (by omega)⟩
          have g1 := hb2.1
          obtain ⟨h2, nb, db, k1, k2, k3⟩ := V12 (I := Ip) rfl rfl rfl (m + 298) p Bn lo hi S sb off2 h' hL2 hl0 hsb
          have hL3 := hL2.grow k2
          obtain ⟨h3, y1, y2, y3, y4⟩ := store_a2 h2 nb db
          have hL4 := hL3.grow y4
          obtain ⟨h4, na, da, l1, l2, l3⟩ := V12 (I := Ip) rfl rfl rfl (m + 298) p A lo hi S sa off2 h3 hL4 hl0 hsa
          have hL5 := hL4.grow l2
          obtain ⟨h5, zz1, zz2, zz3, zz4⟩ := store_a2 h4 na da
          have hL6 := hL5.grow zz4
          have y5 : h5.get h2.next = some (.cells [.int .i64 nb, .int .i64 db] .own) := ((l2.trans zz4).2 _ (by omega)).trans y3
          have ok1 : off2 h2.next := hL3.off_ge (Nat.le_refl _)
          have ok2 : h2.next < h5.next := Nat.lt_of_lt_of_le (by omega) (l2.trans zz4).1
          by_cases cab : A = Bn
          · have cab' : (A : Int) = (Bn : Int) := by rw [cab]
            simp +contextual (maxSteps := 3000000) only [↓code_seq, ↓code_region, ↓code_cond, ↓code_ret, aCond_bool, ↓ops_nil, ↓ops_cons, run_none, run_someF, ↓run0_v, ↓run0_h, ↓run0_r, ↓seqK_normal, ↓seqK_ret, ↓blkK_exit, ↓retK_ret, put_same, put_ne, put_none, ev_tmp, ev_const, ev_func, oc_int, oc_bool, o_move, o_assign, o_pick, o_bin, o_call, o_len, o_alloc, o_load, o_store, o_un, o_convert, o_indexAddr, o_extract, g_none, g_some, pick_bool, bin_rem, bin_eql, extract_tup, resultsOf, oneOrAll, Option.bind_some, Option.map_some, ↓reduceIte, Nat.reduceEqDiff, not_false_eq_true, List.getElem?_cons_zero, List.getElem?_cons_succ, List.getElem?_toArray, List.map_cons, List.map_nil, List.append_nil, List.nil_append, ne_eq, loadc_def, load_p1 T5 a5, conv_int T5 T3 d3, alloc_t T35, z35, e1, e5, e7, hlen, g1, v5, v6, v0, v1, v2, v3, v4, k1, y1, l1, zz1, eq_true cab', k7, decide_true, callV_fn (g := 12) (by decide), callV_fn (g := 7) (by decide)]
            exact yes _
          have cab' : ¬ (A : Int) = (Bn : Int) := by omega
          by_cases csb : sb.st = 2
          rotate_left
          · simp +contextual (maxSteps := 3000000) only [↓code_seq, ↓code_region, ↓code_cond, ↓code_ret, aCond_bool, ↓ops_nil, ↓ops_cons, run_none, run_someF, ↓run0_v, ↓run0_h, ↓run0_r, ↓seqK_normal, ↓seqK_ret, ↓blkK_exit, ↓retK_ret, put_same, put_ne, put_none, ev_tmp, ev_const, ev_func, oc_int, oc_bool, o_move, o_assign, o_pick, o_bin, o_call, o_len, o_alloc, o_load, o_store, o_un, o_convert, o_indexAddr, o_extract, g_none, g_some, pick_bool, bin_rem, bin_eql, un_not, extract_tup, resultsOf, oneOrAll, Option.bind_some, Option.map_some, ↓reduceIte, Nat.reduceEqDiff, not_false_eq_true, List.getElem?_cons_zero, List.getElem?_cons_succ, List.getElem?_toArray, Bool.false_eq_true, List.map_cons, List.map_nil, List.append_nil, List.nil_append, Bool.not_false, ne_eq, loadc_def, load_p1 T5 a5, conv_int T5 T3 d3, alloc_t T35, z35, e1, e5, e7, hlen, g1, v5, v6, v0, v1, v2, v3, v4, k1, y1, l1, zz1, cab', csb, k7, decide_false, callV_fn (g := 12) (by decide), callV_fn (g := 7) (by decide)]
            exact yes _
          by_cases csa : sa.st = 2
          rotate_left
          · simp +contextual (maxSteps := 3000000) only [↓code_seq, ↓code_region, ↓code_cond, ↓code_ret, aCond_bool, ↓ops_nil, ↓ops_cons, run_none, run_someF, ↓run0_v, ↓run0_h, ↓run0_r, ↓seqK_normal, ↓seqK_ret, ↓blkK_exit, ↓retK_ret, put_same, put_ne, put_none, ev_tmp, ev_const, ev_func, oc_int, oc_bool, o_move, o_assign, o_pick, o_bin, o_call, o_len, o_alloc, o_load, o_store, o_un, o_convert, o_indexAddr, o_extract, g_none, g_some, pick_bool, bin_rem, bin_eql, un_not, extract_tup, resultsOf, oneOrAll, Option.bind_some, Option.map_some, ↓reduceIte, Nat.reduceEqDiff, not_false_eq_true, List.getElem?_cons_zero, List.getElem?_cons_succ, List.getElem?_toArray, Bool.false_eq_true, List.map_cons, List.map_nil, List.append_nil, List.nil_append, Bool.not_true, Bool.not_false, ne_eq, loadc_def, load_p1 T5 a5, conv_int T5 T3 d3, alloc_t T35, z35, e1, e5, e7, hlen, g1, v5, v6, v0, v1, v2, v3, v4, k1, y1, l1, zz1, cab', eq_true csb, csa, k7, decide_true, decide_false, callV_fn (g := 12) (by decide), callV_fn (g := 7) (by decide)]
            exact yes _
          obtain ⟨enb, edb⟩ := k3 csb
          subst enb
          subst edb
          have hcalm := hC.asked cab hsa hsb csa csb
          have hac : askC lo hi sb.n sb.d sa = true := by unfold askC; rw [decide_eq_true csa, hC.ad sb (List.mem_of_getElem? hsb) csb]; rfl
          have hqa := hC.q sa (List.mem_of_getElem? hsa)
          obtain ⟨h6, off6, aa1, aa2, aa3⟩ := V15 (I := Ip) rfl rfl rfl rfl rfl rfl rfl rfl rfl rfl (m + 203) p A lo hi sb.n sb.d S sa off2 h5 hL6 hl0 hsa ⟨⟨by rw [hqa.2]; exact Nat.zero_le _, by rw [hqa.2]; exact Nat.zero_le _⟩, by rw [hqa.1]; exact Nat.zero_le _, by rw [hqa.1]; exact Nat.zero_le _⟩
          rw [hac, if_pos rfl, hcalm.2] at aa2
          rw [hac, if_pos rfl] at aa1
          obtain ⟨S1, hS1⟩ : ∃ S1, S1 = S.set A { sa with qs := [⟨sb.n, sb.d, 0⟩] } := ⟨_, rfl⟩
          rw [← hS1] at aa2
          have hS1l : S1.length = n := by rw [hS1, List.length_set]; exact hSn
          have in1 : ∀ s ∈ S1, Nm s ∧ s.hs.length ≤ 0 ∧ s.qs.length ≤ 1 := fun s hs => by
            rw [hS1] at hs
            rcases List.mem_or_eq_of_mem_set hs with g | g
            · exact ⟨hC.nm s g, by rw [(hC.q s g).2]; exact Nat.le_refl _, by rw [(hC.q s g).1]; exact Nat.zero_le _⟩
            · rw [g]; exact ⟨hC.nm sa (List.mem_of_getElem? hsa), by rw [hqa.2]; exact Nat.le_refl _, Nat.le_refl _⟩
          obtain ⟨h7, off7, bb1, bb2, bb3⟩ := V11 (I := Ip) rfl rfl rfl rfl rfl rfl rfl rfl rfl rfl rfl rfl rfl rfl rfl rfl rfl rfl rfl rfl rfl rfl (m + 2) p lo hi S1 off6 h6 0 1 aa2 hlb (by omega) (fun s hs => (in1 s hs).1) (fun s hs => (in1 s hs).2.1) (fun s hs => (in1 s hs).2.2) ⟨by omega, by omega⟩
          obtain ⟨⟨t, ht, hth⟩, hnq⟩ := hC.told cab hsa hsb csa csb
          rw [← hS1] at ht hnq
          obtain ⟨S2, hS2⟩ : ∃ S2, S2 = stepS lo hi S1 := ⟨_, rfl⟩
          rw [← hS2] at ht hnq bb2
          have hS2l : S2.length = n := by rw [hS2, stepS_len]; exact hS1l
          have bx6 := boxS aa3 ⟨y5, ok1, ok2⟩
          have bx7 := boxS bb3 bx6
          simp +contextual (maxSteps := 3000000) only [↓code_skip, ↓code_seq, ↓code_region, ↓code_cond, ↓code_block, ↓code_loop, aCond_bool, ↓ops_nil, ↓ops_cons, run_none, run_someF, ↓run0_v, ↓run0_h, ↓run0_r, ↓seqK_normal, ↓blkK_exit, put_same, put_ne, put_none, ev_tmp, ev_const, ev_func, oc_int, oc_bool, o_move, o_assign, o_pick, o_bin, o_call, o_len, o_alloc, o_load, o_store, o_un, o_convert, o_indexAddr, o_extract, g_none, g_some, pick_bool, bin_rem, bin_eql, bin_neq, un_not, extract_tup, Option.bind_some, Option.map_some, ↓reduceIte, Nat.reduceEqDiff, not_false_eq_true, Nat.reduceAdd, List.getElem?_cons_zero, List.getElem?_cons_succ, List.getElem?_toArray, Bool.false_eq_true, List.map_cons, List.map_nil, List.append_nil, List.nil_append, Nat.le_refl, Bool.not_true, ne_eq, loadc_def, load_p1 T5 a5, conv_int T5 T3 d3, alloc_t T35, z35, load_pA T35 a35, s35, loadn_def, List.length_cons, List.length_nil, List.drop_zero, List.take_succ_cons, List.take_nil, Nat.zero_add, e1, e5, e7, hlen, g1, v5, v6, v0, v1, v2, v3, v4, k1, y1, l1, zz1, cab', eq_true csb, eq_true csa, y5, aa1, bb1, decide_true, decide_false, callV_fn (g := 12) (by decide), callV_fn (g := 15) (by decide), callV_fn (g := 11) (by decide)]
          refine iterL_wp (Q := fun r => Qf r) (N := n) (Inv := fun k e h' => ∃ u, k + u = n ∧ h' = h7 ∧ u ≤ n ∧ e 1 = VL ∧ e 7 = .ptr p 0 ∧ e 13 = .int .i64 (A : Nat) ∧ e 14 = .int .i64 (Bn : Nat) ∧ e 15 = .ptr h2.next 0 ∧ e 19 = .bool ((S2.take u).any fun s => decide (s.st = 1)) ∧ e 20 = .int .i64 (u : Nat)) ?_ ?_ (show n < m + 303 by omega)
          · rintro k e h' K' ⟨u, hk, hh, hul, e1, e7, e13, e14, e15, e19, e20⟩ hnext hexit
            rw [hh]
            by_cases hu : u < n
            · have s1' : (u : Int) < (n : Int) := by omega
              have s7 : IntKind.i64.wrap ((u : Int) + 1) = ((u + 1 : Nat) : Int) := by rw [wrap_i64 (by omega) (by omega)]; rfl
              obtain ⟨s, hs⟩ : ∃ s, S2[u]? = some s := ⟨S2[u]'(by omega), List.getElem?_eq_getElem (by omega)⟩
              have q2 := V17 (I := Ip) rfl rfl rfl (m + 298) p u lo hi S2 s off7 h7 bb2 hl0 hs
              have htk : (S2.take (u + 1)).any (fun s => decide (s.st = 1)) = ((S2.take u).any (fun s => decide (s.st = 1)) || decide (s.st = 1)) := by
                rw [List.take_add_one, hs, List.any_append]; simp
              cases hbt : (S2.take u).any (fun s => decide (s.st = 1))
              · rw [hbt] at e19
                rw [hbt, Bool.false_or] at htk
                by_cases cs : s.st = 1
                · rw [decide_eq_true cs] at htk
                  simp +contextual (maxSteps := 3000000) only [↓code_skip, ↓code_seq, ↓code_region, ↓code_cond, ↓code_block, aCond_bool, ↓ops_nil, ↓ops_cons, run_none, run_someF, ↓run0_v, ↓run0_r, ↓seqK_normal, ↓blkK_normal, put_same, put_ne, ev_tmp, ev_const, ev_func, oc_int, oc_bool, o_move, o_assign, o_pick, o_bin, o_call, o_len, g_none, g_some, pick_bool, bin_add, bin_eql, bin_lss, Option.bind_some, ↓reduceIte, Nat.reduceEqDiff, not_false_eq_true, Nat.succ_ne_self, List.getElem?_cons_zero, List.getElem?_cons_succ, List.getElem?_toArray, Bool.false_eq_true, List.map_cons, List.map_nil, List.append_nil, List.nil_append, ne_eq, e1, e7, e19, e20, s1', hlen, q2, eq_true cs, s7, decide_true, callV_fn (g := 17) (by decide)]
                  refine hnext (k - 1) _ _ (by omega) ⟨u + 1, by omega, ?_, ?_, ?_, ?_, ?_, ?_, ?_, ?_, ?_⟩
                  · rfl
                  · omega
                  · simp only [put_ne, Nat.reduceEqDiff, not_false_eq_true, ne_eq, e1]
                  · simp only [put_ne, Nat.reduceEqDiff, not_false_eq_true, ne_eq, e7]
                  · simp only [put_ne, Nat.reduceEqDiff, not_false_eq_true, ne_eq, e13]
                  · simp only [put_ne, Nat.reduceEqDiff, not_false_eq_true, ne_eq, e14]
                  · simp only [put_ne, Nat.reduceEqDiff, not_false_eq_true, ne_eq, e15]
                  · simp only [put_same, put_ne, Nat.reduceEqDiff, not_false_eq_true, ne_eq]; rw [htk]
                  · simp only [put_same]
                · rw [decide_eq_false cs] at htk
                  simp +contextual (maxSteps := 3000000) only [↓code_skip, ↓code_seq, ↓code_region, ↓code_cond, ↓code_block, aCond_bool, ↓ops_nil, ↓ops_cons, run_none, run_someF, ↓run0_v, ↓run0_r, ↓seqK_normal, ↓blkK_normal, put_same, put_ne, ev_tmp, ev_const, ev_func, oc_int, oc_bool, o_move, o_assign, o_pick, o_bin, o_call, o_len, g_none, g_some, pick_bool, bin_add, bin_eql, bin_lss, Option.bind_some, ↓reduceIte, Nat.reduceEqDiff, not_false_eq_true, Nat.succ_ne_self, List.getElem?_cons_zero, List.getElem?_cons_succ, List.getElem?_toArray, Bool.false_eq_true, List.map_cons, List.map_nil, List.append_nil, List.nil_append, ne_eq, e1, e7, e19, e20, s1', hlen, q2, cs, s7, decide_true, decide_false, callV_fn (g := 17) (by decide)]
                  refine hnext (k - 1) _ _ (by omega) ⟨u + 1, by omega, ?_, ?_, ?_, ?_, ?_, ?_, ?_, ?_, ?_⟩
                  · rfl
                  · omega
                  · simp only [put_ne, Nat.reduceEqDiff, not_false_eq_true, ne_eq, e1]
                  · simp only [put_ne, Nat.reduceEqDiff, not_false_eq_true, ne_eq, e7]
                  · simp only [put_ne, Nat.reduceEqDiff, not_false_eq_true, ne_eq, e13]
                  · simp only [put_ne, Nat.reduceEqDiff, not_false_eq_true, ne_eq, e14]
                  · simp only [put_ne, Nat.reduceEqDiff, not_false_eq_true, ne_eq, e15]
                  · simp only [put_same, put_ne, Nat.reduceEqDiff, not_false_eq_true, ne_eq]; rw [htk]
                  · simp only [put_same]
              · rw [hbt] at e19
                rw [hbt, Bool.true_or] at htk
                simp +contextual (maxSteps := 3000000) only [↓code_skip, ↓code_seq, ↓code_region, ↓code_cond, ↓code_block, aCond_bool, ↓ops_nil, ↓ops_cons, run_none, run_someF, ↓run0_v, ↓seqK_normal, ↓blkK_normal, put_same, put_ne, ev_tmp, ev_const, ev_func, oc_int, oc_bool, o_move, o_assign, o_pick, o_bin, o_call, o_len, g_none, g_some, pick_bool, bin_add, bin_lss, Option.bind_some, ↓reduceIte, Nat.reduceEqDiff, not_false_eq_true, Nat.succ_ne_self, List.getElem?_cons_zero, List.getElem?_cons_succ, List.getElem?_toArray, List.map_cons, List.map_nil, List.append_nil, List.nil_append, ne_eq, callV_fn (g := 17) (by decide), e1, e7, e19, e20, s1', hlen, s7, decide_true]
                refine hnext (k - 1) _ _ (by omega) ⟨u + 1, by omega, ?_, ?_, ?_, ?_, ?_, ?_, ?_, ?_, ?_⟩
                · rfl
                · omega
                · simp only [put_ne, Nat.reduceEqDiff, not_false_eq_true, ne_eq, e1]
                · simp only [put_ne, Nat.reduceEqDiff, not_false_eq_true, ne_eq, e7]
                · simp only [put_ne, Nat.reduceEqDiff, not_false_eq_true, ne_eq, e13]
                · simp only [put_ne, Nat.reduceEqDiff, not_false_eq_true, ne_eq, e14]
                · simp only [put_ne, Nat.reduceEqDiff, not_false_eq_true, ne_eq, e15]
                · simp only [put_same, put_ne, Nat.reduceEqDiff, not_false_eq_true, ne_eq]; rw [htk]
                · simp only [put_same]
            · have s1' : ¬ (u : Int) < (n : Int) := by omega
              rw [List.take_of_length_le (by omega)] at e19
              obtain ⟨h8, c8, g8⟩ := V18 (I := Ip) rfl rfl rfl rfl rfl rfl (m + 203) p A lo hi sb.n sb.d S2 t off7 h7 bb2 hl0 ht (by rw [hth]; simp) ⟨sb.n, sb.d, (Bn : Nat), 1⟩ (by rw [hth]; simp [eqA_iff.2])
              have bx7' := bx7.1
              have q3 := V10 (I := Ip) rfl rfl rfl rfl rfl (m + 1) p lo hi _ off7 h8 (bb2.grow g8) hl0 (by omega)
              have hbb : S2.any busy = S2.any fun s => decide (s.st = 1) := by
                rw [Bool.eq_iff_iff, List.any_eq_true, List.any_eq_true]
                constructor
                · rintro ⟨s, hs, hb⟩
                  unfold busy at hb
                  rw [hnq s hs] at hb
                  exact ⟨s, hs, by simpa using hb⟩
                · rintro ⟨s, hs, hb⟩
                  exact ⟨s, hs, by unfold busy; rw [hb]; rfl⟩
              rw [hbb] at q3
              have hbq : ∀ x : Bool, (x == x) = true := fun x => by cases x <;> rfl
              simp +contextual (maxSteps := 3000000) only [↓code_seq, ↓code_region, ↓code_cond, ↓code_exit, aCond_bool, ↓ops_nil, ↓ops_cons, run_none, ↓run0_v, ↓seqK_normal, ↓seqK_exit, put_same, put_ne, ev_tmp, o_move, o_bin, o_len, g_none, bin_lss, decide_eq_true_eq, ↓reduceIte, Nat.reduceEqDiff, not_false_eq_true, ne_eq, e1, e20, s1', hlen]
              refine hexit _ _ _ (by simp) ?_
              simp +contextual (maxSteps := 3000000) only [↓code_seq, ↓code_region, ↓code_ret, ↓ops_nil, ↓ops_cons, run_none, run_someT, ↓run0_v, ↓run0_r, ↓seqK_normal, ↓blkK_exit, ↓retK_ret, put_same, put_ne, ev_tmp, ev_const, ev_func, oc_bool, o_move, o_assign, o_pick, o_bin, o_call, o_load, o_un, o_extract, g_none, g_some, pick_bool, bin_eql, un_not, extract_tup, resultsOf, oneOrAll, Option.bind_some, Option.map_some, ↓reduceIte, Nat.reduceEqDiff, not_false_eq_true, Nat.reduceAdd, List.getElem?_cons_zero, List.getElem?_cons_succ, List.getElem?_toArray, List.map_cons, List.map_nil, List.append_nil, List.nil_append, Nat.le_refl, ne_eq, load_pA T35 a35, s35, loadn_def, bool_eql T4 d4, List.length_cons, List.length_nil, List.drop_zero, List.take_succ_cons, List.take_nil, Nat.zero_add, e7, e13, e14, e15, e19, bx7', c8, q3, k7, decide_true, decide_false, callV_fn (g := 18) (by decide), callV_fn (g := 10) (by decide), callV_fn (g := 7) (by decide)]
              exact yes _
          · refine ⟨0, by omega, ?_, ?_, ?_, ?_, ?_, ?_, ?_, ?_, ?_⟩
            · rfl
            · omega
            · simp only [put_ne, Nat.reduceEqDiff, not_false_eq_true, ne_eq, e1]
            · simp only [put_ne, Nat.reduceEqDiff, not_false_eq_true, ne_eq, e7]
            · simp only [put_same, put_ne, Nat.reduceEqDiff, not_false_eq_true, ne_eq]
            · simp only [put_same, put_ne, Nat.reduceEqDiff, not_false_eq_true, ne_eq]
            · simp only [put_same, put_ne, Nat.reduceEqDiff, not_false_eq_true, ne_eq]
            · simp only [put_same, put_ne, Nat.reduceEqDiff, not_false_eq_true, ne_eq]; rfl
            · simp only [put_same]; rfl
      · refine ⟨0, rows.map pR, off, by omega, ?_, ?_, ?_, ?_, ?_, ?_, ?_, ?_⟩
        · exact hL
        · exact hb
        · exact ⟨pR_calm lo hi rows fun r hr => (hrb r hr).1, by rw [List.length_map, hn]⟩
        · omega
        · simp only [put_ne, Nat.reduceEqDiff, not_false_eq_true, ne_eq, e1]
        · simp only [put_ne, Nat.reduceEqDiff, not_false_eq_true, ne_eq, e5]
        · simp only [put_ne, Nat.reduceEqDiff, not_false_eq_true, ne_eq, e7]
        · simp only [put_same]; rfl
  · refine ⟨0, off0, by omega, ?_, ?_, ?_, ?_, ?_, ?_, ?_⟩
    · exact hL0
    · exact ⟨gB, oB, nB⟩
    · omega
    · simp only [put_ne, env0_at, Option.getD_some, Nat.reduceEqDiff, not_false_eq_true, List.getElem?_cons_zero, List.getElem?_cons_succ, ne_eq]
    · simp only [put_same, put_ne, Nat.reduceEqDiff, not_false_eq_true, ne_eq]
    · simp only [put_same, put_ne, Nat.reduceEqDiff, not_false_eq_true, ne_eq]
    · simp only [put_same]; rfl
theorem lawAsk (lo hi : Int) (lost : List Int) (rows : List (List Int)) (w0 w1 : Int) (hrl : rows.length ≤ 1000000000000000) (hrb : ∀ r ∈ rows, RowB r ∧ r.length * 8 ≤ 140737488355328) (hw0 : 0 ≤ w0 ∧ w0 ≤ 255) (hw1 : 0 ≤ w1 ∧ w1 ≤ 255) :
    ∃ h', call F Ip T 200000304 5 [.agg [.int .i64 lo, .int .i64 hi, rowV lost], .lst false 1 rows.length (fl rE rows), .agg [.int .u8 w0, .int .u8 w1]] e0 = some (.bool true, h') := law5 200000000 lo hi lost rows w0 w1 hrl hrb hw0 hw1 ⟨by decide, by decide⟩
end Go.AM.X
