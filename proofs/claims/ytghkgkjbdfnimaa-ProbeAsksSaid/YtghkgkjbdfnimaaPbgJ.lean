/- Links: what is told by contract, and once and for all; a link begins. Own work. -/
import Derived.Test.YtghkgkjbdfnimaaPbgI
import Derived.Test.YtghkgkjbdfnimaaShelfC
namespace Go.AM.X
open Go Go.AM Go.Proofs Go.AM.Sx
set_option maxHeartbeats 3200000
set_option maxRecDepth 100000
set_option linter.unusedVariables false
theorem F6 : F 6 = some { body := (Try.f6.body.getD .skip), results := Try.f6.results.toList, rf := false } := by kernel_rfl
theorem R6 : regsOk T (Try.f6.body.getD .skip) = true := by kernel_rfl
theorem F20 : F 20 = some { body := (Try.f20.body.getD .skip), results := Try.f20.results.toList, rf := false } := by kernel_rfl
theorem R20 : regsOk T (Try.f20.body.getD .skip) = true := by kernel_rfl
noncomputable def I0 := addI noI 22 clG
theorem A0 : IAgree Try.prog I0 := by
  obtain ⟨fi, hfi⟩ : ∃ fi, F 22 = some fi := Option.isSome_iff_exists.1 (by kernel_rfl)
  exact cl_agree hF (noI_agree _) fi hfi (te := 3) (fun n c w => Try.slices_Clone_int_nil n c w) (fun a c w => Try.slices_Clone_int_zero a c w) (fun b off n c zs w h1 h2 h3 => Try.slices_Clone_int b off n c zs w h1 h2 h3)
theorem first7 : isT (call F I0 T 400 7 [] e0) = true := by kernel_rfl
def g7 (args : List AV) : Option AV := match args with
  | [] => some (.bool true)
  | _ => none
noncomputable def Ip := addI I0 7 (pureG g7)
theorem Ap : IAgree Try.prog Ip := by
  obtain ⟨fi, hfi⟩ : ∃ fi, F 7 = some fi := Option.isSome_iff_exists.1 (by kernel_rfl)
  refine pure_agree hT hmix hF A0 (by decide) fi hfi fun args v hg _ => ?_
  unfold g7 at hg
  split at hg
  · cases hg
    obtain ⟨h', hc⟩ := isT_some first7
    exact ⟨[], 400, 3, h', .bool true, .bool true, WkL.nil, hc, by simp [frzF, AV.flat], Wk.refl _⟩
  · cases hg
theorem K7 (m : Nat) (h : AH) : call F Ip T (m + 1) 7 [] h = some (.bool true, h) := by
  rw [call_I (by decide) (show Ip 7 = some (pureG g7) from rfl)]; simp [pureG, flatL, g7]
def look (r : Rs) : AV × Option AB × Bool := match r with
  | some (v, H) => (v, H.get 0, Nat.ble 2 H.next)
  | none => (.bad, none, false)
theorem look_some {r : Rs} {v : AV} {x : AB} (hv : v ≠ .bad) (h : look r = (v, some x, true)) : ∃ H, r = some (v, H) ∧ H.get 0 = some x ∧ 2 ≤ H.next := by
  cases r with
  | none => simp [look] at h
  | some p =>
    obtain ⟨v', H⟩ := p
    simp only [look, Prod.mk.injEq] at h
    exact ⟨H, by rw [h.1], h.2.1, Nat.le_of_ble_eq_true h.2.2⟩
theorem run19 (m : Nat) (lo hi : Int) (v : AV) : ∃ H, call F Ip T (m + 60) 19 [.fn 37 [] [.ptr 1 0]] ((e0.alloc (.cells [.int .i64 lo, .int .i64 hi, v] .own)).alloc (.cells [.nils] .own)) = some (.nils, H) ∧ H.get 0 = some (.cells [.int .i64 lo, .int .i64 hi, v] .own) ∧ 2 ≤ H.next :=
  look_some (by simp) (by kernel_rfl)
/-- A link without stations. -/
theorem Lk.begin (h : AH) (lo hi : Int) : Lk (h.alloc (.cells [.int .i64 lo, .int .i64 hi, .nils, .nils, .int .i64 0] .own)) h.next lo hi [] (fun c => (if c = h.next then 1 else 0) = 0) := by
  refine ⟨fun c => if c = h.next then 1 else 0, .nils, [], ?_, rfl, rfl⟩
  exact { lt := by simp, op := by simp, g := ⟨0, by rw [AH.get_alloc, if_pos rfl]⟩, r := RowC.nil _ _, rx := fun _ _ _ _ _ _ e => (by cases e), s := fun i m hm => (by simp at hm), nw := fun c hc => (by rw [AH.next_alloc] at hc; show (if c = h.next then 1 else 0) = 0; rw [if_neg (by omega)]) }
def okL (lo hi : Int) : Prop := 1 ≤ lo ∧ lo ≤ hi ∧ hi ≤ 65279
instance (lo hi : Int) : Decidable (okL lo hi) := by unfold okL; exact inferInstance
theorem run6no (m : Nat) (lo hi : Int) (h : AH) (hl : ¬ okL lo hi) : call F Ip T (m + 62) 6 [.int .i64 lo, .int .i64 hi, .nils] h = some (.tup [.nilp, .int .i64 2], h) := by
  have h6 : Ip 6 = none := rfl
  unfold okL at hl
  rw [call_F (by decide) h6 F6 rfl R6]; simp only [Try.f6, Option.getD]
  by_cases c1 : lo < 1
  · simp +contextual (maxSteps := 3000000) only [↓code_seq, ↓code_region, ↓code_cond, ↓code_ret, aCond_bool, ↓ops_nil, ↓ops_cons, run_none, run_someF, ↓run0_v, ↓seqK_normal, ↓seqK_ret, ↓retK_ret, put_same, put_ne, env0_at, ev_tmp, ev_const, oc_int, oc_bool, oc_nilp, o_move, o_assign, o_pick, o_bin, g_none, g_some, pick_bool, bin_lss, resultsOf, oneOrAll, Option.bind_some, Option.map_some, Option.getD_some, ↓reduceIte, Nat.reduceEqDiff, not_false_eq_true, reduceCtorEq, List.getElem?_cons_zero, List.getElem?_cons_succ, List.getElem?_toArray, ne_eq, eq_true c1, decide_true]
  by_cases c2 : hi < lo
  · simp +contextual (maxSteps := 3000000) only [↓code_seq, ↓code_region, ↓code_cond, ↓code_ret, aCond_bool, ↓ops_nil, ↓ops_cons, run_none, run_someF, ↓run0_v, ↓seqK_normal, ↓seqK_ret, ↓retK_ret, put_same, put_ne, env0_at, ev_tmp, ev_const, oc_int, oc_bool, oc_nilp, o_move, o_assign, o_pick, o_bin, g_none, g_some, pick_bool, bin_lss, bin_gtr, resultsOf, oneOrAll, Option.bind_some, Option.map_some, Option.getD_some, ↓reduceIte, Nat.reduceEqDiff, not_false_eq_true, reduceCtorEq, List.getElem?_cons_zero, List.getElem?_cons_succ, List.getElem?_toArray, Bool.false_eq_true, gt_iff_lt, ne_eq, c1, eq_true c2, decide_true, decide_false]
  have c3 : 65279 < hi := by omega
  simp +contextual (maxSteps := 3000000) only [↓code_seq, ↓code_region, ↓code_cond, ↓code_ret, aCond_bool, ↓ops_nil, ↓ops_cons, run_none, run_someF, ↓run0_v, ↓seqK_normal, ↓seqK_ret, ↓retK_ret, put_same, put_ne, env0_at, ev_tmp, ev_const, oc_int, oc_bool, oc_nilp, o_move, o_assign, o_pick, o_bin, g_none, g_some, pick_bool, bin_lss, bin_gtr, resultsOf, oneOrAll, Option.bind_some, Option.map_some, Option.getD_some, ↓reduceIte, Nat.reduceEqDiff, not_false_eq_true, reduceCtorEq, List.getElem?_cons_zero, List.getElem?_cons_succ, List.getElem?_toArray, Bool.false_eq_true, gt_iff_lt, ne_eq, c1, c2, eq_true c3, decide_true, decide_false]
theorem run6ok (m : Nat) (lo hi : Int) (v : AV) (hl : okL lo hi) : ∃ h2 p off, call F Ip T (m + 62) 6 [.int .i64 lo, .int .i64 hi, .nils] (e0.alloc (.cells [.int .i64 lo, .int .i64 hi, v] .own)) = some (.tup [.ptr p 0, .int .i64 0], h2) ∧ Lk h2 p lo hi [] off ∧ h2.get 0 = some (.cells [.int .i64 lo, .int .i64 hi, v] .own) ∧ off 0 ∧ 0 < h2.next := by
  have h6 : Ip 6 = none := rfl
  have h20 : Ip 20 = none := rfl
  obtain ⟨H, k1, k2, k3⟩ := run19 (m + 1) lo hi v
  have hne : ¬ 0 = H.next := by omega
  refine ⟨_, _, _, ?_, Lk.begin H lo hi, by rw [AH.get_alloc, if_neg hne]; exact k2, by show (if 0 = H.next then 1 else 0) = 0; rw [if_neg hne], by simp⟩
  unfold okL at hl
  have c1 : ¬ lo < 1 := by omega
  have c2 : ¬ hi < lo := by omega
  have c3 : ¬ 65279 < hi := by omega
  have k20 : call F Ip T (m + 61) 20 [.nils] (e0.alloc (.cells [.int .i64 lo, .int .i64 hi, v] .own)) = some (.fn 37 [] [.ptr 1 0], (e0.alloc (.cells [.int .i64 lo, .int .i64 hi, v] .own)).alloc (.cells [.nils] .own)) := by
    rw [call_F (by decide) h20 F20 rfl R20]; simp only [Try.f20, Option.getD]
    simp +contextual (maxSteps := 3000000) only [↓code_seq, ↓code_region, ↓code_ret, ↓ops_nil, ↓ops_cons, run_none, ↓run0_v, ↓run0_r, ↓seqK_normal, ↓retK_ret, put_same, put_ne, env0_at, ev_tmp, ev_const, oc_nilf, o_assign, o_box, o_makeFunc, g_none, next_e0, resultsOf, oneOrAll, Option.map_some, Option.getD_some, Nat.reduceEqDiff, not_false_eq_true, Nat.reduceAdd, List.getElem?_cons_zero, List.map_cons, List.map_nil, AH.next_alloc, ne_eq, box_nils]
    first
    | rfl
    | skip
  rw [call_F (by decide) h6 F6 rfl R6]; simp only [Try.f6, Option.getD]
  simp +contextual (maxSteps := 3000000) only [↓code_skip, ↓code_seq, ↓code_region, ↓code_cond, ↓code_ret, aCond_bool, ↓ops_nil, ↓ops_cons, run_none, run_someF, ↓run0_v, ↓run0_r, ↓seqK_normal, ↓retK_ret, put_same, put_ne, env0_at, ev_tmp, ev_const, ev_func, oc_int, oc_bool, oc_nilp, o_move, o_assign, o_pick, o_bin, o_call, o_box, o_build, g_none, g_some, pick_bool, bin_lss, bin_gtr, resultsOf, oneOrAll, Option.bind_some, Option.map_some, Option.getD_some, ↓reduceIte, Nat.reduceEqDiff, not_false_eq_true, Nat.reduceAdd, reduceCtorEq, List.getElem?_cons_zero, List.getElem?_cons_succ, List.getElem?_toArray, Bool.false_eq_true, List.map_cons, List.map_nil, List.append_nil, List.nil_append, List.cons_append, and_true, Nat.reduceLeDiff, gt_iff_lt, ne_eq, build_struct T58 d58, z58, parts_eq, fillA, AV.cells, AH.splice, List.take_succ_cons, List.take_zero, List.drop_succ_cons, List.drop_zero, List.length_cons, List.length_nil, p58_0, p58_1, p58_2, box_agg, c1, c2, c3, decide_false, k20, k1, callV_fn (g := 20) (by decide), callV_fn (g := 19) (by decide)]
end Go.AM.X
namespace Go.AM.X
open Go Go.AM Go.Proofs Go.AM.Sx
set_option maxHeartbeats 3200000
set_option maxRecDepth 100000
set_option linter.unusedSimpArgs false
set_option linter.unusedVariables false
/-- What of a station no hint and no request changes. -/
def core (s : Sn) : AV × List Int × Int × Int × Int × Int × Int := (s.rv, s.row, s.st, s.k, s.se, s.n, s.d)
def SameC (S S2 : List Sn) : Prop := S2.map core = S.map core
theorem SameC.refl (S : List Sn) : SameC S S := rfl
theorem SameC.trans {a b c : List Sn} (h : SameC a b) (k : SameC b c) : SameC a c := Eq.trans k h
theorem SameC.of_map {S : List Sn} {f : Sn → Sn} (hf : ∀ s, core (f s) = core s) : SameC S (S.map f) := by
  unfold SameC
  rw [List.map_map]
  exact List.map_congr_left fun s _ => hf s
theorem SameC.of_mapIdx {S : List Sn} {f : Nat → Sn → Sn} (hf : ∀ i s, core (f i s) = core s) : SameC S (S.mapIdx f) := by
  unfold SameC
  apply List.ext_getElem?
  intro i
  rw [List.getElem?_map, List.getElem?_map, List.getElem?_mapIdx]
  cases S[i]? with
  | none => rfl
  | some s => simp [hf]
theorem SameC.of_upd {S : List Sn} {i : Nat} {f : Sn → Sn} (hf : ∀ s, core (f s) = core s) : SameC S (updI S i f) := by
  unfold SameC updI
  split
  · rename_i s hs
    rw [List.map_set, hf]
    exact set_same (by rw [List.getElem?_map, hs]; rfl)
  · rfl
theorem SameC.len {S S2 : List Sn} (h : SameC S S2) : S2.length = S.length := by have := congrArg List.length h; simpa using this
theorem SameC.at_ {S S2 : List Sn} (h : SameC S S2) {i : Nat} {t : Sn} (ht : S2[i]? = some t) : ∃ s, S[i]? = some s ∧ core s = core t := by
  have h1 := congrArg (fun l => l[i]?) h
  simp only [List.getElem?_map, ht, Option.map_some] at h1
  have h2 := h1.symm
  rw [Option.map_eq_some_iff] at h2
  exact h2
theorem learn_c (n d t : Int) (s : Sn) : core (learnF n d t s) = core s := by unfold learnF; split <;> rfl
theorem glean_c (i : Nat) (n d : Int) (k : Nat) (o : Sn) : core (gleanF i n d k o) = core o := by
  unfold gleanF
  split
  · exact learn_c _ _ _ _
  · rfl
theorem ans_c (S : List Sn) (i : Nat) (n d : Int) : ∀ k s, core (ansF S i n d k s) = core s
  | 0, s => rfl
  | k + 1, s => by
    unfold ansF
    split
    · exact (learn_c _ _ _ _).trans (ans_c S i n d k s)
    · exact ans_c S i n d k s
theorem reqF_c (S : List Sn) (r : Rq) : SameC S (reqF S r) := by
  unfold reqF
  split
  · exact (SameC.of_mapIdx (glean_c _ _ _)).trans (SameC.of_upd (ans_c _ _ _ _ _))
  · exact SameC.refl S
theorem reqFs_c (R : List Rq) : ∀ S : List Sn, SameC S (R.foldl reqF S) := by
  induction R with
  | nil => exact fun S => SameC.refl S
  | cons r R ih => exact fun S => (reqF_c S r).trans (ih _)
theorem askS_c (S : List Sn) : SameC S (askS S) := by
  unfold askS
  exact ((SameC.of_map (f := incF) fun _ => rfl).trans (reqFs_c _ _)).trans (SameC.of_map (f := keepF) fun _ => rfl)
theorem stepS_c (lo hi : Int) (S : List Sn) : SameC (probeS lo hi S) (stepS lo hi S) := by
  unfold stepS
  exact (askS_c _).trans (SameC.of_map (f := ageF) fun _ => rfl)
theorem stepS_len (lo hi : Int) (S : List Sn) : (stepS lo hi S).length = S.length := (stepS_c lo hi S).len.trans (probeS_len lo hi S)
theorem eqA_iff {a b c d : Int} : eqA a b c d = true ↔ a = c ∧ b = d := by unfold eqA; simp
theorem eqA_comm (a b c d : Int) : eqA a b c d = eqA c d a b := by
  unfold eqA
  by_cases h1 : a = c <;> by_cases h2 : b = d <;> simp [h1, h2, eq_comm]
/-- Settled stations are settled as they were. -/
theorem Alone.sub {S S2 : List Sn} (hA : Alone S) (h : ∀ (i : Nat) (t : Sn), S2[i]? = some t → t.st = 2 → ∃ s, S[i]? = some s ∧ s.st = 2 ∧ s.n = t.n ∧ s.d = t.d) : Alone S2 := fun i j s t hij hs ht h1 h2 => by
  obtain ⟨s', a1, a2, a3, a4⟩ := h i s hs h1
  obtain ⟨t', b1, b2, b3, b4⟩ := h j t ht h2
  have := hA i j s' t' hij a1 b1 a2 b2
  rw [a3, a4, b3, b4] at this
  exact this
theorem Alone.core {S S2 : List Sn} (hA : Alone S) (h : SameC S S2) : Alone S2 := hA.sub fun i t ht h2 => by
  obtain ⟨s, hs, hc⟩ := h.at_ ht
  unfold Go.AM.X.core at hc
  simp only [Prod.mk.injEq] at hc
  exact ⟨s, hs, by rw [hc.2.2.1]; exact h2, hc.2.2.2.2.2.1, hc.2.2.2.2.2.2⟩
theorem Alone.upd {S : List Sn} (hA : Alone S) (i : Nat) {f : Sn → Sn} (hf : ∀ s, (f s).st = 2 → s.st = 2 ∧ s.n = (f s).n ∧ s.d = (f s).d) : Alone (updI S i f) := hA.sub fun j t ht h2 => by
  unfold updI at ht
  split at ht
  · rename_i s hs
    rw [List.getElem?_set] at ht
    by_cases e : i = j
    · rw [if_pos e] at ht
      split at ht
      · cases ht
        obtain ⟨q1, q2, q3⟩ := hf s h2
        exact ⟨s, by rw [← e]; exact hs, q1, q2, q3⟩
      · cases ht
    · rw [if_neg e] at ht
      exact ⟨t, ht, h2, rfl, rfl⟩
  · exact ⟨t, ht, h2, rfl, rfl⟩
theorem Alone.add {S : List Sn} (hA : Alone S) (v : AV) (row : List Int) : Alone (S ++ [newS v row]) := hA.sub fun j t ht h2 => by
  rcases Nat.lt_or_ge j S.length with g | g
  · rw [List.getElem?_append_left g] at ht
    exact ⟨t, ht, h2, rfl, rfl⟩
  · rw [List.getElem?_append_right g] at ht
    cases hj : j - S.length with
    | zero => rw [hj] at ht; cases ht; exact absurd h2 (show ¬ (0 : Int) = 2 by decide)
    | succ n => rw [hj] at ht; simp at ht
theorem probe_get (lo hi : Int) (S : List Sn) (i : Nat) : (probeS lo hi S)[i]? = (S[i]?).map fun o => if o.st = 1 then prF lo hi S i o else o := by unfold probeS; exact List.getElem?_mapIdx
theorem ansK_no {lo hi : Int} {S : List Sn} {i : Nat} (h : ¬ ansd lo hi S i = true) {k : Nat} {s o : Sn} (hk : S[k]? = some s) (hi' : S[i]? = some o) : ansB lo hi s o k i = false := by
  cases hb : ansB lo hi s o k i with
  | false => rfl
  | true =>
    exfalso
    apply h
    unfold ansd
    rw [List.any_eq_true]
    refine ⟨k, List.mem_range.2 (List.getElem?_eq_some_iff.1 hk).1, ?_⟩
    unfold ansK
    rw [hk, hi']; exact hb
/-- What a station that is settled behind a step was. -/
theorem settled_was {lo hi : Int} {S : List Sn} {i : Nat} {o : Sn} (ho : S[i]? = some o) (h2 : (if o.st = 1 then prF lo hi S i o else o).st = 2) :
    (o.st = 2 ∧ (if o.st = 1 then prF lo hi S i o else o) = o) ∨ (o.st = 1 ∧ ¬ ansd lo hi S i = true ∧ o.se = 9 ∧ (if o.st = 1 then prF lo hi S i o else o).n = adrN lo hi o.row o.k ∧ (if o.st = 1 then prF lo hi S i o else o).d = adrD o.row o.k) := by
  by_cases h1 : o.st = 1
  · refine .inr ⟨h1, ?_⟩
    rw [if_pos h1] at h2 ⊢
    unfold prF at h2 ⊢
    split at h2
    · simp only at h2
      split at h2 <;> omega
    · rename_i hna
      split at h2
      · rename_i h10
        rw [if_neg hna, if_pos h10]
        exact ⟨hna, by omega, rfl, rfl⟩
      · simp only at h2; omega
  · rw [if_neg h1] at h2 ⊢
    exact .inl ⟨h2, rfl⟩
theorem Alone.probe {lo hi : Int} {S : List Sn} (hA : Alone S) : Alone (probeS lo hi S) := fun i j s t hij hs ht h1 h2 => by
  rw [probe_get, Option.map_eq_some_iff] at hs ht
  obtain ⟨a, ha, rfl⟩ := hs
  obtain ⟨b, hb, rfl⟩ := ht
  rcases settled_was ha h1 with ⟨a1, a2⟩ | ⟨a1, a2, a3, a4, a5⟩
  · rw [a2]
    rcases settled_was hb h2 with ⟨b1, b2⟩ | ⟨b1, b2, b3, b4, b5⟩
    · rw [b2]; exact hA i j a b hij ha hb a1 b1
    · rw [b4, b5]
      have := ansK_no b2 ha hb
      unfold ansB at this
      rw [if_neg (by omega), if_pos a1] at this
      exact this
  · rw [a4, a5]
    rcases settled_was hb h2 with ⟨b1, b2⟩ | ⟨b1, b2, b3, b4, b5⟩
    · rw [b2]
      have := ansK_no a2 hb ha
      unfold ansB at this
      rw [if_neg (by omega), if_pos b1] at this
      rw [eqA_comm]; exact this
    · rw [b4, b5]
      have := ansK_no b2 ha hb
      unfold ansB at this
      rw [if_neg (by omega), if_neg (by omega), if_pos a1] at this
      rw [decide_eq_false (show ¬ b.se < a.se by omega), Bool.false_or, decide_eq_true (show a.se = b.se by omega), decide_eq_true hij, Bool.and_true, Bool.and_true] at this
      exact this
theorem Alone.step {lo hi : Int} {S : List Sn} (hA : Alone S) : Alone (stepS lo hi S) := hA.probe.core (stepS_c lo hi S)
theorem Nm.core {s t : Sn} (h : Nm s) (hc : core s = core t) : Nm t := by
  unfold Go.AM.X.core at hc
  simp only [Prod.mk.injEq] at hc
  unfold Nm at h ⊢
  rw [← hc.2.2.1, ← hc.2.2.2.1, ← hc.2.2.2.2.1]
  exact h
theorem Nm.step {lo hi : Int} {S : List Sn} (h : ∀ s ∈ S, Nm s) : ∀ s ∈ stepS lo hi S, Nm s := fun t ht => by
  obtain ⟨i, hi', rfl⟩ := List.getElem_of_mem ht
  obtain ⟨s, hs, hc⟩ := (stepS_c lo hi S).at_ (List.getElem?_eq_getElem hi')
  refine Nm.core ?_ hc
  rw [probe_get, Option.map_eq_some_iff] at hs
  obtain ⟨o, ho, rfl⟩ := hs
  have hN := h o (List.mem_of_getElem? ho)
  split
  · rename_i h1
    unfold Nm at hN ⊢
    unfold prF
    split
    · simp only
      split <;> omega
    · split
      · simp only; omega
      · simp only; omega
  · exact hN
theorem stepS_hs {lo hi : Int} {S : List Sn} {B C : Nat} (hB : ∀ s ∈ S, s.hs.length ≤ B) (hC : ∀ s ∈ S, s.qs.length ≤ C) (hl : S.length ≤ 100) : ∀ s ∈ stepS lo hi S, s.hs.length ≤ B + 10100 * C ∧ s.qs.length ≤ C := fun s hs => by
  unfold stepS at hs
  obtain ⟨t, ht, rfl⟩ := List.mem_map.1 hs
  have := askS_hs (S := probeS lo hi S) (B := B) (C := C) (fun s hs => by obtain ⟨t, ht, e1, e2⟩ := probeS_hq hs; rw [e1]; exact hB t ht) (fun s hs => by obtain ⟨t, ht, e1, e2⟩ := probeS_hq hs; rw [e2]; exact hC t ht) (by rw [probeS_len]; exact hl) t ht
  refine ⟨?_, this.2⟩
  show ((t.hs.map ageH).filter _).length ≤ _
  have h1 := List.length_filter_le (fun e : Hi => !decide (20 < e.g)) (t.hs.map ageH)
  rw [List.length_map] at h1
  omega
end Go.AM.X
namespace Go.AM.X
open Go Go.AM Go.Proofs Go.AM.Sx
set_option maxHeartbeats 12800000
set_option maxRecDepth 100000
set_option linter.unusedVariables false
theorem F13 : F 13 = some { body := (Try.f13.body.getD .skip), results := Try.f13.results.toList, rf := false } := by kernel_rfl
theorem R13 : regsOk T (Try.f13.body.getD .skip) = true := by kernel_rfl
theorem F4 : F 4 = some { body := (Try.f4.body.getD .skip), results := Try.f4.results.toList, rf := false } := by kernel_rfl
theorem R4 : regsOk T (Try.f4.body.getD .skip) = true := by kernel_rfl
structure Ac where
  dd : Int
  sn : Int
  n : Int
  d : Int
  row : List Int
def rowV (row : List Int) : AV := .lst false 1 row.length (row.map fun n => .int .i64 n)
def Ac.av (a : Ac) : List AV := [.int .i64 a.dd, .int .i64 a.sn, .int .i64 a.n, .int .i64 a.d, rowV a.row]
theorem Ac.len (a : Ac) : a.av.length = 5 := rfl
theorem loadAc {l : List Ac} {i : Nat} {a : Ac} (hx : l[i]? = some a) : ∃ pl, aIndexAddr T 39 (.lst false 5 l.length (fl Ac.av l)) (.int .i64 (i : Nat)) = some (.fp pl) ∧ pl.take 5 = [.int .i64 a.dd, .int .i64 a.sn, .int .i64 a.n, .int .i64 a.d, rowV a.row] ∧ 5 ≤ pl.length ∧ pl[0]? = some (.int .i64 a.dd) ∧ pl[4]? = some (rowV a.row) := by
  have hi := (List.getElem?_eq_some_iff.1 hx).1
  have h1 := fl_at Ac.av 5 Ac.len hx []
  rw [List.append_nil] at h1
  have hlt : (i + 1) * 5 ≤ l.length * 5 := Nat.mul_le_mul_right _ hi
  have h2 : 5 ≤ ((fl Ac.av l).drop (i * 5)).length := by rw [List.length_drop, fl_len Ac.av 5 Ac.len]; omega
  refine ⟨(fl Ac.av l).drop (i * 5), ?_, h1, h2, ?_, ?_⟩
  · rw [ia_lst T39 d39 T42 s42, if_pos ⟨by omega, by omega⟩]; simp
  · have := congrArg (fun l => l[0]?) h1
    simp only [List.getElem?_take] at this
    rw [if_pos (by decide)] at this
    exact this
  · have := congrArg (fun l => l[4]?) h1
    simp only [List.getElem?_take] at this
    rw [if_pos (by decide)] at this
    exact this
theorem rowV_len (row : List Int) (h : AH) : aLen T 22 (rowV row) h = some (.int .i64 (row.length : Nat)) := by simp [aLen, T22, d22, rowV]
def nAdds (l : List Ac) : Nat := (l.filter fun a => decide (a.dd = 0)).length
theorem run13 {I : Nat → Option (List AV → AH → Rs)} (h13 : I 13 = none) (m : Nat) (lo hi : Int) (lost : List Int) (l : List Ac) (h : AH) (hm : l.length ≤ 1000000000000000) :
    ∃ b h2, call F I T (m + 130) 13 [.agg [.int .i64 lo, .int .i64 hi, rowV lost], .lst false 5 l.length (fl Ac.av l)] h = some (.bool b, h2) ∧ Grow h h2 ∧ (b = true → l.length ≤ 120 ∧ nAdds l ≤ 12 ∧ ∀ a ∈ l, a.row.length ≤ 20) := by
  have hlen : ∀ h, aLen T 39 (.lst false 5 l.length (fl Ac.av l)) h = some (.int .i64 (l.length : Nat)) := fun h => by simp [aLen, T39, d39]
  have ia := fun i a (ha : l[i]? = some a) => loadAc ha
  obtain ⟨VL, hVL⟩ : ∃ VL, VL = AV.lst false 5 l.length (fl Ac.av l) := ⟨_, rfl⟩
  rw [← hVL] at hlen ia ⊢
  obtain ⟨h1, eB⟩ : ∃ h1, h1 = h.alloc (.cells [.int .i64 lo, .int .i64 hi, rowV lost] .own) := ⟨_, rfl⟩
  have gA : Grow h h1 := by rw [eB]; exact Grow.alloc _ _
  have g0 : h1.get h.next = some (.cells [.int .i64 lo, .int .i64 hi, rowV lost] .own) := by rw [eB, AH.get_alloc, if_pos rfl]
  have hlo := rowV_len lost
  by_cases c1 : (120 : Int) < (l.length : Int)
  · refine ⟨false, h1, ?_, gA, fun e => by cases e⟩
    rw [call_F (by decide) h13 F13 rfl R13]; simp only [Try.f13, Option.getD]
    simp +contextual (maxSteps := 3000000) only [↓code_seq, ↓code_region, ↓code_cond, ↓code_ret, aCond_bool, ↓ops_nil, ↓ops_cons, run_none, run_someF, ↓run0_v, ↓run0_r, ↓seqK_normal, ↓seqK_ret, ↓retK_ret, put_same, put_ne, env0_at, ev_tmp, ev_const, oc_int, oc_bool, o_move, o_assign, o_pick, o_bin, o_len, o_box, o_load, o_fieldAddr, g_none, g_some, pick_bool, bin_gtr, resultsOf, oneOrAll, Option.bind_some, Option.map_some, Option.getD_some, ↓reduceIte, Nat.reduceEqDiff, not_false_eq_true, List.getElem?_cons_zero, List.getElem?_cons_succ, List.getElem?_toArray, gt_iff_lt, ne_eq, box_agg, fa_ptr T24 p24_2 (by decide), Nat.zero_add, ← eB, hlen, eq_true c1, decide_true]
  by_cases c2 : (60 : Int) < (lost.length : Int)
  · refine ⟨false, h1, ?_, gA, fun e => by cases e⟩
    rw [call_F (by decide) h13 F13 rfl R13]; simp only [Try.f13, Option.getD]
    simp +contextual (maxSteps := 3000000) only [↓code_seq, ↓code_region, ↓code_cond, ↓code_ret, aCond_bool, ↓ops_nil, ↓ops_cons, run_none, run_someF, ↓run0_v, ↓run0_r, ↓seqK_normal, ↓seqK_ret, ↓retK_ret, put_same, put_ne, env0_at, ev_tmp, ev_const, oc_int, oc_bool, o_move, o_assign, o_pick, o_bin, o_len, o_box, o_load, o_fieldAddr, g_none, g_some, pick_bool, bin_gtr, resultsOf, oneOrAll, Option.bind_some, Option.map_some, Option.getD_some, ↓reduceIte, Nat.reduceEqDiff, not_false_eq_true, List.getElem?_cons_zero, List.getElem?_cons_succ, List.getElem?_toArray, Bool.false_eq_true, gt_iff_lt, ne_eq, box_agg, fa_ptr T24 p24_2 (by decide), load_p1 T22 a22, loadc_def, Nat.zero_add, ← eB, hlen, c1, g0, hlo, eq_true c2, decide_true, decide_false]
  obtain ⟨Qf, hQf⟩ : ∃ Qf : Rs → Prop, Qf = fun r => ∃ b h2, r = some (.bool b, h2) ∧ Grow h h2 ∧ (b = true → l.length ≤ 120 ∧ nAdds l ≤ 12 ∧ ∀ a ∈ l, a.row.length ≤ 20) := ⟨_, rfl⟩
  suffices hh : Qf (call F I T (m + 130) 13 [.agg [.int .i64 lo, .int .i64 hi, rowV lost], VL] h) by rw [hQf] at hh; exact hh
  rw [call_F (by decide) h13 F13 rfl R13]; simp only [Try.f13, Option.getD]
  simp +contextual (maxSteps := 3000000) only [↓code_skip, ↓code_seq, ↓code_region, ↓code_cond, ↓code_block, ↓code_loop, aCond_bool, ↓ops_nil, ↓ops_cons, run_none, run_someF, ↓run0_v, ↓run0_r, ↓seqK_normal, put_same, put_ne, env0_at, ev_tmp, ev_const, oc_int, oc_bool, o_move, o_assign, o_pick, o_bin, o_len, o_box, o_load, o_fieldAddr, g_none, g_some, pick_bool, bin_gtr, Option.bind_some, Option.getD_some, ↓reduceIte, Nat.reduceEqDiff, not_false_eq_true, List.getElem?_cons_zero, List.getElem?_cons_succ, List.getElem?_toArray, Bool.false_eq_true, gt_iff_lt, ne_eq, box_agg, fa_ptr T24 p24_2 (by decide), load_p1 T22 a22, loadc_def, Nat.zero_add, ← eB, hlen, c1, g0, hlo, c2, decide_false]
  refine iterL_wp (Q := fun r => Qf r) (N := l.length) (Inv := fun k e h' => ∃ i, k + i = l.length ∧ h' = h1 ∧ (∀ a ∈ l.take i, a.row.length ≤ 20) ∧ i ≤ l.length ∧ e 1 = VL ∧ e 5 = .int .i64 (nAdds (l.take i) : Nat) ∧ e 6 = .int .i64 (i : Nat)) ?_ ?_ (show l.length < m + 129 by omega)
  · rintro k e h' K' ⟨i, hk, hh, hr, hil, e1, e5, e6⟩ hnext hexit
    subst hh
    by_cases hi' : i < l.length
    · have d1 : (i : Int) < (l.length : Int) := by omega
      have d7 : IntKind.i64.wrap ((i : Int) + 1) = ((i + 1 : Nat) : Int) := by rw [wrap_i64 (by omega) (by omega)]; rfl
      obtain ⟨a, ha⟩ : ∃ a, l[i]? = some a := ⟨l[i], List.getElem?_eq_getElem hi'⟩
      obtain ⟨pl, w1, w2, w3, w4, w5⟩ := ia i a ha
      have w6 : ¬ pl.length < 4 := by omega
      have w6' : ¬ pl.length < 0 := by omega
      have w7 : (pl.drop 4)[0]? = some (rowV a.row) := by rw [List.getElem?_drop]; exact w5
      have w7' : (pl.drop 0)[0]? = some (.int .i64 a.dd) := by rw [List.getElem?_drop]; exact w4
      have hrl := rowV_len a.row
      have hna : nAdds (l.take i) ≤ i := by
        have := List.length_filter_le (fun a : Ac => decide (a.dd = 0)) (l.take i)
        rw [List.length_take] at this
        unfold nAdds; omega
      have d8 : IntKind.i64.wrap ((nAdds (l.take i) : Nat) + 1) = ((nAdds (l.take i) + 1 : Nat) : Int) := by rw [wrap_i64 (by omega) (by omega)]; rfl
      have htk : l.take (i + 1) = l.take i ++ [a] := by rw [List.take_add_one, ha]; rfl
      by_cases c3 : (20 : Int) < (a.row.length : Int)
      · by_cases c4 : a.dd = 0
        · simp +contextual (maxSteps := 3000000) only [↓code_skip, ↓code_seq, ↓code_region, ↓code_cond, ↓code_block, ↓code_ret, aCond_bool, ↓ops_nil, ↓ops_cons, run_none, ↓run0_v, ↓seqK_normal, ↓seqK_ret, ↓blkK_ret, put_same, put_ne, ev_tmp, ev_const, oc_int, oc_bool, o_move, o_assign, o_bin, o_len, o_load, o_fieldAddr, o_indexAddr, g_none, bin_add, bin_eql, bin_lss, bin_gtr, ↓reduceIte, Nat.reduceEqDiff, not_false_eq_true, Nat.succ_ne_self, gt_iff_lt, ne_eq, load_fp1 T22 a22, fa_fp T42 p42_0 (by decide), load_fp1 T3 a3, fa_fp T42 p42_3 (by decide), e1, e5, e6, d1, hlen, w1, w4, w6, w6', w7, List.drop_zero, eq_true c4, d8, hrl, c3, decide_true]
          refine hexit _ _ _ (by simp) ?_
          simp +contextual (maxSteps := 3000000) only [↓seqK_ret, ↓blkK_ret, ↓retK_ret, put_same, resultsOf, oneOrAll, Option.map_some]
          rw [hQf]; exact ⟨false, _, rfl, gA, fun e => by cases e⟩
        · simp +contextual (maxSteps := 3000000) only [↓code_skip, ↓code_seq, ↓code_region, ↓code_cond, ↓code_block, ↓code_ret, aCond_bool, ↓ops_nil, ↓ops_cons, run_none, ↓run0_v, ↓seqK_normal, ↓seqK_ret, ↓blkK_ret, put_same, put_ne, ev_tmp, ev_const, oc_int, oc_bool, o_move, o_assign, o_bin, o_len, o_load, o_fieldAddr, o_indexAddr, g_none, bin_eql, bin_lss, bin_gtr, ↓reduceIte, Nat.reduceEqDiff, not_false_eq_true, Bool.false_eq_true, gt_iff_lt, ne_eq, load_fp1 T22 a22, fa_fp T42 p42_0 (by decide), load_fp1 T3 a3, fa_fp T42 p42_3 (by decide), e1, e6, d1, hlen, w1, w4, w6, w6', w7, List.drop_zero, c4, hrl, c3, decide_true, decide_false]
          refine hexit _ _ _ (by simp) ?_
          simp +contextual (maxSteps := 3000000) only [↓seqK_ret, ↓blkK_ret, ↓retK_ret, put_same, resultsOf, oneOrAll, Option.map_some]
          rw [hQf]; exact ⟨false, _, rfl, gA, fun e => by cases e⟩
      · by_cases c4 : a.dd = 0
        · have hn1 : nAdds (l.take (i + 1)) = nAdds (l.take i) + 1 := by rw [htk]; unfold nAdds; rw [List.filter_append, List.filter_cons_of_pos (by simpa using c4)]; simp
          simp +contextual (maxSteps := 3000000) only [↓code_skip, ↓code_seq, ↓code_region, ↓code_cond, ↓code_block, aCond_bool, ↓ops_nil, ↓ops_cons, run_none, ↓run0_v, ↓seqK_normal, ↓blkK_normal, put_same, put_ne, ev_tmp, ev_const, oc_int, o_move, o_assign, o_bin, o_len, o_load, o_fieldAddr, o_indexAddr, g_none, bin_add, bin_eql, bin_lss, bin_gtr, ↓reduceIte, Nat.reduceEqDiff, not_false_eq_true, Nat.succ_ne_self, Bool.false_eq_true, gt_iff_lt, ne_eq, load_fp1 T22 a22, fa_fp T42 p42_0 (by decide), load_fp1 T3 a3, fa_fp T42 p42_3 (by decide), e1, e5, e6, d1, hlen, w1, w4, w6, w6', w7, List.drop_zero, eq_true c4, d8, hrl, c3, d7, decide_true, decide_false]
          refine hnext (k - 1) _ _ (by omega) ⟨i + 1, by omega, ?_, ?_, ?_, ?_, ?_, ?_⟩
          · rfl
          · (intro x hx; rw [htk] at hx; rcases List.mem_append.1 hx with g | g; exact hr x g; rw [List.mem_singleton.1 g]; omega)
          · omega
          · simp only [put_ne, Nat.reduceEqDiff, not_false_eq_true, ne_eq, e1]
          · simp only [put_same, put_ne, Nat.reduceEqDiff, not_false_eq_true, ne_eq]; rw [hn1]
          · simp only [put_same]
        · have hn1 : nAdds (l.take (i + 1)) = nAdds (l.take i) := by rw [htk]; unfold nAdds; rw [List.filter_append, List.filter_cons_of_neg (by simpa using c4)]; simp
          simp +contextual (maxSteps := 3000000) only [↓code_skip, ↓code_seq, ↓code_region, ↓code_cond, ↓code_block, aCond_bool, ↓ops_nil, ↓ops_cons, run_none, ↓run0_v, ↓seqK_normal, ↓blkK_normal, put_same, put_ne, ev_tmp, ev_const, oc_int, o_move, o_assign, o_bin, o_len, o_load, o_fieldAddr, o_indexAddr, g_none, bin_add, bin_eql, bin_lss, bin_gtr, ↓reduceIte, Nat.reduceEqDiff, not_false_eq_true, Bool.false_eq_true, gt_iff_lt, ne_eq, load_fp1 T22 a22, fa_fp T42 p42_0 (by decide), load_fp1 T3 a3, fa_fp T42 p42_3 (by decide), e1, e6, d1, hlen, w1, w4, w6, w6', w7, List.drop_zero, c4, hrl, c3, d7, decide_true, decide_false]
          refine hnext (k - 1) _ _ (by omega) ⟨i + 1, by omega, ?_, ?_, ?_, ?_, ?_, ?_⟩
          · rfl
          · (intro x hx; rw [htk] at hx; rcases List.mem_append.1 hx with g | g; exact hr x g; rw [List.mem_singleton.1 g]; omega)
          · omega
          · simp only [put_ne, Nat.reduceEqDiff, not_false_eq_true, ne_eq, e1]
          · simp only [put_ne, Nat.reduceEqDiff, not_false_eq_true, ne_eq, e5]; rw [hn1]
          · simp only [put_same]
    · have d1 : ¬ (i : Int) < (l.length : Int) := by omega
      rw [List.take_of_length_le (by omega)] at hr e5
      simp +contextual (maxSteps := 3000000) only [↓code_seq, ↓code_region, ↓code_cond, ↓code_exit, aCond_bool, ↓ops_nil, ↓ops_cons, run_none, ↓run0_v, ↓seqK_normal, ↓seqK_exit, put_same, put_ne, ev_tmp, o_move, o_bin, o_len, g_none, bin_lss, decide_eq_true_eq, ↓reduceIte, Nat.reduceEqDiff, not_false_eq_true, ne_eq, e1, e6, d1, hlen]
      refine hexit _ _ _ (by simp) ?_
      simp +contextual (maxSteps := 3000000) only [↓code_seq, ↓code_region, ↓code_ret, ↓ops_nil, ↓ops_cons, run_none, ↓run0_v, ↓seqK_normal, ↓blkK_exit, ↓retK_ret, put_same, put_ne, ev_tmp, ev_const, oc_int, o_move, o_assign, o_bin, g_none, bin_leq, resultsOf, oneOrAll, Option.map_some, ↓reduceIte, Nat.reduceEqDiff, not_false_eq_true, ne_eq, e5]
      rw [hQf]
      refine ⟨_, _, rfl, gA, fun e => ⟨by omega, ?_, hr⟩⟩
      have := of_decide_eq_true e
      omega
  · refine ⟨0, by omega, ?_, ?_, ?_, ?_, ?_, ?_⟩
    · rfl
    · (intro x hx; simp at hx)
    · omega
    · simp only [put_ne, env0_at, Option.getD_some, Nat.reduceEqDiff, not_false_eq_true, List.getElem?_cons_zero, List.getElem?_cons_succ, ne_eq]
    · simp only [put_same, put_ne, Nat.reduceEqDiff, not_false_eq_true, ne_eq]; rfl
    · simp only [put_same]; rfl
end Go.AM.X
