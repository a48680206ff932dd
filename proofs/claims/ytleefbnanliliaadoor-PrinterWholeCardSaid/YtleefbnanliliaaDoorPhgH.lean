/- Printers: a spooler forwards. Own work. -/
import Derived.Test.YtleefbnanliliaaDoorPhgG
namespace Go.AM.X
open Go Go.AM Go.Proofs Go.AM.Sx
set_option maxHeartbeats 3200000
set_option maxRecDepth 100000
set_option linter.unusedSimpArgs false
set_option linter.unusedVariables false
/-- What a spooler forwards to a printer: what is told, how many jobs have left, the printer then. -/
def fwV (S V : Vp) (s : Nat) : Int × Int × Vp :=
  if ((S.js.length : Nat) : Int) - S.lf = 0 ∨ V.ws.any (pW 0) = true then (0, S.lf, V)
  else match V.ss.findIdx? (fun s => decide (s.c = 0)) with
    | none => (wantEV V ⟨0, 0, .ptr s 0⟩, S.lf, { V with ws := wantPV V ⟨0, 0, .ptr s 0⟩ })
    | some i => match V.ss[i]?, S.js[S.lf.toNat]? with
      | some x, some j =>
        let d := if x.j = S.lf then x.d else []
        let V1 : Vp := if x.j = S.lf then V else { V with ss := V.ss.set i { x with j := S.lf, d := [] } }
        let b := min (d.length + V.q.toNat) j.2.length
        let r := sendV V1 i (x.q % 255 + 1) ((j.2.drop d.length).take (b - d.length)) (decide (b = j.2.length))
        (r.1, if r.1 = 0 ∧ b = j.2.length then S.lf + 1 else S.lf, r.2)
      | _, _ => (0, S.lf, V)
end Go.AM.X
namespace Go.AM.X
open Go Go.AM Go.Proofs Go.AM.Sx
set_option maxHeartbeats 3200000
set_option maxRecDepth 100000
set_option linter.unusedVariables false
/-- How many rounds are wanted for what is left. -/
def need (q : Nat) (todo : List (List Int)) (cur : Option Nat) : Nat :=
  match cur, todo with
  | none, _ => (todo.map fun b => b.length / q + 2).sum
  | some _, [] => 0
  | some k, b :: r => (b.length - k) / q + 1 + (r.map fun b => b.length / q + 2).sum
/-- What a printer is between two rounds. -/
structure FI (s q : Nat) (done todo : List (List Int)) (cur : Option Nat) (V : Vp) : Prop where
  q : V.q = (q : Int)
  r : V.r = 0
  ws : V.ws = []
  js : V.js = done.map fun b => ((0 : Int), b)
  ss : (V.ss = [] ∧ cur = none) ∨ ∃ x b r, V.ss = [x] ∧ todo = b :: r ∧ cur = some x.d.length ∧ x.c = 0 ∧ x.b = .ptr s 0 ∧ 0 ≤ x.q ∧ x.q ≤ 255 ∧ 0 ≤ x.s ∧ x.s ≤ 1 ∧ (x.j = ((done.length : Nat) : Int) ∨ x.d = []) ∧ x.d = b.take x.d.length ∧ x.d.length ≤ b.length
theorem best_one (w : Wt) : best [w] = 0 := by simp [best, bestAt, wAt]
theorem serve_nil (n : Nat) : serveL n [] = ([], []) := by cases n <;> simp [serveL]
theorem serve_one (n : Nat) (w : Wt) : serveL (n + 1) [w] = ([w], []) := by
  rw [serveL, if_neg (by simp), best_one]
  simp [serve_nil]
theorem tick_none {V : Vp} (h1 : V.ws = []) (h2 : V.ss = []) : tickV V = V := by
  obtain ⟨q, r, lf, ws, ss, js⟩ := V
  simp only at h1 h2
  subst h1; subst h2
  simp [tickV, keptV, serve_nil]
theorem tick_want {V : Vp} {w : Wt} (h1 : V.ws = [w]) (h2 : V.ss = []) (hr : 0 ≤ V.r) : tickV V = { V with ws := [], ss := [newV w] } := by
  obtain ⟨q, r, lf, ws, ss, js⟩ := V
  simp only at h1 h2 hr
  subst h1; subst h2
  obtain ⟨k, hk⟩ : ∃ k, freeV ⟨q, r, lf, [w], [], js⟩ = k + 1 := ⟨freeV ⟨q, r, lf, [w], [], js⟩ - 1, by unfold freeV keptV; simp; omega⟩
  unfold tickV
  rw [hk]
  simp [keptV, serve_one, newV, incW]
theorem tick_serve {V : Vp} {x : Vs} (h1 : V.ws = []) (h2 : V.ss = [x]) (h3 : 0 ≤ x.s ∧ x.s ≤ 20) : tickV V = { V with ss := [{ x with s := x.s + 1 }] } := by
  obtain ⟨q, r, lf, ws, ss, js⟩ := V
  simp only at h1 h2
  subst h1; subst h2
  have hk : keptV ⟨q, r, lf, [], [x], js⟩ = [{ x with s := x.s + 1 }] := by
    unfold keptV
    simp only [List.map_cons, List.map_nil, incV]
    rw [List.filter_cons_of_pos (by unfold keepV; simp; omega)]
    rfl
  unfold tickV
  rw [hk]
  simp [serve_nil]
theorem round {s q : Nat} {S V : Vp} {done todo : List (List Int)} {cur : Option Nat} (hq : 1 ≤ q) (hF : FI s q done todo cur V) (hlf : S.lf = ((done.length : Nat) : Int)) (hjs : S.js.map Prod.snd = done ++ todo) (hl : ∀ b ∈ done ++ todo, b.length ≤ 300) :
    (fwV S V s).1 = 0 ∧ ∃ done' todo' cur', done' ++ todo' = done ++ todo ∧ (fwV S V s).2.1 = ((done'.length : Nat) : Int) ∧ FI s q done' todo' cur' (tickV (fwV S V s).2.2) ∧ (need q todo' cur' + 1 ≤ need q todo cur ∨ (need q todo cur = 0 ∧ need q todo' cur' = 0)) ∧ (fwV S V s).2.2.q = (q : Int) ∧ (fwV S V s).2.2.r = 0 ∧ (∀ w ∈ (fwV S V s).2.2.ws, 0 ≤ w.w ∧ w.w ≤ 1) ∧ (∀ x ∈ (fwV S V s).2.2.ss, 0 ≤ x.s ∧ x.s ≤ 1) := by
  have hlen : S.js.length = done.length + todo.length := by have := congrArg List.length hjs; simpa using this
  have hws := hF.ws
  have hany : ¬ V.ws.any (pW 0) = true := by rw [hws]; simp
  rcases hF.ss with ⟨hss, rfl⟩ | ⟨x, b, r, hss, rfl, rfl, hxc, hxb, hxq1, hxq2, hxs1, hxs2, hxj, hxd, hxl⟩
  · cases todo with
    | nil =>
      have hfw : fwV S V s = (0, S.lf, V) := by unfold fwV; rw [if_pos (.inl (by rw [hlen, hlf]; simp))]
      rw [hfw]
      refine ⟨rfl, done, [], none, rfl, hlf, by rw [tick_none hws hss]; exact hF, .inr ⟨rfl, rfl⟩, hF.q, hF.r, by simp [hws], by simp [hss]⟩
    | cons b r =>
      have hE : wantEV V ⟨0, 0, .ptr s 0⟩ = 0 := by unfold wantEV; rw [hws, hss]; simp
      have hW : wantPV V ⟨0, 0, .ptr s 0⟩ = [⟨0, 0, .ptr s 0⟩] := by unfold wantPV; rw [if_pos hE, hws]; rfl
      have hnq : ¬ (((S.js.length : Nat) : Int) - S.lf = 0 ∨ V.ws.any (pW 0) = true) := by
        rintro (h | h)
        · rw [hlen, hlf] at h; simp only [List.length_cons] at h; omega
        · exact hany h
      have hfw : fwV S V s = (0, S.lf, { V with ws := [⟨0, 0, .ptr s 0⟩] }) := by
        unfold fwV
        rw [if_neg hnq, hE, hW, hss]
        rfl
      rw [hfw]
      have ht : tickV { V with ws := [(⟨0, 0, .ptr s 0⟩ : Wt)] } = { V with ws := [], ss := [newV ⟨0, 0, .ptr s 0⟩] } := tick_want rfl hss (by show 0 ≤ V.r; rw [hF.r]; decide)
      refine ⟨rfl, done, b :: r, some 0, rfl, hlf, ?_, .inl ?_, hF.q, hF.r, by simp, by simp [hss]⟩
      · rw [ht]
        exact { q := hF.q, r := hF.r, ws := rfl, js := hF.js, ss := .inr ⟨newV ⟨0, 0, .ptr s 0⟩, b, r, rfl, rfl, rfl, rfl, rfl, by simp [newV], by simp [newV], by simp [newV], by simp [newV], .inr rfl, by simp [newV], by simp [newV]⟩ }
      · simp [need]; omega
  · have hbl : b.length ≤ 300 := hl b (by simp)
    have hSb : ∃ c, S.js[done.length]? = some (c, b) := by
      have h1 : (S.js.map Prod.snd)[done.length]? = some b := by rw [hjs]; simp
      rw [List.getElem?_map] at h1
      cases h2 : S.js[done.length]? with
      | none => rw [h2] at h1; cases h1
      | some p => rw [h2] at h1; simp at h1; exact ⟨p.1, by rw [← h1]⟩
    obtain ⟨c, hSb⟩ := hSb
    have hd : (if x.j = S.lf then x.d else []) = x.d := by
      rcases hxj with h | h
      · rw [if_pos (by rw [h, hlf])]
      · split
        · rfl
        · exact h.symm
    obtain ⟨V1, hV1⟩ : ∃ V1 : Vp, V1 = if x.j = S.lf then V else { V with ss := V.ss.set 0 { x with j := S.lf, d := [] } } := ⟨_, rfl⟩
    obtain ⟨y, hy⟩ : ∃ y : Vs, y = { x with j := S.lf } := ⟨_, rfl⟩
    have hV1s : V1.ss = [y] ∧ V1.q = V.q ∧ V1.r = V.r ∧ V1.lf = V.lf ∧ V1.ws = V.ws ∧ V1.js = V.js := by
      rw [hV1]
      split
      · next h =>
        refine ⟨?_, rfl, rfl, rfl, rfl, rfl⟩
        rw [hss, hy]
        obtain ⟨xc, xb, xj, xq, xs, xd⟩ := x
        simp only at h
        subst h; rfl
      · next h =>
        refine ⟨?_, rfl, rfl, rfl, rfl, rfl⟩
        have : x.d = [] := by
          rcases hxj with h2 | h2
          · exact absurd (h2.trans hlf.symm) h
          · exact h2
        show V.ss.set 0 _ = _
        rw [hss, hy]
        simp [this]
    obtain ⟨e1, e2, e3, e4, e5, e6⟩ := hV1s
    obtain ⟨B, hB⟩ : ∃ B, B = min (x.d.length + q) b.length := ⟨_, rfl⟩
    obtain ⟨pc, hpc⟩ : ∃ pc, pc = (b.drop x.d.length).take (B - x.d.length) := ⟨_, rfl⟩
    have hpl : pc.length = B - x.d.length := by rw [hpc, List.length_take, List.length_drop]; omega
    have hcat : x.d ++ pc = b.take B := by
      rw [hpc]
      conv => lhs; lhs; rw [hxd]
      have hBle : x.d.length ≤ B := by omega
      have : b.take B = b.take (x.d.length + (B - x.d.length)) := by congr 1; omega
      rw [this, List.take_add]
    have hsend : sendV V1 0 (x.q % 255 + 1) pc (decide (B = b.length)) = if B = b.length then (0, { V1 with ss := [], js := V1.js ++ [((0 : Int), b)] }) else (0, { V1 with ss := [{ y with q := x.q % 255 + 1, s := 0, d := b.take B }] }) := by
      unfold sendV
      rw [e1]
      simp only [List.getElem?_cons_zero]
      have hyq : y.q = x.q := by rw [hy]
      have hyd : y.d = x.d := by rw [hy]
      have hyc : y.c = 0 := by rw [hy]; exact hxc
      rw [hyq, hyd, hyc, if_neg (by omega), if_neg (by simp), if_neg (by omega), hcat]
      by_cases hBe : B = b.length
      · rw [if_pos (by simp [hBe]), if_pos hBe, hBe, List.take_length]; rfl
      · rw [if_neg (by simp [hBe]), if_neg hBe]; rfl
    have hnq : ¬ (((S.js.length : Nat) : Int) - S.lf = 0 ∨ V.ws.any (pW 0) = true) := by
      rintro (h | h)
      · rw [hlen, hlf] at h; simp only [List.length_cons] at h; omega
      · exact hany h
    have hfw : fwV S V s = ((sendV V1 0 (x.q % 255 + 1) pc (decide (B = b.length))).1, if (sendV V1 0 (x.q % 255 + 1) pc (decide (B = b.length))).1 = 0 ∧ B = b.length then S.lf + 1 else S.lf, (sendV V1 0 (x.q % 255 + 1) pc (decide (B = b.length))).2) := by
      unfold fwV
      rw [if_neg hnq, hss]
      have hf : [x].findIdx? (fun s => decide (s.c = 0)) = some 0 := by simp [List.findIdx?_cons, hxc]
      rw [hf]
      simp only [List.getElem?_cons_zero, show S.js[S.lf.toNat]? = some (c, b) by rw [hlf]; exact hSb]
      rw [hd, show V.q.toNat = q by rw [hF.q]; rfl, ← hss, ← hV1, ← hB, ← hpc]
    rw [hfw, hsend]
    by_cases hBe : B = b.length
    · rw [if_pos hBe]
      have hne : (if (0 : Int) = 0 ∧ B = b.length then S.lf + 1 else S.lf) = S.lf + 1 := if_pos ⟨rfl, hBe⟩
      rw [hne]
      refine ⟨rfl, done ++ [b], r, none, by simp, by rw [hlf]; simp, ?_, .inl ?_, by show V1.q = _; rw [e2]; exact hF.q, by show V1.r = _; rw [e3]; exact hF.r, by show ∀ w ∈ V1.ws, _; rw [e5, hws]; simp, by simp⟩
      · have ht := tick_none (V := { V1 with ss := [], js := V1.js ++ [((0 : Int), b)] }) (show V1.ws = [] by rw [e5]; exact hws) rfl
        show FI s q (done ++ [b]) r none (tickV { V1 with ss := [], js := V1.js ++ [((0 : Int), b)] })
        rw [ht]
        exact { q := by show V1.q = _; rw [e2]; exact hF.q, r := by show V1.r = _; rw [e3]; exact hF.r, ws := by show V1.ws = _; rw [e5]; exact hws, js := by show V1.js ++ _ = _; rw [e6, hF.js]; simp, ss := .inl ⟨rfl, rfl⟩ }
      · simp only [need]
        generalize (b.length - x.d.length) / q = z
        omega
    · rw [if_neg hBe]
      have hne : (if (0 : Int) = 0 ∧ B = b.length then S.lf + 1 else S.lf) = S.lf := if_neg fun h => hBe h.2
      rw [hne]
      have hB2 : B = x.d.length + q := by omega
      have hBl : (b.take B).length = B := by rw [List.length_take]; omega
      refine ⟨rfl, done, b :: r, some B, rfl, hlf, ?_, .inl ?_, by show V1.q = _; rw [e2]; exact hF.q, by show V1.r = _; rw [e3]; exact hF.r, by show ∀ w ∈ V1.ws, _; rw [e5, hws]; simp, by simp⟩
      · have ht := tick_serve (V := { V1 with ss := [{ y with q := x.q % 255 + 1, s := 0, d := b.take B }] }) (x := { y with q := x.q % 255 + 1, s := 0, d := b.take B }) (show V1.ws = [] by rw [e5]; exact hws) rfl (by simp)
        show FI s q done (b :: r) (some B) (tickV { V1 with ss := [{ y with q := x.q % 255 + 1, s := 0, d := b.take B }] })
        rw [ht]
        refine { q := by show V1.q = _; rw [e2]; exact hF.q, r := by show V1.r = _; rw [e3]; exact hF.r, ws := by show V1.ws = _; rw [e5]; exact hws, js := by show V1.js = _; rw [e6]; exact hF.js, ss := .inr ⟨_, b, r, rfl, rfl, by simp only; rw [hBl], ?_, ?_, ?_, ?_, by simp, by simp, .inl ?_, ?_, ?_⟩ }
        · show y.c = 0; rw [hy]; exact hxc
        · show y.b = _; rw [hy]; exact hxb
        · show 0 ≤ x.q % 255 + 1; omega
        · show x.q % 255 + 1 ≤ 255; omega
        · show y.j = _; rw [hy]; exact hlf
        · show b.take B = b.take (b.take B).length; rw [hBl]
        · show (b.take B).length ≤ _; omega
      · simp only [need]
        have h1 : (b.length - x.d.length) / q = (b.length - B) / q + 1 := by
          have : b.length - x.d.length = (b.length - B) + q := by omega
          rw [this, Nat.add_div_right _ hq]
        rw [h1]
        generalize (b.length - B) / q = z
        omega
end Go.AM.X
namespace Go.AM.X
open Go Go.AM Go.Proofs Go.AM.Sx
set_option maxHeartbeats 3200000
set_option maxRecDepth 100000
set_option linter.unusedVariables false
noncomputable def tt9 : TI := (T 9).getD ⟨.bool, 0, 0, [], false, [], [], none⟩
theorem T9 : T 9 = some tt9 := by kernel_rfl
theorem d9 : tt9.desc = .string := by kernel_rfl
theorem s9 : tt9.size = 1 := by kernel_rfl
theorem b9 : tt9.bytes = 16 := by kernel_rfl
theorem a9 : tt9.agg = false := by kernel_rfl
noncomputable def tt64 : TI := (T 64).getD ⟨.bool, 0, 0, [], false, [], [], none⟩
theorem T64 : T 64 = some tt64 := by kernel_rfl
theorem d64 : tt64.desc = .slice 9 := by kernel_rfl
theorem F20 : F 20 = some { body := (Tryd.f20.body.getD .skip), results := Tryd.f20.results.toList, rf := false } := by kernel_rfl
theorem R20 : regsOk T (Tryd.f20.body.getD .skip) = true := by kernel_rfl
theorem K20 {I : Nat → Option (List AV → AH → Rs)} (h30 : I 30 = none) (h20 : I 20 = none) (m : Nat) (q r : Int) (h : AH) (hq : okQ q = true ∧ within r 1 20 = true) : call F I T (m + 2) 20 [.int .i64 q, .int .i64 r] h = some (.tup [.ptr h.next 0, .int .i64 0], h.alloc (prt q r)) := by
  have h1 : within q 1 500 = true := hq.1
  have h2 := hq.2
  rw [call_F (by decide) h20 F20 rfl R20]; simp only [Tryd.f20, Option.getD]
  simp +contextual (maxSteps := 3000000) only [↓code_skip, ↓code_seq, ↓code_region, ↓code_cond, ↓code_ret, aCond_bool, ↓ops_nil, ↓ops_cons, run_none, run_someF, ↓run0_v, ↓run0_r, ↓seqK_normal, ↓retK_ret, put_same, put_ne, env0_at, ev_tmp, ev_const, ev_func, oc_int, oc_bool, oc_nilp, o_move, o_assign, o_pick, o_call, o_box, o_build, o_un, g_none, g_some, pick_bool, un_not, resultsOf, oneOrAll, Option.bind_some, Option.map_some, Option.getD_some, ↓reduceIte, Nat.reduceEqDiff, not_false_eq_true, Nat.reduceAdd, reduceCtorEq, List.getElem?_cons_zero, List.getElem?_cons_succ, List.getElem?_toArray, Bool.false_eq_true, List.map_cons, List.map_nil, List.append_nil, List.nil_append, List.cons_append, and_true, Nat.reduceLeDiff, Bool.not_true, ne_eq, build_struct T73 d73, z73, parts_eq, fillA, AV.cells, AH.splice, List.take_succ_cons, List.take_zero, List.drop_succ_cons, List.drop_zero, List.length_cons, List.length_nil, p73_0, p73_1, box_agg, callV_fn (g := 30) (by decide), K30 h30, prt, h1, h2]
theorem okV0 (h : AH) (q r : Int) : ∃ off, OkV (h.alloc (prt q r)) h.next ⟨q, r, 0, [], [], []⟩ off ∧ ∀ c, c < h.next → off c := by
  obtain ⟨P, hP⟩ : ∃ P : Pr, P = ⟨q, r, 0, .nils, .nils, .nils, [], []⟩ := ⟨_, rfl⟩
  subst hP
  have hO : OkP (h.alloc (prt q r)) h.next ⟨q, r, 0, .nils, .nils, .nils, [], []⟩ := by
    exact { lt := by simp
            g := by rw [AH.get_alloc, if_pos rfl]; rfl
            w := RowC.nil _ _
            s := RowC.nil _ _
            b := fun x hx => by cases hx
            wp := fun _ _ _ _ _ _ e => by cases e
            sp := fun _ _ _ _ _ _ e => by cases e
            wsv := fun _ _ _ _ _ _ e => by cases e
            ap := fun x hx => by cases hx
            nd := List.nodup_nil
            wb := fun x hx => by cases hx
            jc := ⟨rfl, rfl⟩
            wl := Nat.zero_le _
            sl := Nat.zero_le _ }
  have hD : OkD (h.alloc (prt q r)) h.next ⟨q, r, 0, .nils, .nils, .nils, [], []⟩ (fun _ => []) [] := by
    refine { ok := hO, dd := ?_, dx := ?_, dn := ?_, jr := ?_, jx := ?_, jd := ?_, jf := ?_ }
    · intro s hs; cases hs
    · intro s hs; cases hs
    · intro s hs; cases hs
    · exact RowC.nil _ _
    · intro b o l k z x e; cases e
    · intro j hj; cases hj
    · intro j hj; cases hj
  refine ⟨_, ⟨_, _, _, hD, rfl, rfl⟩, fun c hc => ?_⟩
  exact ⟨⟨(by omega), (fun _ _ _ _ _ _ e => by cases e), (fun _ _ _ _ _ _ e => by cases e), (fun s hs => by cases hs)⟩, (fun _ _ _ _ _ _ e => by cases e), (fun s hs => by cases hs), (fun s hs => by cases hs)⟩
theorem RowC.other {sz n : Nat} {h h2 : AH} {v : AV} {cs : List AV} {o o2 : Nat → Prop} (hr : RowC sz h v n cs) (hA : Apt o (offRow v)) (hS : Stf h h2 o o2) : RowC sz h2 v n cs ∧ Apt o2 (offRow v) :=
  ⟨hr.keep hS.1 fun b _ _ _ _ _ e => (hS.2 b (hr.lt e) ((hA b).resolve_right fun h => h _ _ _ _ _ _ e rfl)).1, hA.step hS fun c hc b _ _ _ _ _ e => by have := hr.lt e; omega⟩
/-- Two printers and a row, none of which has a block with another one. -/
structure Tri (h : AH) (S V : Vp) (offS offV : Nat → Prop) (w : AV) (n : Nat) (cs : List AV) : Prop where
  fs : OkV h 1 S offS
  fv : OkV h 0 V offV
  fr : RowC 1 h w n cs
  a : Apt offV offS
  ws : Apt offS (offRow w)
  wv : Apt offV (offRow w)
theorem Tri.stepV {h h2 : AH} {S V V2 : Vp} {offS offV offV2 : Nat → Prop} {w : AV} {n : Nat} {cs : List AV} (t : Tri h S V offS offV w n cs) (hv : OkV h2 0 V2 offV2) (st : Stf h h2 offV offV2) : Tri h2 S V2 offS offV2 w n cs := by
  obtain ⟨v1, v2⟩ := t.fs.other t.a st
  obtain ⟨w1, w2⟩ := RowC.other t.fr t.wv st
  exact ⟨v1, hv, w1, v2, t.ws, w2⟩
theorem Tri.grow {h h2 : AH} {S V : Vp} {offS offV : Nat → Prop} {w : AV} {n : Nat} {cs : List AV} (t : Tri h S V offS offV w n cs) (hg : Grow h h2) : Tri h2 S V offS offV w n cs :=
  ⟨t.fs.grow hg, t.fv.grow hg, t.fr.grow hg, t.a, t.ws, t.wv⟩
theorem Tri.push {h : AH} {S V : Vp} {offS offV : Nat → Prop} {w : AV} {n : Nat} {cs : List AV} (t : Tri h S V offS offV w n cs) (s : List UInt8) (hn : n ≤ 1000) :
    ∃ w' h2, aAppend T 64 64 w (.sl h.next 0 1 1 1 true) (h.alloc (.cells [.str s] .own)) = some (w', h2) ∧ Tri h2 S V offS offV w' (n + 1) (cs ++ [.str s]) := by
  obtain ⟨w', h2, q1, q2, q3, q4, q5⟩ := t.fr.push (new := [.str s]) T64 d64 T9 s9 (by decide) (by rw [b9]; decide) rfl rfl (by rw [b9]; simp [maxBytes]; omega)
  have st : Stf h h2 (offRow w) (offRow w') := ⟨by omega, fun c hc ho => ⟨q4 c hc ho, off_new (h := h) q5 hc ho⟩⟩
  obtain ⟨s1, s2⟩ := t.fs.other t.ws.symm st
  obtain ⟨v1, v2⟩ := t.fv.other t.wv.symm st
  exact ⟨w', h2, q1, s1, v1, q2, t.a, s2.symm, v2.symm⟩
def txt (b : List Int) : List UInt8 := b.map fun n => UInt8.ofNat n.toNat
theorem bytesOf_bytes : ∀ b : List Int, bytesOf (bytes b) = some (txt b)
  | [] => rfl
  | n :: b => by
    have ih := bytesOf_bytes b
    unfold bytes at ih ⊢
    rw [List.map_cons, bytesOf, ih]; rfl
end Go.AM.X
namespace Go.AM.X
open Go Go.AM Go.Proofs Go.AM.Sx
set_option maxHeartbeats 3200000
set_option maxRecDepth 100000
set_option linter.unusedVariables false
theorem dat_str {h : AH} {v : AV} {bs : List Int} (hd : Dat h v bs) : aConv T 48 9 v h = some (.str (txt bs), h) := by
  rcases hd with ⟨rfl, h0, _⟩ | ⟨b, cap, ex, rest, rfl, h1, h2, h3, h4⟩
  · rw [conv_nils T48 T9 d9 d48 T5 d5 s5, List.length_eq_zero_iff.1 h0]; rfl
  · have hl : h.loadn b 0 bs.length = some (bytes bs) := by
      simp only [AH.loadn, h4]
      rw [if_pos (by rw [List.length_append, List.length_map]; omega), List.drop_zero, List.take_append_of_le_length (by simp), List.take_of_length_le (by simp)]
      rfl
    simp [aConv, T48, T9, d9, d48, isU8, T5, d5, s5, hl, bytesOf_bytes]
theorem pc_lst {off : Nat → Prop} {h : AH} (b : List Int) : Pc off h (.lst false 1 b.length (bytes b)) b :=
  ⟨fun h => by simp [aLen, T48, d48], fun h2 _ _ => by simp [aSource]⟩
theorem FI.zero {s q : Nat} {done todo : List (List Int)} {cur : Option Nat} {V : Vp} (hF : FI s q done todo cur V) (h0 : need q todo cur = 0) : todo = [] := by
  rcases hF.ss with ⟨h1, h2⟩ | ⟨x, b0, r, h1, h2, h3, h4⟩
  · subst h2
    cases todo with
    | nil => rfl
    | cons b r => simp [need] at h0
  · subst h2; subst h3
    simp [need] at h0
end Go.AM.X
