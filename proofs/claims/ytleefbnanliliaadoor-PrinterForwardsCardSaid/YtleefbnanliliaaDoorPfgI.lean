/- PrinterForwards: the plain law. Own work. -/
import Derived.Test.YtleefbnanliliaaDoorPfgH
namespace Go.AM.X
open Go Go.AM Go.Proofs Go.AM.Sx
set_option maxHeartbeats 3200000
set_option maxRecDepth 100000
set_option linter.unusedVariables false
/-- How many rounds are wanted for what is left. -/
def need (q : Nat) (todo : List (List Int)) (cur : Option Nat) : Nat :=
  match cur, todo with
  | none, _ => (todo.map fun b => b.length / q + 2).sum
  | some _, [] => 0
  | some k, b :: r => (b.length - k) / q + 1 + (r.map fun b => b.length / q + 2).sum
/-- What a printer is between two rounds. -/
structure FI (s q : Nat) (done todo : List (List Int)) (cur : Option Nat) (V : Vp) : Prop where
  q : V.q = (q : Int)
  r : V.r = 0
  ws : V.ws = []
  js : V.js = done.map fun b => ((0 : Int), b)
  ss : (V.ss = [] ∧ cur = none) ∨ ∃ x b r, V.ss = [x] ∧ todo = b :: r ∧ cur = some x.d.length ∧ x.c = 0 ∧ x.b = .ptr s 0 ∧ 0 ≤ x.q ∧ x.q ≤ 255 ∧ 0 ≤ x.s ∧ x.s ≤ 1 ∧ (x.j = ((done.length : Nat) : Int) ∨ x.d = []) ∧ x.d = b.take x.d.length ∧ x.d.length ≤ b.length
theorem best_one (w : Wt) : best [w] = 0 := by simp [best, bestAt, wAt]
theorem serve_nil (n : Nat) : serveL n [] = ([], []) := by cases n <;> simp [serveL]
theorem serve_one (n : Nat) (w : Wt) : serveL (n + 1) [w] = ([w], []) := by
  rw [serveL, if_neg (by simp), best_one]
  simp [serve_nil]
theorem tick_none {V : Vp} (h1 : V.ws = []) (h2 : V.ss = []) : tickV V = V := by
  obtain ⟨q, r, lf, ws, ss, js⟩ := V
  simp only at h1 h2
  subst h1; subst h2
  simp [tickV, keptV, serve_nil]
theorem tick_want {V : Vp} {w : Wt} (h1 : V.ws = [w]) (h2 : V.ss = []) (hr : 0 ≤ V.r) : tickV V = { V with ws := [], ss := [newV w] } := by
  obtain ⟨q, r, lf, ws, ss, js⟩ := V
  simp only at h1 h2 hr
  subst h1; subst h2
  obtain ⟨k, hk⟩ : ∃ k, freeV ⟨q, r, lf, [w], [], js⟩ = k + 1 := ⟨freeV ⟨q, r, lf, [w], [], js⟩ - 1, by unfold freeV keptV; simp; omega⟩
  unfold tickV
  rw [hk]
  simp [keptV, serve_one, newV, incW]
theorem tick_serve {V : Vp} {x : Vs} (h1 : V.ws = []) (h2 : V.ss = [x]) (h3 : 0 ≤ x.s ∧ x.s ≤ 20) : tickV V = { V with ss := [{ x with s := x.s + 1 }] } := by
  obtain ⟨q, r, lf, ws, ss, js⟩ := V
  simp only at h1 h2
  subst h1; subst h2
  have hk : keptV ⟨q, r, lf, [], [x], js⟩ = [{ x with s := x.s + 1 }] := by
    unfold keptV
    simp only [List.map_cons, List.map_nil, incV]
    rw [List.filter_cons_of_pos (by unfold keepV; simp; omega)]
    rfl
  unfold tickV
  rw [hk]
  simp [serve_nil]
theorem round {s q : Nat} {S V : Vp} {done todo : List (List Int)} {cur : Option Nat} (hq : 1 ≤ q) (hF : FI s q done todo cur V) (hlf : S.lf = ((done.length : Nat) : Int)) (hjs : S.js.map Prod.snd = done ++ todo) (hl : ∀ b ∈ done ++ todo, b.length ≤ 300) :
    (fwV S V s).1 = 0 ∧ ∃ done' todo' cur', done' ++ todo' = done ++ todo ∧ (fwV S V s).2.1 = ((done'.length : Nat) : Int) ∧ FI s q done' todo' cur' (tickV (fwV S V s).2.2) ∧ (need q todo' cur' + 1 ≤ need q todo cur ∨ (need q todo cur = 0 ∧ need q todo' cur' = 0)) ∧ (fwV S V s).2.2.q = (q : Int) ∧ (fwV S V s).2.2.r = 0 ∧ (∀ w ∈ (fwV S V s).2.2.ws, 0 ≤ w.w ∧ w.w ≤ 1) ∧ (∀ x ∈ (fwV S V s).2.2.ss, 0 ≤ x.s ∧ x.s ≤ 1) := by
  have hlen : S.js.length = done.length + todo.length := by have := congrArg List.length hjs; simpa using this
  have hws := hF.ws
  have hany : ¬ V.ws.any (pW 0) = true := by rw [hws]; simp
  rcases hF.ss with ⟨hss, rfl⟩ | ⟨x, b, r, hss, rfl, rfl, hxc, hxb, hxq1, hxq2, hxs1, hxs2, hxj, hxd, hxl⟩
  · cases todo with
    | nil =>
      have hfw : fwV S V s = (0, S.lf, V) := by unfold fwV; rw [if_pos (.inl (by rw [hlen, hlf]; simp))]
      rw [hfw]
      refine ⟨rfl, done, [], none, rfl, hlf, by rw [tick_none hws hss]; exact hF, .inr ⟨rfl, rfl⟩, hF.q, hF.r, by simp [hws], by simp [hss]⟩
    | cons b r =>
      have hE : wantEV V ⟨0, 0, .ptr s 0⟩ = 0 := by unfold wantEV; rw [hws, hss]; simp
      have hW : wantPV V ⟨0, 0, .ptr s 0⟩ = [⟨0, 0, .ptr s 0⟩] := by unfold wantPV; rw [if_pos hE, hws]; rfl
      have hnq : ¬ (((S.js.length : Nat) : Int) - S.lf = 0 ∨ V.ws.any (pW 0) = true) := by
        rintro (h | h)
        · rw [hlen, hlf] at h; simp only [List.length_cons] at h; omega
        · exact hany h
      have hfw : fwV S V s = (0, S.lf, { V with ws := [⟨0, 0, .ptr s 0⟩] }) := by
        unfold fwV
        rw [if_neg hnq, hE, hW, hss]
        rfl
      rw [hfw]
      have ht : tickV { V with ws := [(⟨0, 0, .ptr s 0⟩ : Wt)] } = { V with ws := [], ss := [newV ⟨0, 0, .ptr s 0⟩] } := tick_want rfl hss (by show 0 ≤ V.r; rw [hF.r]; decide)
      refine ⟨rfl, done, b :: r, some 0, rfl, hlf, ?_, .inl ?_, hF.q, hF.r, by simp, by simp [hss]⟩
      · rw [ht]
        exact { q := hF.q, r := hF.r, ws := rfl, js := hF.js, ss := .inr ⟨newV ⟨0, 0, .ptr s 0⟩, b, r, rfl, rfl, rfl, rfl, rfl, by simp [newV], by simp [newV], by simp [newV], by simp [newV], .inr rfl, by simp [newV], by simp [newV]⟩ }
      · simp [need]; omega
  · have hbl : b.length ≤ 300 := hl b (by simp)
    have hSb : ∃ c, S.js[done.length]? = some (c, b) := by
      have h1 : (S.js.map Prod.snd)[done.length]? = some b := by rw [hjs]; simp
      rw [List.getElem?_map] at h1
      cases h2 : S.js[done.length]? with
      | none => rw [h2] at h1; cases h1
      | some p => rw [h2] at h1; simp at h1; exact ⟨p.1, by rw [← h1]⟩
    obtain ⟨c, hSb⟩ := hSb
    have hd : (if x.j = S.lf then x.d else []) = x.d := by
      rcases hxj with h | h
      · rw [if_pos (by rw [h, hlf])]
      · split
        · rfl
        · exact h.symm
    obtain ⟨V1, hV1⟩ : ∃ V1 : Vp, V1 = if x.j = S.lf then V else { V with ss := V.ss.set 0 { x with j := S.lf, d := [] } } := ⟨_, rfl⟩
    obtain ⟨y, hy⟩ : ∃ y : Vs, y = { x with j := S.lf } := ⟨_, rfl⟩
    have hV1s : V1.ss = [y] ∧ V1.q = V.q ∧ V1.r = V.r ∧ V1.lf = V.lf ∧ V1.ws = V.ws ∧ V1.js = V.js := by
      rw [hV1]
      split
      · next h =>
        refine ⟨?_, rfl, rfl, rfl, rfl, rfl⟩
        rw [hss, hy]
        obtain ⟨xc, xb, xj, xq, xs, xd⟩ := x
        simp only at h
        subst h; rfl
      · next h =>
        refine ⟨?_, rfl, rfl, rfl, rfl, rfl⟩
        have : x.d = [] := by
          rcases hxj with h2 | h2
          · exact absurd (h2.trans hlf.symm) h
          · exact h2
        show V.ss.set 0 _ = _
        rw [hss, hy]
        simp [this]
    obtain ⟨e1, e2, e3, e4, e5, e6⟩ := hV1s
    obtain ⟨B, hB⟩ : ∃ B, B = min (x.d.length + q) b.length := ⟨_, rfl⟩
    obtain ⟨pc, hpc⟩ : ∃ pc, pc = (b.drop x.d.length).take (B - x.d.length) := ⟨_, rfl⟩
    have hpl : pc.length = B - x.d.length := by rw [hpc, List.length_take, List.length_drop]; omega
    have hcat : x.d ++ pc = b.take B := by
      rw [hpc]
      conv => lhs; lhs; rw [hxd]
      have hBle : x.d.length ≤ B := by omega
      have : b.take B = b.take (x.d.length + (B - x.d.length)) := by congr 1; omega
      rw [this, List.take_add]
    have hsend : sendV V1 0 (x.q % 255 + 1) pc (decide (B = b.length)) = if B = b.length then (0, { V1 with ss := [], js := V1.js ++ [((0 : Int), b)] }) else (0, { V1 with ss := [{ y with q := x.q % 255 + 1, s := 0, d := b.take B }] }) := by
      unfold sendV
      rw [e1]
      simp only [List.getElem?_cons_zero]
      have hyq : y.q = x.q := by rw [hy]
      have hyd : y.d = x.d := by rw [hy]
      have hyc : y.c = 0 := by rw [hy]; exact hxc
      rw [hyq, hyd, hyc, if_neg (by omega), if_neg (by simp), if_neg (by omega), hcat]
      by_cases hBe : B = b.length
      · rw [if_pos (by simp [hBe]), if_pos hBe, hBe, List.take_length]; rfl
      · rw [if_neg (by simp [hBe]), if_neg hBe]; rfl
    have hnq : ¬ (((S.js.length : Nat) : Int) - S.lf = 0 ∨ V.ws.any (pW 0) = true) := by
      rintro (h | h)
      · rw [hlen, hlf] at h; simp only [List.length_cons] at h; omega
      · exact hany h
    have hfw : fwV S V s = ((sendV V1 0 (x.q % 255 + 1) pc (decide (B = b.length))).1, if (sendV V1 0 (x.q % 255 + 1) pc (decide (B = b.length))).1 = 0 ∧ B = b.length then S.lf + 1 else S.lf, (sendV V1 0 (x.q % 255 + 1) pc (decide (B = b.length))).2) := by
      unfold fwV
      rw [if_neg hnq, hss]
      have hf : [x].findIdx? (fun s => decide (s.c = 0)) = some 0 := by simp [List.findIdx?_cons, hxc]
      rw [hf]
      simp only [List.getElem?_cons_zero, show S.js[S.lf.toNat]? = some (c, b) by rw [hlf]; exact hSb]
      rw [hd, show V.q.toNat = q by rw [hF.q]; rfl, ← hss, ← hV1, ← hB, ← hpc]
    rw [hfw, hsend]
    by_cases hBe : B = b.length
    · rw [if_pos hBe]
      have hne : (if (0 : Int) = 0 ∧ B = b.length then S.lf + 1 else S.lf) = S.lf + 1 := if_pos ⟨rfl, hBe⟩
      rw [hne]
      refine ⟨rfl, done ++ [b], r, none, by simp, by rw [hlf]; simp, ?_, .inl ?_, by show V1.q = _; rw [e2]; exact hF.q, by show V1.r = _; rw [e3]; exact hF.r, by show ∀ w ∈ V1.ws, _; rw [e5, hws]; simp, by simp⟩
      · have ht := tick_none (V := { V1 with ss := [], js := V1.js ++ [((0 : Int), b)] }) (show V1.ws = [] by rw [e5]; exact hws) rfl
        show FI s q (done ++ [b]) r none (tickV { V1 with ss := [], js := V1.js ++ [((0 : Int), b)] })
        rw [ht]
        exact { q := by show V1.q = _; rw [e2]; exact hF.q, r := by show V1.r = _; rw [e3]; exact hF.r, ws := by show V1.ws = _; rw [e5]; exact hws, js := by show V1.js ++ _ = _; rw [e6, hF.js]; simp, ss := .inl ⟨rfl, rfl⟩ }
      · simp only [need]
        generalize (b.length - x.d.length) / q = z
        omega
    · rw [if_neg hBe]
      have hne : (if (0 : Int) = 0 ∧ B = b.length then S.lf + 1 else S.lf) = S.lf := if_neg fun h => hBe h.2
      rw [hne]
      have hB2 : B = x.d.length + q := by omega
      have hBl : (b.take B).length = B := by rw [List.length_take]; omega
      refine ⟨rfl, done, b :: r, some B, rfl, hlf, ?_, .inl ?_, by show V1.q = _; rw [e2]; exact hF.q, by show V1.r = _; rw [e3]; exact hF.r, by show ∀ w ∈ V1.ws, _; rw [e5, hws]; simp, by simp⟩
      · have ht := tick_serve (V := { V1 with ss := [{ y with q := x.q % 255 + 1, s := 0, d := b.take B }] }) (x := { y with q := x.q % 255 + 1, s := 0, d := b.take B }) (show V1.ws = [] by rw [e5]; exact hws) rfl (by simp)
        show FI s q done (b :: r) (some B) (tickV { V1 with ss := [{ y with q := x.q % 255 + 1, s := 0, d := b.take B }] })
        rw [ht]
        refine { q := by show V1.q = _; rw [e2]; exact hF.q, r := by show V1.r = _; rw [e3]; exact hF.r, ws := by show V1.ws = _; rw [e5]; exact hws, js := by show V1.js = _; rw [e6]; exact hF.js, ss := .inr ⟨_, b, r, rfl, rfl, by simp only; rw [hBl], ?_, ?_, ?_, ?_, by simp, by simp, .inl ?_, ?_, ?_⟩ }
        · show y.c = 0; rw [hy]; exact hxc
        · show y.b = _; rw [hy]; exact hxb
        · show 0 ≤ x.q % 255 + 1; omega
        · show x.q % 255 + 1 ≤ 255; omega
        · show y.j = _; rw [hy]; exact hlf
        · show b.take B = b.take (b.take B).length; rw [hBl]
        · show (b.take B).length ≤ _; omega
      · simp only [need]
        have h1 : (b.length - x.d.length) / q = (b.length - B) / q + 1 := by
          have : b.length - x.d.length = (b.length - B) + q := by omega
          rw [this, Nat.add_div_right _ hq]
        rw [h1]
        generalize (b.length - B) / q = z
        omega
end Go.AM.X
namespace Go.AM.X
open Go Go.AM Go.Proofs Go.AM.Sx
set_option maxHeartbeats 3200000
set_option maxRecDepth 100000
set_option linter.unusedVariables false
noncomputable def tt9 : TI := (T 9).getD ⟨.bool, 0, 0, [], false, [], [], none⟩
theorem T9 : T 9 = some tt9 := by kernel_rfl
theorem d9 : tt9.desc = .string := by kernel_rfl
theorem s9 : tt9.size = 1 := by kernel_rfl
theorem b9 : tt9.bytes = 16 := by kernel_rfl
theorem a9 : tt9.agg = false := by kernel_rfl
theorem z9 : tt9.zero = [.str []] := by kernel_rfl
noncomputable def tt63 : TI := (T 63).getD ⟨.bool, 0, 0, [], false, [], [], none⟩
theorem T63 : T 63 = some tt63 := by kernel_rfl
theorem d63 : tt63.desc = .slice 48 := by kernel_rfl
noncomputable def tt64 : TI := (T 64).getD ⟨.bool, 0, 0, [], false, [], [], none⟩
theorem T64 : T 64 = some tt64 := by kernel_rfl
theorem d64 : tt64.desc = .slice 9 := by kernel_rfl
theorem F20 : F 20 = some { body := (Tryd.f20.body.getD .skip), results := Tryd.f20.results.toList, rf := false } := by kernel_rfl
theorem R20 : regsOk T (Tryd.f20.body.getD .skip) = true := by kernel_rfl
theorem F6 : F 6 = some { body := (Tryd.f6.body.getD .skip), results := Tryd.f6.results.toList, rf := false } := by kernel_rfl
theorem R6 : regsOk T (Tryd.f6.body.getD .skip) = true := by kernel_rfl
theorem K20 {I : Nat → Option (List AV → AH → Rs)} (h30 : I 30 = none) (h20 : I 20 = none) (m : Nat) (q r : Int) (h : AH) (hq : okQ q = true ∧ within r 1 20 = true) : call F I T (m + 2) 20 [.int .i64 q, .int .i64 r] h = some (.tup [.ptr h.next 0, .int .i64 0], h.alloc (prt q r)) := by
  have h1 : within q 1 500 = true := hq.1
  have h2 := hq.2
  rw [call_F (by decide) h20 F20 rfl R20]; simp only [Tryd.f20, Option.getD]
  simp +contextual (maxSteps := 3000000) only [↓code_skip, ↓code_seq, ↓code_region, ↓code_cond, ↓code_ret, aCond_bool, ↓ops_nil, ↓ops_cons, run_none, run_someF, ↓run0_v, ↓run0_r, ↓seqK_normal, ↓retK_ret, put_same, put_ne, env0_at, ev_tmp, ev_const, ev_func, oc_int, oc_bool, oc_nilp, o_move, o_assign, o_pick, o_call, o_box, o_build, o_un, g_none, g_some, pick_bool, un_not, resultsOf, oneOrAll, Option.bind_some, Option.map_some, Option.getD_some, ↓reduceIte, Nat.reduceEqDiff, not_false_eq_true, Nat.reduceAdd, reduceCtorEq, List.getElem?_cons_zero, List.getElem?_cons_succ, List.getElem?_toArray, Bool.false_eq_true, List.map_cons, List.map_nil, List.append_nil, List.nil_append, List.cons_append, and_true, Nat.reduceLeDiff, Bool.not_true, ne_eq, build_struct T73 d73, z73, parts_eq, fillA, AV.cells, AH.splice, List.take_succ_cons, List.take_zero, List.drop_succ_cons, List.drop_zero, List.length_cons, List.length_nil, p73_0, p73_1, box_agg, callV_fn (g := 30) (by decide), K30 h30, prt, h1, h2]
theorem okV0 (h : AH) (q r : Int) : ∃ off, OkV (h.alloc (prt q r)) h.next ⟨q, r, 0, [], [], []⟩ off ∧ ∀ c, c < h.next → off c := by
  obtain ⟨P, hP⟩ : ∃ P : Pr, P = ⟨q, r, 0, .nils, .nils, .nils, [], []⟩ := ⟨_, rfl⟩
  subst hP
  have hO : OkP (h.alloc (prt q r)) h.next ⟨q, r, 0, .nils, .nils, .nils, [], []⟩ := by
    exact { lt := by simp
            g := by rw [AH.get_alloc, if_pos rfl]; rfl
            w := RowC.nil _ _
            s := RowC.nil _ _
            b := fun x hx => by cases hx
            wp := fun _ _ _ _ _ _ e => by cases e
            sp := fun _ _ _ _ _ _ e => by cases e
            wsv := fun _ _ _ _ _ _ e => by cases e
            ap := fun x hx => by cases hx
            nd := List.nodup_nil
            wb := fun x hx => by cases hx
            jc := ⟨rfl, rfl⟩
            wl := Nat.zero_le _
            sl := Nat.zero_le _ }
  have hD : OkD (h.alloc (prt q r)) h.next ⟨q, r, 0, .nils, .nils, .nils, [], []⟩ (fun _ => []) [] := by
    refine { ok := hO, dd := ?_, dx := ?_, dn := ?_, jr := ?_, jx := ?_, jd := ?_, jf := ?_ }
    · intro s hs; cases hs
    · intro s hs; cases hs
    · intro s hs; cases hs
    · exact RowC.nil _ _
    · intro b o l k z x e; cases e
    · intro j hj; cases hj
    · intro j hj; cases hj
  refine ⟨_, ⟨_, _, _, hD, rfl, rfl⟩, fun c hc => ?_⟩
  exact ⟨⟨(by omega), (fun _ _ _ _ _ _ e => by cases e), (fun _ _ _ _ _ _ e => by cases e), (fun s hs => by cases hs)⟩, (fun _ _ _ _ _ _ e => by cases e), (fun s hs => by cases hs), (fun s hs => by cases hs)⟩
theorem RowC.other {sz n : Nat} {h h2 : AH} {v : AV} {cs : List AV} {o o2 : Nat → Prop} (hr : RowC sz h v n cs) (hA : Apt o (offRow v)) (hS : Stf h h2 o o2) : RowC sz h2 v n cs ∧ Apt o2 (offRow v) :=
  ⟨hr.keep hS.1 fun b _ _ _ _ _ e => (hS.2 b (hr.lt e) ((hA b).resolve_right fun h => h _ _ _ _ _ _ e rfl)).1, hA.step hS fun c hc b _ _ _ _ _ e => by have := hr.lt e; omega⟩
/-- Two printers and a row, none of which has a block with another one. -/
structure Tri (h : AH) (S V : Vp) (offS offV : Nat → Prop) (w : AV) (n : Nat) (cs : List AV) : Prop where
  fs : OkV h 1 S offS
  fv : OkV h 0 V offV
  fr : RowC 1 h w n cs
  a : Apt offV offS
  ws : Apt offS (offRow w)
  wv : Apt offV (offRow w)
theorem Tri.stepS {h h2 : AH} {S V S2 : Vp} {offS offV offS2 : Nat → Prop} {w : AV} {n : Nat} {cs : List AV} (t : Tri h S V offS offV w n cs) (hs : OkV h2 1 S2 offS2) (st : Stf h h2 offS offS2) : Tri h2 S2 V offS2 offV w n cs := by
  obtain ⟨v1, v2⟩ := t.fv.other t.a.symm st
  obtain ⟨w1, w2⟩ := RowC.other t.fr t.ws st
  exact ⟨hs, v1, w1, v2.symm, w2, t.wv⟩
theorem Tri.stepV {h h2 : AH} {S V V2 : Vp} {offS offV offV2 : Nat → Prop} {w : AV} {n : Nat} {cs : List AV} (t : Tri h S V offS offV w n cs) (hv : OkV h2 0 V2 offV2) (st : Stf h h2 offV offV2) : Tri h2 S V2 offS offV2 w n cs := by
  obtain ⟨v1, v2⟩ := t.fs.other t.a st
  obtain ⟨w1, w2⟩ := RowC.other t.fr t.wv st
  exact ⟨v1, hv, w1, v2, t.ws, w2⟩
theorem Tri.stepF {h h2 : AH} {S V S2 V2 : Vp} {offS offV offV2 : Nat → Prop} {w : AV} {n : Nat} {cs : List AV} (t : Tri h S V offS offV w n cs) (hs : OkV h2 1 S2 offS) (hv : OkV h2 0 V2 offV2) (ha : Apt offV2 offS) (hn : h.next ≤ h2.next) (hk : ∀ c, c < h.next → offV c → offS c → h2.get c = h.get c ∧ offV2 c) : Tri h2 S2 V2 offS offV2 w n cs := by
  have key : ∀ b o l k z x, w = .sl b o l k z x → h2.get b = h.get b ∧ offV2 b := fun b o l k z x e =>
    hk b (t.fr.lt e) ((t.wv b).resolve_right fun h => h _ _ _ _ _ _ e rfl) ((t.ws b).resolve_right fun h => h _ _ _ _ _ _ e rfl)
  refine ⟨hs, hv, t.fr.keep hn fun b _ _ _ _ _ e => (key _ _ _ _ _ _ e).1, ha, t.ws, fun c => ?_⟩
  by_cases hc : offRow w c
  · exact .inr hc
  · unfold offRow at hc
    simp only [Classical.not_forall] at hc
    obtain ⟨b, o, l, k, z, x, e, hne⟩ := hc
    rw [Classical.not_not.1 hne]
    exact .inl (key _ _ _ _ _ _ e).2
theorem Tri.grow {h h2 : AH} {S V : Vp} {offS offV : Nat → Prop} {w : AV} {n : Nat} {cs : List AV} (t : Tri h S V offS offV w n cs) (hg : Grow h h2) : Tri h2 S V offS offV w n cs :=
  ⟨t.fs.grow hg, t.fv.grow hg, t.fr.grow hg, t.a, t.ws, t.wv⟩
theorem Tri.push {h : AH} {S V : Vp} {offS offV : Nat → Prop} {w : AV} {n : Nat} {cs : List AV} (t : Tri h S V offS offV w n cs) (s : List UInt8) (hn : n ≤ 1000) :
    ∃ w' h2, aAppend T 64 64 w (.sl h.next 0 1 1 1 true) (h.alloc (.cells [.str s] .own)) = some (w', h2) ∧ Tri h2 S V offS offV w' (n + 1) (cs ++ [.str s]) := by
  obtain ⟨w', h2, q1, q2, q3, q4, q5⟩ := t.fr.push (new := [.str s]) T64 d64 T9 s9 (by decide) (by rw [b9]; decide) rfl rfl (by rw [b9]; simp [maxBytes]; omega)
  have st : Stf h h2 (offRow w) (offRow w') := ⟨by omega, fun c hc ho => ⟨q4 c hc ho, off_new (h := h) q5 hc ho⟩⟩
  obtain ⟨s1, s2⟩ := t.fs.other t.ws.symm st
  obtain ⟨v1, v2⟩ := t.fv.other t.wv.symm st
  exact ⟨w', h2, q1, s1, v1, q2, t.a, s2.symm, v2.symm⟩
/-- The jobs of the law, and what lies of them. -/
def jobsV (l : List (List Int)) : AV := .lst false 1 l.length (l.map fun b => .lst false 1 b.length (bytes b))
def txt (b : List Int) : List UInt8 := b.map fun n => UInt8.ofNat n.toNat
theorem bytesOf_bytes : ∀ b : List Int, bytesOf (bytes b) = some (txt b)
  | [] => rfl
  | n :: b => by
    have ih := bytesOf_bytes b
    unfold bytes at ih ⊢
    rw [List.map_cons, bytesOf, ih]; rfl
def spool (i : Nat) (l : List (List Int)) (lf : Int) : Vp := ⟨500, 20, lf, [], [], (l.take i).mapIdx fun k b => (((k + 1 : Nat) : Int), b)⟩
/-- How many rounds the law takes. -/
def stepsOf (q : Nat) (l : List (List Int)) : Nat := (l.map fun b => b.length / q + 4).sum
theorem spool_len (i : Nat) (l : List (List Int)) (lf : Int) (hi : i ≤ l.length) : (spool i l lf).js.length = i := by simp [spool]; omega
theorem spool_snd (i : Nat) (l : List (List Int)) (lf : Int) : (spool i l lf).js.map Prod.snd = l.take i := by
  apply List.ext_getElem?
  intro k
  simp [spool, List.getElem?_mapIdx]
  cases (l.take i)[k]? <;> rfl
/-- A job comes to the spooler: what it was asked, and what it is then. -/
theorem spool_job (i : Nat) (l : List (List Int)) (lf : Int) (b : List Int) (hb : l[i]? = some b) (hl : b.length ≤ 300) :
    WantEV (spool i l lf) ((i + 1 : Nat) : Int) 0 = 0 ∧ (SendV (tickV { spool i l lf with ws := WantPV (spool i l lf) ((i + 1 : Nat) : Int) 0 }) ((i + 1 : Nat) : Int) 1 b true).1 = 0 ∧ (SendV (tickV { spool i l lf with ws := WantPV (spool i l lf) ((i + 1 : Nat) : Int) 0 }) ((i + 1 : Nat) : Int) 1 b true).2 = spool (i + 1) l lf ∧
      tickV { spool i l lf with ws := WantPV (spool i l lf) ((i + 1 : Nat) : Int) 0 } = { spool i l lf with ss := [newV ⟨((i + 1 : Nat) : Int), 0, .nilp⟩] } := by
  have h1 : ¬ (((i + 1 : Nat) : Int) < 1 ∨ within 0 0 100000 = false) := by
    rintro (h | h)
    · omega
    · simp [within] at h
  have hE0 : wantEV (spool i l lf) ⟨((i + 1 : Nat) : Int), 0, .nilp⟩ = 0 := by simp [wantEV, spool]
  have hE : WantEV (spool i l lf) ((i + 1 : Nat) : Int) 0 = 0 := by unfold WantEV; rw [if_neg h1, hE0]
  have hW : WantPV (spool i l lf) ((i + 1 : Nat) : Int) 0 = [⟨((i + 1 : Nat) : Int), 0, .nilp⟩] := by unfold WantPV wantPV; rw [if_neg h1, if_pos hE0]; rfl
  have ht : tickV { spool i l lf with ws := WantPV (spool i l lf) ((i + 1 : Nat) : Int) 0 } = { spool i l lf with ss := [newV ⟨((i + 1 : Nat) : Int), 0, .nilp⟩] } := by
    rw [hW]
    exact tick_want rfl rfl (by show (0 : Int) ≤ 20; decide)
  have hbar : barV { spool i l lf with ss := [newV ⟨((i + 1 : Nat) : Int), 0, .nilp⟩] } ((i + 1 : Nat) : Int) 1 b.length true = none := by
    unfold barV
    rw [if_neg, if_neg]
    · rintro (h | h | h)
      · have h' : (500 : Int) < (b.length : Int) := h
        omega
      · simp at h
      · simp [within] at h
    · rintro (h | h)
      · omega
      · simp [List.findIdx?_cons, newV] at h
  have hf : ({ spool i l lf with ss := [newV ⟨((i + 1 : Nat) : Int), 0, .nilp⟩] } : Vp).ss.findIdx? (fun s => decide (s.c = ((i + 1 : Nat) : Int))) = some 0 := by simp [List.findIdx?_cons, newV]
  have hs : SendV { spool i l lf with ss := [newV ⟨((i + 1 : Nat) : Int), 0, .nilp⟩] } ((i + 1 : Nat) : Int) 1 b true = (0, spool (i + 1) l lf) := by
    unfold SendV
    rw [hbar, hf]
    unfold sendV
    simp only [List.getElem?_cons_zero]
    rw [if_neg (show ¬ (1 : Int) = (newV ⟨((i + 1 : Nat) : Int), 0, .nilp⟩).q from by simp [newV]), if_neg (by simp [newV]), if_neg (by simp [newV]; omega), if_pos trivial]
    have hi := (List.getElem?_eq_some_iff.1 hb).1
    have hjs : (spool (i + 1) l lf).js = (spool i l lf).js ++ [(((i + 1 : Nat) : Int), b)] := by
      show ((l.take (i + 1)).mapIdx _) = _
      rw [List.take_add_one, hb, List.mapIdx_append]
      simp [spool, Nat.min_eq_left (Nat.le_of_lt hi)]
    show (0, Vp.mk _ _ _ _ _ _) = (0, Vp.mk _ _ _ _ _ (spool (i + 1) l lf).js)
    rw [hjs]
    rfl
  refine ⟨hE, ?_, ?_, ht⟩
  · rw [ht, hs]
  · rw [ht, hs]
end Go.AM.X
namespace Go.AM.X
open Go Go.AM Go.Proofs Go.AM.Sx
set_option maxHeartbeats 3200000
set_option maxRecDepth 100000
set_option linter.unusedVariables false
theorem dat_str {h : AH} {v : AV} {bs : List Int} (hd : Dat h v bs) : aConv T 48 9 v h = some (.str (txt bs), h) := by
  rcases hd with ⟨rfl, h0, _⟩ | ⟨b, cap, ex, rest, rfl, h1, h2, h3, h4⟩
  · rw [conv_nils T48 T9 d9 d48 T5 d5 s5, List.length_eq_zero_iff.1 h0]; rfl
  · have hl : h.loadn b 0 bs.length = some (bytes bs) := by
      simp only [AH.loadn, h4]
      rw [if_pos (by rw [List.length_append, List.length_map]; omega), List.drop_zero, List.take_append_of_le_length (by simp), List.take_of_length_le (by simp)]
      rfl
    simp [aConv, T48, T9, d9, d48, isU8, T5, d5, s5, hl, bytesOf_bytes]
theorem pc_lst {off : Nat → Prop} {h : AH} (b : List Int) : Pc off h (.lst false 1 b.length (bytes b)) b :=
  ⟨fun h => by simp [aLen, T48, d48], fun h2 _ _ => by simp [aSource]⟩
theorem FI.add {s q : Nat} {done todo : List (List Int)} {cur : Option Nat} {V : Vp} (hF : FI s q done todo cur V) (b : List Int) : FI s q done (todo ++ [b]) cur V ∧ need q (todo ++ [b]) cur = need q todo cur + (b.length / q + 2) := by
  rcases hF.ss with ⟨h1, h2⟩ | ⟨x, b0, r, h1, h2, h3, h4⟩
  · refine ⟨{ q := hF.q, r := hF.r, ws := hF.ws, js := hF.js, ss := .inl ⟨h1, h2⟩ }, ?_⟩
    subst h2
    simp [need]
  · refine ⟨{ q := hF.q, r := hF.r, ws := hF.ws, js := hF.js, ss := .inr ⟨x, b0, r ++ [b], h1, by rw [h2]; rfl, h3, h4⟩ }, ?_⟩
    subst h2; subst h3
    simp [need]
    try omega
theorem FI.zero {s q : Nat} {done todo : List (List Int)} {cur : Option Nat} {V : Vp} (hF : FI s q done todo cur V) (h0 : need q todo cur = 0) : todo = [] := by
  rcases hF.ss with ⟨h1, h2⟩ | ⟨x, b0, r, h1, h2, h3, h4⟩
  · subst h2
    cases todo with
    | nil => rfl
    | cons b r => simp [need] at h0
  · subst h2; subst h3
    simp [need] at h0
/-- One round. -/
theorem roundF {I : Nat → Option (List AV → AH → Rs)} (h32 : I 32 = none) (h25 : I 25 = none) (h58 : I 58 = none) (h37 : I 37 = none) (h57 : I 57 = none) (h38 : I 38 = none) (h33 : I 33 = none) (h39 : I 39 = none) (h43 : I 43 = none) (h42 : I 42 = none) (h18 : I 18 = none) (h34 : I 34 = none) (h35 : I 35 = none) (h36 : I 36 = none) (h13 : I 13 = none) (h59 : I 59 = none) (h60 : I 60 = none) (h35 : I 35 = none) (m k i lf : Nat) (l : List (List Int)) (V : Vp) (offS offV : Nat → Prop) (w : AV) (n : Nat) (cs : List AV) (h : AH) (done todo : List (List Int)) (cur : Option Nat) (hk : 1 ≤ k ∧ k ≤ 500) (hi : i ≤ l.length) (hil : i ≤ 1000) (hlf : lf = done.length) (hdt : done ++ todo = l.take i) (hb : ∀ b ∈ l.take i, b.length ≤ 300)
    (ht : Tri h (spool i l (lf : Nat)) V offS offV w n cs) (hF : FI 1 k done todo cur V) :
    ∃ h1 h2 offV2 V2 done' todo' cur', call F I T (m + 420) 18 [.ptr 1 0, .ptr 0 0] h = some (.int .i64 0, h1) ∧ call F I T (m + 420) 13 [.ptr 0 0] h1 = some (.int .i64 0, h2) ∧ done' ++ todo' = l.take i ∧ Tri h2 (spool i l (done'.length : Nat)) V2 offS offV2 w n cs ∧ FI 1 k done' todo' cur' V2 ∧ (need k todo' cur' + 1 ≤ need k todo cur ∨ (need k todo cur = 0 ∧ need k todo' cur' = 0)) := by
  subst hlf
  obtain ⟨r1, done', todo', cur', r2, r3, r4, r5, r6, r7, r8, r9⟩ := round (S := spool i l ((done.length : Nat) : Int)) hk.1 hF rfl (by rw [spool_snd, hdt]) (by rw [hdt]; exact hb)
  have hdl : done.length ≤ i := by have := congrArg List.length hdt; rw [List.length_append, List.length_take] at this; omega
  obtain ⟨h1, offV1, q1, q2, q3, q4, q5, q6⟩ := V18 h32 h25 h58 h37 h57 h38 h33 h39 h43 h42 h18 h59 h60 m 1 0 (spool i l ((done.length : Nat) : Int)) V offS offV h ht.fs ht.fv ht.a (by show ¬ (500 : Int) = 0; decide) (by show ¬ (20 : Int) = 0; decide) (by rw [hF.q]; omega)
    (by rw [spool_len i l _ hi]; exact ⟨by show 0 ≤ ((done.length : Nat) : Int); omega, by show ((done.length : Nat) : Int) ≤ _; omega⟩) (by rw [spool_len i l _ hi, hF.js, List.length_map]; omega)
    (by
      intro j hj
      have : j.2 ∈ l.take i := by rw [← spool_snd i l ((done.length : Nat) : Int)]; exact List.mem_map_of_mem hj
      have := hb _ this
      omega)
    (by
      intro x hx
      rcases hF.ss with ⟨g, _⟩ | ⟨y, b, r, g, g2, _, _, _, g3, g4, _, _, _, _, g5⟩
      · rw [g] at hx; cases hx
      · rw [g, List.mem_singleton] at hx; subst hx
        have := hb b (by rw [← hdt, g2]; simp)
        exact ⟨g3, g4, by omega⟩)
    (by intro w hw; rw [hF.ws] at hw; cases hw)
    (by
      intro x hx _
      rcases hF.ss with ⟨g, _⟩ | ⟨y, b, r, g, g2, _, _, g6, _⟩
      · rw [g] at hx; cases hx
      · rw [g, List.mem_singleton] at hx; subst hx; exact g6)
    (by
      intro x hx _ _ j hj
      rcases hF.ss with ⟨g, _⟩ | ⟨y, b, r, g, g2, _, _, _, _, _, _, _, _, _, g5⟩
      · rw [g] at hx; cases hx
      · rw [g, List.mem_singleton] at hx; subst hx
        have h1 : ((spool i l ((done.length : Nat) : Int)).js.map Prod.snd)[done.length]? = some b := by rw [spool_snd, ← hdt, g2]; simp
        rw [List.getElem?_map] at h1
        have h2 : (spool i l ((done.length : Nat) : Int)).js[done.length]? = some j := hj
        rw [h2] at h1
        simp at h1
        rw [h1]; exact g5)
  rw [r1] at q1
  rw [r3] at q2
  have t1 := ht.stepF q2 q3 q4 q5 q6
  obtain ⟨h2, offV2, u1, u2, u3⟩ := V13 h32 h57 h34 h35 h36 h13 h35 (m + 20) 0 _ offV1 h1 t1.fv (by rw [r6]; omega) (by rw [r7]; decide) (fun w hw => by have := r8 w hw; omega) (fun x hx => by have := r9 x hx; omega)
  exact ⟨h1, h2, offV2, _, done', todo', cur', q1, u1, by rw [r2, hdt], t1.stepV u2 u3, r4, r5⟩
theorem stepsOf_add (k : Nat) (l : List (List Int)) (i : Nat) (b : List Int) (hb : l[i]? = some b) : stepsOf k (l.take (i + 1)) = stepsOf k (l.take i) + (b.length / k + 4) := by
  unfold stepsOf
  rw [List.take_add_one, hb]
  simp
theorem stepsOf_le (k : Nat) : ∀ (l : List (List Int)) (hk : 1 ≤ k), (∀ b ∈ l, b.length ≤ 300) → stepsOf k l ≤ l.length * 304
  | [], _, _ => by simp [stepsOf]
  | b :: l, hk, h => by
    have ih := stepsOf_le k l hk fun x hx => h x (by simp [hx])
    have h1 := h b (by simp)
    have h2 : b.length / k ≤ b.length := Nat.div_le_self _ _
    unfold stepsOf at ih ⊢
    simp only [List.map_cons, List.sum_cons, List.length_cons]
    omega
theorem law6 {I : Nat → Option (List AV → AH → Rs)} (h32 : I 32 = none) (h25 : I 25 = none) (h58 : I 58 = none) (h37 : I 37 = none) (h57 : I 57 = none) (h38 : I 38 = none) (h33 : I 33 = none) (h39 : I 39 = none) (h43 : I 43 = none) (h42 : I 42 = none) (h18 : I 18 = none) (h34 : I 34 = none) (h35 : I 35 = none) (h36 : I 36 = none) (h13 : I 13 = none) (h30 : I 30 = none) (h12 : I 12 = none) (h21 : I 21 = none) (h45 : I 45 = none) (h24 : I 24 = none) (h10 : I 10 = none) (h20 : I 20 = none) (h11 : I 11 = some (pureG g11)) (h59 : I 59 = none) (h60 : I 60 = none) (h35 : I 35 = none) (h6 : I 6 = none) (q : Int) (hq : 0 ≤ q ∧ q ≤ 255) (l : List (List Int)) (tk : List Int) (htk : ∀ x ∈ tk, 0 ≤ x ∧ x ≤ 255) :
    ∃ h', call F I T 5000 6 [.int .u8 q, jobsV l, .lst false 1 tk.length (bytes tk)] e0 = some (.bool true, h') := by
  obtain ⟨kq, hk⟩ : ∃ kq : Nat, (kq : Int) = 1 + q % 100 := ⟨(1 + q % 100).toNat, by omega⟩
  have hk1 : 1 ≤ kq ∧ kq ≤ 100 := by omega
  have w1 : IntKind.i64.wrap q = q := wrap_i64 (by omega) (by omega)
  have w2 : q.tmod 100 = q % 100 := Int.tmod_eq_emod_of_nonneg hq.1
  have w3 : IntKind.i64.wrap (q % 100) = q % 100 := wrap_i64 (by omega) (by omega)
  have w4 : IntKind.i64.wrap (1 + q % 100) = (kq : Int) := by rw [wrap_i64 (by omega) (by omega)]; exact hk.symm
  have hQk : okQ (kq : Int) = true := by unfold okQ within; simp; omega
  have hQ5 : okQ 500 = true ∧ within 20 1 20 = true := by decide
  have k20 := fun m h => K20 (by assumption) (by assumption) m 500 20 h hQ5
  unfold jobsV
  rw [call_F (by decide) h6 F6 rfl R6]; simp only [Tryd.f6, Option.getD]
  by_cases hn : l.length ≤ 10
  rotate_left
  · have c1 : (10 : Int) < (l.length : Int) := by omega
    simp +contextual (maxSteps := 3000000) only [↓code_skip, ↓code_seq, ↓code_region, ↓code_cond, ↓code_ret, aCond_bool, ↓ops_nil, ↓ops_cons, run_none, run_someF, ↓run0_v, ↓run0_r, ↓seqK_normal, ↓seqK_ret, ↓retK_ret, put_same, put_ne, env0_at, ev_tmp, ev_const, ev_func, oc_int, oc_bool, oc_nilp, o_move, o_assign, o_pick, o_bin, o_call, o_len, o_convert, o_extract, g_none, g_some, pick_bool, bin_add, bin_rem, bin_neq, bin_gtr, extract_tup, next_e0, resultsOf, oneOrAll, Option.bind_some, Option.map_some, Option.getD_some, decide_eq_true_eq, ↓reduceIte, Nat.reduceEqDiff, not_false_eq_true, not_true_eq_false, Nat.reduceAdd, reduceCtorEq, List.getElem?_cons_zero, List.getElem?_cons_succ, List.getElem?_toArray, Bool.false_eq_true, List.map_cons, List.map_nil, List.append_nil, List.nil_append, AH.next_alloc, gt_iff_lt, Bool.not_eq_eq_eq_not, Bool.not_true, ne_eq, decide_eq_false_iff_not, conv_int T5 T3 d3, pn_eql T23 d23, len_lst T63 d63, K10 h30 h10, K11 h11, w1, w2, w4, hQk, k20, c1, (show ¬ (100 : Int) = 0 by decide), callV_fn (g := 10) (by decide), callV_fn (g := 20) (by decide), callV_fn (g := 11) (by decide)]
    exact ⟨_, rfl⟩
  have c1 : ¬ (10 : Int) < (l.length : Int) := by omega
  by_cases hn2 : tk.length ≤ 100
  rotate_left
  · have c2 : (100 : Int) < (tk.length : Int) := by omega
    simp +contextual (maxSteps := 3000000) only [↓code_skip, ↓code_seq, ↓code_region, ↓code_cond, ↓code_ret, aCond_bool, ↓ops_nil, ↓ops_cons, run_none, run_someF, ↓run0_v, ↓run0_r, ↓seqK_normal, ↓seqK_ret, ↓retK_ret, put_same, put_ne, env0_at, ev_tmp, ev_const, ev_func, oc_int, oc_bool, oc_nilp, o_move, o_assign, o_pick, o_bin, o_call, o_len, o_convert, o_extract, g_none, g_some, pick_bool, bin_add, bin_rem, bin_neq, bin_gtr, extract_tup, next_e0, resultsOf, oneOrAll, Option.bind_some, Option.map_some, Option.getD_some, decide_eq_true_eq, ↓reduceIte, Nat.reduceEqDiff, not_false_eq_true, not_true_eq_false, Nat.reduceAdd, reduceCtorEq, List.getElem?_cons_zero, List.getElem?_cons_succ, List.getElem?_toArray, Bool.false_eq_true, List.map_cons, List.map_nil, List.append_nil, List.nil_append, AH.next_alloc, gt_iff_lt, Bool.not_eq_eq_eq_not, Bool.not_true, ne_eq, decide_eq_false_iff_not, conv_int T5 T3 d3, pn_eql T23 d23, len_lst T63 d63, len_lst T48 d48, K10 h30 h10, K11 h11, w1, w2, w4, hQk, k20, c1, c2, (show ¬ (100 : Int) = 0 by decide), callV_fn (g := 10) (by decide), callV_fn (g := 20) (by decide), callV_fn (g := 11) (by decide)]
    exact ⟨_, rfl⟩
  have c2 : ¬ (100 : Int) < (tk.length : Int) := by omega
  obtain ⟨offV0, o1, o2⟩ := okV0 e0 (kq : Int) 0
  obtain ⟨offS0, o3, o4⟩ := okV0 (e0.alloc (prt (kq : Int) 0)) 500 20
  have hT0 : Tri ((e0.alloc (prt (kq : Int) 0)).alloc (prt 500 20)) (spool 0 l (0 : Nat)) ⟨(kq : Int), 0, 0, [], [], []⟩ offS0 offV0 .nils 0 [] :=
    { fs := o3, fv := o1.grow (Grow.alloc _ _), fr := RowC.nil _ _
      a := fun c => by
        rcases Nat.lt_or_ge c (e0.alloc (prt (kq : Int) 0)).next with h | h
        · exact .inr (o4 c h)
        · exact .inl (o1.off_ge h)
      ws := fun c => .inr fun _ _ _ _ _ _ e => by cases e
      wv := fun c => .inr fun _ _ _ _ _ _ e => by cases e }
  have hF0 : FI 1 kq [] [] none ⟨(kq : Int), 0, 0, [], [], []⟩ := { q := rfl, r := rfl, ws := rfl, js := rfl, ss := .inl ⟨rfl, rfl⟩ }
  simp +contextual (maxSteps := 3000000) only [↓code_skip, ↓code_seq, ↓code_region, ↓code_cond, ↓code_block, ↓code_loop, aCond_bool, ↓ops_nil, ↓ops_cons, run_none, run_someF, ↓run0_v, ↓run0_r, ↓seqK_normal, put_same, put_ne, env0_at, ev_tmp, ev_const, ev_func, oc_int, oc_bool, oc_nils, oc_nilp, o_move, o_assign, o_pick, o_bin, o_call, o_len, o_convert, o_extract, g_none, g_some, pick_bool, bin_add, bin_rem, bin_neq, bin_gtr, extract_tup, next_e0, Option.bind_some, Option.getD_some, decide_eq_true_eq, ↓reduceIte, Nat.reduceEqDiff, not_false_eq_true, not_true_eq_false, Nat.reduceAdd, reduceCtorEq, List.getElem?_cons_zero, List.getElem?_cons_succ, List.getElem?_toArray, Bool.false_eq_true, List.map_cons, List.map_nil, List.append_nil, List.nil_append, AH.next_alloc, gt_iff_lt, Bool.not_eq_eq_eq_not, Bool.not_true, ne_eq, decide_eq_false_iff_not, conv_int T5 T3 d3, pn_eql T23 d23, len_lst T63 d63, len_lst T48 d48, K10 h30 h10, w1, w2, w4, hQk, k20, c1, c2, (show ¬ (100 : Int) = 0 by decide), callV_fn (g := 10) (by decide), callV_fn (g := 20) (by decide)]
  refine iterL_wp (Q := fun r => ∃ h', r = some (.bool true, h')) (N := l.length) (Inv := fun k e h' => ∃ i offS offV w V done todo cur, k + i = l.length ∧ Tri h' (spool i l (done.length : Nat)) V offS offV w i ((l.take i).map fun b => .str (txt b)) ∧ done ++ todo = l.take i ∧ FI 1 kq done todo cur V ∧ need kq todo cur ≤ stepsOf kq (l.take i) ∧ i ≤ l.length ∧ (∀ b ∈ l.take i, b.length ≤ 300) ∧ e 0 = .int .u8 q ∧ e 1 = .lst false 1 l.length (l.map fun b => .lst false 1 b.length (bytes b)) ∧ e 2 = .lst false 1 tk.length (bytes tk) ∧ e 7 = .ptr 0 0 ∧ e 9 = .ptr 1 0 ∧ e 11 = w ∧ e 12 = .int .i64 (stepsOf kq (l.take i) : Nat) ∧ e 13 = .int .i64 (i : Nat)) ?_ ?_ (by omega)
  · rintro k e h' K' ⟨i, offS, offV, w, V, done, todo, cur, hk, hT, hdt, hF, hnd, hil, hb3, e0, e1, e2, e7, e9, e11, e12, e13⟩ hnext hexit
    by_cases hi : i < l.length
    · have d1 : (i : Int) < (l.length : Int) := by omega
      obtain ⟨b, hb⟩ : ∃ b, l[i]? = some b := ⟨l[i], List.getElem?_eq_getElem hi⟩
      have hia : aIndexAddr T 63 (.lst false 1 l.length (l.map fun b => .lst false 1 b.length (bytes b))) (.int .i64 (i : Nat)) = some (.fp ((l.map fun b => AV.lst false 1 b.length (bytes b)).drop i)) := by
        rw [ia_lst T63 d63 T48 s48, if_pos ⟨by omega, by omega⟩]; simp
      have hfp : (l.map fun b => AV.lst false 1 b.length (bytes b)).drop i = .lst false 1 b.length (bytes b) :: (l.map fun b => AV.lst false 1 b.length (bytes b)).drop (i + 1) := by
        rw [List.drop_eq_getElem_cons (by rw [List.length_map]; exact hi)]; simp [(List.getElem?_eq_some_iff.1 hb).2]
      rw [hfp] at hia
      by_cases hbl : b.length ≤ 300
      rotate_left
      · have d2 : (300 : Int) < (b.length : Int) := by omega
        simp +contextual (maxSteps := 3000000) only [↓code_skip, ↓code_seq, ↓code_region, ↓code_cond, ↓code_block, ↓code_ret, aCond_bool, ↓ops_nil, ↓ops_cons, run_none, ↓run0_v, ↓run0_r, ↓seqK_normal, ↓seqK_ret, ↓blkK_ret, put_same, put_ne, ev_tmp, ev_const, ev_func, oc_int, o_move, o_assign, o_bin, o_call, o_len, o_load, o_indexAddr, g_none, bin_lss, bin_gtr, decide_eq_true_eq, ↓reduceIte, Nat.reduceEqDiff, not_false_eq_true, List.getElem?_cons_zero, List.map_nil, List.append_nil, gt_iff_lt, ne_eq, len_lst T63 d63, len_lst T48 d48, load_fp1 T48 a48, K11 h11, e1, e13, d1, hia, d2, callV_fn (g := 11) (by decide)]
        refine hexit _ _ _ (by simp) ?_
        simp +contextual (maxSteps := 3000000) only [↓seqK_ret, ↓blkK_ret, ↓retK_ret, put_same, resultsOf, oneOrAll, Option.map_some]
        exact ⟨_, rfl⟩
      have d2 : ¬ (300 : Int) < (b.length : Int) := by omega
      obtain ⟨j1, j2, j3, j4⟩ := spool_job i l ((done.length : Nat) : Int) b hb hbl
      -- the spooler: Want, Tick, Send
      obtain ⟨hA, offA, z12a, z12b, z12c⟩ := V12 h30 h32 h58 h37 h57 h38 h33 h12 h59 h60 4696 1 ((i + 1 : Nat) : Int) 0 _ offS h' hT.fs (by show ¬ (500 : Int) = 0; decide)
      rw [j1] at z12a
      have tA := hT.stepS z12b z12c
      have hWp : WantPV (spool i l ((done.length : Nat) : Int)) ((i + 1 : Nat) : Int) 0 = [⟨((i + 1 : Nat) : Int), 0, .nilp⟩] := by
        have h1 : ¬ (((i + 1 : Nat) : Int) < 1 ∨ within 0 0 100000 = false) := by
          rintro (h | h)
          · omega
          · simp [within] at h
        unfold WantPV wantPV
        rw [if_neg h1, if_pos (by simp [wantEV, spool])]; rfl
      obtain ⟨hB, offB, z13a, z13b, z13c⟩ := V13 h32 h57 h34 h35 h36 h13 h35 4599 1 _ offA hA tA.fs (by show ¬ (500 : Int) = 0; decide) (by show (0 : Int) ≤ 20 ∧ (20 : Int) ≤ 20; decide) (by
        intro w hw
        rw [show ({ spool i l ((done.length : Nat) : Int) with ws := WantPV (spool i l ((done.length : Nat) : Int)) ((i + 1 : Nat) : Int) 0 } : Vp).ws = [⟨((i + 1 : Nat) : Int), 0, .nilp⟩] from hWp, List.mem_singleton] at hw
        subst hw; simp) (by intro s hs; cases hs)
      have tB := tA.stepS z13b z13c
      have hSs := tB.fs
      obtain ⟨hC, offC, c1', c2', c3'⟩ := V21 h30 h32 h57 h38 h39 h43 h42 h21 h60 4689 1 ((i + 1 : Nat) : Int) 1 (.lst false 1 b.length (bytes b)) true _ offB hB b tB.fs (by rw [j4]; show ¬ (500 : Int) = 0; decide) (by
        rw [j4]
        intro s hs
        rw [List.mem_singleton] at hs; subst hs
        simp [newV]) (pc_lst b) (by omega) (by rw [j4]; have hsl := spool_len i l ((done.length : Nat) : Int) hil; show (spool i l ((done.length : Nat) : Int)).js.length ≤ 1000000; omega)
      rw [j2] at c1'
      rw [j3] at c2'
      have tC := tB.stepS c2' c3'
      obtain ⟨ww, hD, p1, p2⟩ := tC.push (txt b) (by omega)
      have htk1 : (l.take i).map (fun b => AV.str (txt b)) ++ [.str (txt b)] = (l.take (i + 1)).map fun b => AV.str (txt b) := by
        rw [List.take_add_one, hb]; simp
      rw [htk1] at p2
      have c7 : IntKind.i64.wrap ((i : Int) + 1) = ((i + 1 : Nat) : Int) := by rw [wrap_i64 (by omega) (by omega)]; rfl
      have hcs : aConv T 48 9 (.lst false 1 b.length (bytes b)) hC = some (.str (txt b), hC) := by rw [conv_back T48 T9 d9 d48 T5 d5 s5, bytesOf_bytes]; rfl
      have hlb : ∀ h, aLen T 48 (.lst false 1 b.length (bytes b)) h = some (.int .i64 (b.length : Nat)) := fun h => by simp [aLen, T48, d48]
      have hsa := stepsOf_add kq l i b hb
      have hsle := stepsOf_le kq (l.take i) hk1.1 hb3
      have htl : (l.take i).length ≤ 10 := by rw [List.length_take]; omega
      have hsle' : stepsOf kq (l.take i) ≤ 3040 := by omega
      have hdiv : b.length / kq ≤ 300 := by have := Nat.div_le_self b.length kq; omega
      have w5 : ((b.length : Nat) : Int).tdiv (kq : Int) = ((b.length / kq : Nat) : Int) := by rw [Int.tdiv_eq_ediv_of_nonneg (by omega)]; rfl
      have w6 : IntKind.i64.wrap ((b.length / kq : Nat) : Int) = ((b.length / kq : Nat) : Int) := wrap_i64 (by omega) (by omega)
      have w7 : IntKind.i64.wrap (((b.length / kq : Nat) : Int) + 4) = ((b.length / kq + 4 : Nat) : Int) := by rw [wrap_i64 (by omega) (by omega)]; omega
      have w8 : IntKind.i64.wrap (((stepsOf kq (l.take i) : Nat) : Int) + ((b.length / kq + 4 : Nat) : Int)) = ((stepsOf kq (l.take (i + 1)) : Nat) : Int) := by rw [wrap_i64 (by omega) (by omega), hsa]; omega
      have w9 : ¬ ((kq : Nat) : Int) = 0 := by omega
      obtain ⟨hFa, hNa⟩ := hF.add b
      have hdt2 : done ++ (todo ++ [b]) = l.take (i + 1) := by rw [← List.append_assoc, hdt, List.take_add_one, hb]; rfl
      have hb4 : ∀ b ∈ l.take (i + 1), b.length ≤ 300 := by
        intro x hx
        rw [List.take_add_one, hb] at hx
        rcases List.mem_append.1 hx with g | g
        · exact hb3 x g
        · simp at g; subst g; exact hbl
      have hnd2 : need kq (todo ++ [b]) cur ≤ stepsOf kq (l.take (i + 1)) := by rw [hNa, hsa]; omega
      by_cases ct : (i : Int) < (tk.length : Int)
      · have hit : i < tk.length := by omega
        obtain ⟨x, hx⟩ : ∃ x, tk[i]? = some x := ⟨tk[i], List.getElem?_eq_getElem hit⟩
        have hxb := htk x (List.mem_of_getElem? hx)
        have hia2 : aIndexAddr T 48 (.lst false 1 tk.length (bytes tk)) (.int .i64 (i : Nat)) = some (.fp (.int .u8 x :: (bytes tk).drop (i + 1))) := by
          rw [ia_lst T48 d48 T5 s5, if_pos ⟨by omega, by omega⟩]
          simp only [Int.toNat_natCast, Nat.mul_one, Option.some.injEq, AV.fp.injEq]
          rw [List.drop_eq_getElem_cons (by simp [bytes]; exact hit)]
          simp [bytes, (List.getElem?_eq_some_iff.1 hx).2]
        have v1 : x.tmod 2 = x % 2 := Int.tmod_eq_emod_of_nonneg hxb.1
        have v2 : IntKind.u8.wrap (x % 2) = x % 2 := wrap_u8 (by omega) (by omega)
        by_cases co : x % 2 = 1
        · obtain ⟨hE, hG, offV2, V2, done', todo', cur', f1, f2, f3, f4, f5, f6⟩ := roundF h32 h25 h58 h37 h57 h38 h33 h39 h43 h42 h18 h34 h35 h36 h13 h59 h60 h35 4579 kq (i + 1) done.length l V offC offV ww (i + 1) _ hD done (todo ++ [b]) cur ⟨hk1.1, by omega⟩ (by omega) (by omega) rfl hdt2 hb4 p2 hFa
          simp +contextual (maxSteps := 3000000) only [↓code_skip, ↓code_seq, ↓code_region, ↓code_cond, ↓code_block, aCond_bool, ↓ops_nil, ↓ops_cons, run_none, run_someT, run_someF, ↓run0_v, ↓run0_r, ↓seqK_normal, ↓blkK_normal, put_same, put_ne, ev_tmp, ev_const, ev_func, oc_int, oc_bool, o_move, o_assign, o_pick, o_bin, o_call, o_len, o_buildSlice, o_load, o_convert, o_indexAddr, o_append, g_none, g_some, pick_bool, bin_add, bin_quo, bin_rem, bin_eql, bin_neq, bin_lss, bin_gtr, Option.bind_some, Option.map_some, decide_eq_true_eq, ↓reduceIte, Nat.reduceEqDiff, not_false_eq_true, not_true_eq_false, Nat.reduceAdd, Nat.reduceMul, reduceCtorEq, Nat.succ_ne_self, List.getElem?_cons_zero, List.getElem?_cons_succ, List.getElem?_toArray, List.map_cons, List.map_nil, List.append_nil, List.nil_append, and_true, Nat.le_refl, gt_iff_lt, Bool.not_eq_eq_eq_not, Bool.not_true, ne_eq, decide_eq_false_iff_not, conv_int T5 T3 d3, len_lst T63 d63, len_lst T48 d48, load_fp1 T48 a48, conv_back T48 T9 d9 d48 T5 d5 s5, buildSl T64 d64 T9 (n := 1) (by rw [s9]; decide), s9, z9, parts_eq, fillA, AV.cells, AH.splice, List.take_zero, List.drop_succ_cons, List.drop_nil, List.length_cons, List.length_nil, repl, load_fp1 T5 a5, e0, e1, e2, e7, e9, e11, e12, e13, d1, hia, d2, z12a, z13a, c1', c7, bytesOf_bytes, p1, w1, w2, w4, w5, w6, w7, w8, w9, ct, hia2, v1, co, f1, f2, (show ¬ (100 : Int) = 0 by decide), (show ¬ (2 : Int) = 0 by decide), callV_fn (g := 12) (by decide), callV_fn (g := 13) (by decide), callV_fn (g := 21) (by decide), callV_fn (g := 18) (by decide)]
          refine hnext (k - 1) _ _ (by omega) ⟨i + 1, offC, offV2, ww, V2, done', todo', cur', by omega, ?_, ?_, ?_, ?_, ?_, ?_, ?_, ?_, ?_, ?_, ?_, ?_, ?_, ?_⟩
          · exact f4
          · exact f3
          · exact f5
          · omega
          · omega
          · exact hb4
          · simp only [put_ne, not_false_eq_true, reduceCtorEq, ne_eq, e0]
          · simp only [put_ne, Nat.reduceEqDiff, not_false_eq_true, ne_eq, e1]
          · simp only [put_ne, Nat.reduceEqDiff, not_false_eq_true, ne_eq, e2]
          · simp only [put_ne, Nat.reduceEqDiff, not_false_eq_true, ne_eq, e7]
          · simp only [put_ne, Nat.reduceEqDiff, not_false_eq_true, ne_eq, e9]
          · simp only [put_same, put_ne, Nat.reduceEqDiff, not_false_eq_true, ne_eq]
          · simp only [put_same, put_ne, Nat.reduceEqDiff, not_false_eq_true, ne_eq]
          · simp only [put_same]
        · simp +contextual (maxSteps := 3000000) only [↓code_skip, ↓code_seq, ↓code_region, ↓code_cond, ↓code_block, aCond_bool, ↓ops_nil, ↓ops_cons, run_none, run_someT, run_someF, ↓run0_v, ↓run0_r, ↓seqK_normal, ↓blkK_normal, put_same, put_ne, ev_tmp, ev_const, ev_func, oc_int, oc_bool, o_move, o_assign, o_pick, o_bin, o_call, o_len, o_buildSlice, o_load, o_convert, o_indexAddr, o_append, g_none, g_some, pick_bool, bin_add, bin_quo, bin_rem, bin_eql, bin_neq, bin_lss, bin_gtr, Option.bind_some, Option.map_some, decide_eq_true_eq, ↓reduceIte, Nat.reduceEqDiff, not_false_eq_true, not_true_eq_false, Nat.reduceAdd, Nat.reduceMul, reduceCtorEq, Nat.succ_ne_self, List.getElem?_cons_zero, List.getElem?_cons_succ, List.getElem?_toArray, List.map_cons, List.map_nil, List.append_nil, List.nil_append, and_true, Nat.le_refl, gt_iff_lt, Bool.not_eq_eq_eq_not, Bool.not_true, ne_eq, decide_eq_false_iff_not, conv_int T5 T3 d3, len_lst T63 d63, len_lst T48 d48, load_fp1 T48 a48, conv_back T48 T9 d9 d48 T5 d5 s5, buildSl T64 d64 T9 (n := 1) (by rw [s9]; decide), s9, z9, parts_eq, fillA, AV.cells, AH.splice, List.take_zero, List.drop_succ_cons, List.drop_nil, List.length_cons, List.length_nil, repl, load_fp1 T5 a5, e0, e1, e2, e9, e11, e12, e13, d1, hia, d2, z12a, z13a, c1', c7, bytesOf_bytes, p1, w1, w2, w4, w5, w6, w7, w8, w9, ct, hia2, v1, co, (show ¬ (100 : Int) = 0 by decide), (show ¬ (2 : Int) = 0 by decide), callV_fn (g := 12) (by decide), callV_fn (g := 13) (by decide), callV_fn (g := 21) (by decide)]
          refine hnext (k - 1) _ _ (by omega) ⟨i + 1, offC, offV, ww, V, done, todo ++ [b], cur, by omega, ?_, ?_, ?_, ?_, ?_, ?_, ?_, ?_, ?_, ?_, ?_, ?_, ?_, ?_⟩
          · exact p2
          · exact hdt2
          · exact hFa
          · exact hnd2
          · omega
          · exact hb4
          · simp only [put_ne, not_false_eq_true, reduceCtorEq, ne_eq, e0]
          · simp only [put_ne, Nat.reduceEqDiff, not_false_eq_true, ne_eq, e1]
          · simp only [put_ne, Nat.reduceEqDiff, not_false_eq_true, ne_eq, e2]
          · simp only [put_ne, Nat.reduceEqDiff, not_false_eq_true, ne_eq, e7]
          · simp only [put_ne, Nat.reduceEqDiff, not_false_eq_true, ne_eq, e9]
          · simp only [put_same, put_ne, Nat.reduceEqDiff, not_false_eq_true, ne_eq]
          · simp only [put_same, put_ne, Nat.reduceEqDiff, not_false_eq_true, ne_eq]
          · simp only [put_same]
      · simp +contextual (maxSteps := 3000000) only [↓code_skip, ↓code_seq, ↓code_region, ↓code_cond, ↓code_block, aCond_bool, ↓ops_nil, ↓ops_cons, run_none, run_someT, run_someF, ↓run0_v, ↓run0_r, ↓seqK_normal, ↓blkK_normal, put_same, put_ne, ev_tmp, ev_const, ev_func, oc_int, oc_bool, o_move, o_assign, o_pick, o_bin, o_call, o_len, o_buildSlice, o_load, o_convert, o_indexAddr, o_append, g_none, g_some, pick_bool, bin_add, bin_quo, bin_rem, bin_neq, bin_lss, bin_gtr, Option.bind_some, Option.map_some, decide_eq_true_eq, ↓reduceIte, Nat.reduceEqDiff, not_false_eq_true, not_true_eq_false, Nat.reduceAdd, Nat.reduceMul, reduceCtorEq, Nat.succ_ne_self, List.getElem?_cons_zero, List.getElem?_cons_succ, List.getElem?_toArray, Bool.false_eq_true, List.map_cons, List.map_nil, List.append_nil, List.nil_append, and_true, Nat.le_refl, gt_iff_lt, Bool.not_eq_eq_eq_not, Bool.not_true, ne_eq, decide_eq_false_iff_not, conv_int T5 T3 d3, len_lst T63 d63, len_lst T48 d48, load_fp1 T48 a48, conv_back T48 T9 d9 d48 T5 d5 s5, buildSl T64 d64 T9 (n := 1) (by rw [s9]; decide), s9, z9, parts_eq, fillA, AV.cells, AH.splice, List.take_zero, List.drop_succ_cons, List.drop_nil, List.length_cons, List.length_nil, repl, e0, e1, e2, e9, e11, e12, e13, d1, hia, d2, z12a, z13a, c1', c7, bytesOf_bytes, p1, w1, w2, w4, w5, w6, w7, w8, w9, ct, (show ¬ (100 : Int) = 0 by decide), callV_fn (g := 12) (by decide), callV_fn (g := 13) (by decide), callV_fn (g := 21) (by decide)]
        refine hnext (k - 1) _ _ (by omega) ⟨i + 1, offC, offV, ww, V, done, todo ++ [b], cur, by omega, ?_, ?_, ?_, ?_, ?_, ?_, ?_, ?_, ?_, ?_, ?_, ?_, ?_, ?_⟩
        · exact p2
        · exact hdt2
        · exact hFa
        · exact hnd2
        · omega
        · exact hb4
        · simp only [put_ne, not_false_eq_true, reduceCtorEq, ne_eq, e0]
        · simp only [put_ne, Nat.reduceEqDiff, not_false_eq_true, ne_eq, e1]
        · simp only [put_ne, Nat.reduceEqDiff, not_false_eq_true, ne_eq, e2]
        · simp only [put_ne, Nat.reduceEqDiff, not_false_eq_true, ne_eq, e7]
        · simp only [put_ne, Nat.reduceEqDiff, not_false_eq_true, ne_eq, e9]
        · simp only [put_same, put_ne, Nat.reduceEqDiff, not_false_eq_true, ne_eq]
        · simp only [put_same, put_ne, Nat.reduceEqDiff, not_false_eq_true, ne_eq]
        · simp only [put_same]
    · have d1 : ¬ (i : Int) < (l.length : Int) := by omega
      have hin : i = l.length := by omega
      subst hin
      rw [List.take_length] at hdt hb3 hnd hT e12
      have hsle := stepsOf_le kq l hk1.1 hb3
      have hT1 := hT
      have hF1 := hF
      have hdt1 := hdt
      obtain ⟨hh, hhh⟩ : ∃ hh, hh = h' := ⟨_, rfl⟩
      simp +contextual (maxSteps := 3000000) only [↓code_seq, ↓code_region, ↓code_cond, ↓code_exit, aCond_bool, ↓ops_nil, ↓ops_cons, run_none, ↓run0_v, ↓seqK_normal, ↓seqK_exit, put_same, put_ne, ev_tmp, o_move, o_bin, o_len, g_none, bin_lss, decide_eq_true_eq, ↓reduceIte, Nat.reduceEqDiff, not_false_eq_true, ne_eq, len_lst T63 d63, e1, e13, d1]
      refine hexit _ _ _ (by simp) ?_
      simp +contextual (maxSteps := 3000000) only [↓code_seq, ↓code_region, ↓code_block, ↓code_loop, ↓ops_nil, ↓ops_cons, run_none, ↓run0_v, ↓seqK_normal, ↓blkK_exit, ev_const, oc_int, o_assign, g_none, ↓reduceIte]
      refine iterL_wp (Q := fun r => ∃ h', r = some (.bool true, h')) (N := stepsOf kq l) (Inv := fun k e h' => ∃ j offV V done todo cur, k + j = stepsOf kq l ∧ Tri h' (spool l.length l (done.length : Nat)) V offS offV w l.length (l.map fun b => .str (txt b)) ∧ done ++ todo = l ∧ FI 1 kq done todo cur V ∧ need kq todo cur ≤ stepsOf kq l - j ∧ j ≤ stepsOf kq l ∧ e 7 = .ptr 0 0 ∧ e 9 = .ptr 1 0 ∧ e 11 = w ∧ e 12 = .int .i64 (stepsOf kq l : Nat) ∧ e 14 = .int .i64 (j : Nat)) ?_ ?_ (by omega)
      · rintro k e h' K' ⟨j, offV, V, done, todo, cur, hk, hT, hdt, hF, hnd, hjl, e7, e9, e11, e12, e14⟩ hnext hexit
        by_cases hj : j < stepsOf kq l
        · have d1 : (j : Int) < (stepsOf kq l : Int) := by omega
          obtain ⟨hE, hG, offV2, V2, done', todo', cur', f1, f2, f3, f4, f5, f6⟩ := roundF h32 h25 h58 h37 h57 h38 h33 h39 h43 h42 h18 h34 h35 h36 h13 h59 h60 h35 4579 kq l.length done.length l V offS offV w l.length _ h' done todo cur ⟨hk1.1, by omega⟩ (Nat.le_refl _) (by omega) rfl (by rw [List.take_length]; exact hdt) (by rw [List.take_length]; exact hb3) hT hF
          rw [List.take_length] at f3
          have c7 : IntKind.i64.wrap ((j : Int) + 1) = ((j + 1 : Nat) : Int) := by rw [wrap_i64 (by omega) (by omega)]; rfl
          simp +contextual (maxSteps := 3000000) only [↓code_skip, ↓code_seq, ↓code_region, ↓code_cond, ↓code_block, aCond_bool, ↓ops_nil, ↓ops_cons, run_none, run_someF, ↓run0_v, ↓run0_r, ↓seqK_normal, ↓blkK_normal, put_same, put_ne, ev_tmp, ev_const, ev_func, oc_int, oc_bool, o_move, o_assign, o_pick, o_bin, o_call, g_none, g_some, pick_bool, bin_add, bin_neq, bin_lss, Option.bind_some, decide_eq_true_eq, ↓reduceIte, Nat.reduceEqDiff, not_false_eq_true, not_true_eq_false, List.getElem?_cons_zero, List.getElem?_cons_succ, List.getElem?_toArray, List.map_cons, List.map_nil, List.append_nil, List.nil_append, Bool.not_eq_eq_eq_not, Bool.not_true, ne_eq, decide_eq_false_iff_not, e7, e9, e12, e14, d1, f1, f2, c7, callV_fn (g := 13) (by decide), callV_fn (g := 18) (by decide)]
          refine hnext (k - 1) _ _ (by omega) ⟨j + 1, offV2, V2, done', todo', cur', by omega, ?_, ?_, ?_, ?_, ?_, ?_, ?_, ?_, ?_, ?_⟩
          · exact f4
          · exact f3
          · exact f5
          · omega
          · omega
          · simp only [put_ne, Nat.reduceEqDiff, not_false_eq_true, ne_eq, e7]
          · simp only [put_ne, Nat.reduceEqDiff, not_false_eq_true, ne_eq, e9]
          · simp only [put_ne, Nat.reduceEqDiff, not_false_eq_true, ne_eq, e11]
          · simp only [put_ne, Nat.reduceEqDiff, not_false_eq_true, ne_eq, e12]
          · simp only [put_same]
        · have d1 : ¬ (j : Int) < (stepsOf kq l : Int) := by omega
          have h0 : need kq todo cur = 0 := by omega
          have htd := hF.zero h0
          subst htd
          rw [List.append_nil] at hdt
          subst hdt
          have hVjs : V.js = done.map fun b => ((0 : Int), b) := hF.js
          obtain ⟨v, J, h1, g1, g2, g3, g4⟩ := V24 h32 h45 h24 4799 0 V offV h' hT.fv (by rw [hF.q]; omega) (by rw [hVjs, List.length_map]; omega) (by
            intro x hx
            rw [hVjs] at hx
            obtain ⟨b, hb, rfl⟩ := List.mem_map.1 hx
            have := hb3 b hb
            show b.length ≤ 5000; omega)
          have t1 := hT.grow g4
          have k25 := V25 h32 h25 4989 1 _ offS h1 t1.fs (by show ¬ (500 : Int) = 0; decide) (by rw [spool_len _ _ _ (Nat.le_refl _)]; exact ⟨by omega, by show 0 ≤ ((done.length : Nat) : Int); omega, by show ((done.length : Nat) : Int) ≤ _; omega⟩)
          have hq0 : (if (spool done.length done ((done.length : Nat) : Int)).r = 0 then (0 : Int) else ((spool done.length done ((done.length : Nat) : Int)).js.length : Nat) - (spool done.length done ((done.length : Nat) : Int)).lf) = 0 := by
            rw [if_neg (by show ¬ (20 : Int) = 0; decide), spool_len _ _ _ (Nat.le_refl _)]
            show ((done.length : Nat) : Int) - ((done.length : Nat) : Int) = 0
            omega
          rw [hq0] at k25
          obtain ⟨v2, J2, h2, q1, q2, q3, q4⟩ := V24 h32 h45 h24 4799 1 _ offS h1 t1.fs (by show ¬ (500 : Int) = 0; decide) (by rw [spool_len _ _ _ (Nat.le_refl _)]; omega) (by
            intro x hx
            have : x.2 ∈ done := by
              have h5 := spool_snd done.length done ((done.length : Nat) : Int)
              rw [List.take_length] at h5
              rw [← h5]; exact List.mem_map_of_mem hx
            have := hb3 _ this
            omega)
          have hJl : J.length = done.length := by have := congrArg List.length g3; rw [List.length_map, hVjs, List.length_map] at this; exact this
          have hJ2l : J2.length = done.length := by have := congrArg List.length q3; rw [List.length_map, spool_len _ _ _ (Nat.le_refl _)] at this; exact this
          have l1 : ∀ h, aLen T 51 v h = some (.int .i64 (done.length : Nat)) := fun h => by rw [← hJl]; exact g2.r.len T51 d51
          have l2 : ∀ h, aLen T 51 v2 h = some (.int .i64 (done.length : Nat)) := fun h => by rw [← hJ2l]; exact q2.r.len T51 d51
          have l3 : ∀ h, aLen T 64 w h = some (.int .i64 (done.length : Nat)) := fun h => hT.fr.len T64 d64
          have g5 := g2.grow q4
          have t2 := t1.grow q4
          simp +contextual (maxSteps := 3000000) only [↓code_seq, ↓code_region, ↓code_cond, ↓code_exit, aCond_bool, ↓ops_nil, ↓ops_cons, run_none, ↓run0_v, ↓seqK_normal, ↓seqK_exit, put_same, put_ne, ev_tmp, o_move, o_bin, g_none, bin_lss, decide_eq_true_eq, ↓reduceIte, Nat.reduceEqDiff, not_false_eq_true, ne_eq, e12, e14, d1]
          refine hexit _ _ _ (by simp) ?_
          simp +contextual (maxSteps := 3000000) only [↓code_skip, ↓code_seq, ↓code_region, ↓code_cond, ↓code_block, ↓code_loop, aCond_bool, ↓ops_nil, ↓ops_cons, run_none, run_someF, ↓run0_v, ↓run0_r, ↓seqK_normal, ↓blkK_exit, put_same, put_ne, ev_tmp, ev_const, ev_func, oc_int, oc_bool, o_move, o_assign, o_pick, o_bin, o_call, o_len, g_none, g_some, pick_bool, bin_neq, Option.bind_some, ↓reduceIte, Nat.reduceEqDiff, not_false_eq_true, not_true_eq_false, List.getElem?_cons_zero, List.getElem?_cons_succ, List.getElem?_toArray, List.map_cons, List.map_nil, List.append_nil, List.nil_append, Bool.not_eq_eq_eq_not, Bool.not_true, ne_eq, decide_eq_false_iff_not, e7, e9, e11, g1, k25, q1, l1, l2, l3, callV_fn (g := 24) (by decide), callV_fn (g := 25) (by decide)]
          refine iterL_wp (Q := fun r => ∃ h', r = some (.bool true, h')) (N := done.length) (Inv := fun k e h' => ∃ i, k + i = done.length ∧ h' = h2 ∧ i ≤ done.length ∧ e 11 = w ∧ e 15 = v ∧ e 16 = .int .i64 (i : Nat)) ?_ ?_ (by omega)
          · rintro k e h' K' ⟨i, hk, hh, hil, e11, e15, e16⟩ hnext hexit
            subst hh
            by_cases hi : i < done.length
            · have d1 : (i : Int) < (done.length : Int) := by omega
              obtain ⟨j, hj⟩ : ∃ j, J[i]? = some j := ⟨J[i], List.getElem?_eq_getElem (by omega)⟩
              obtain ⟨b, hb⟩ : ∃ b, done[i]? = some b := ⟨done[i], List.getElem?_eq_getElem hi⟩
              have hjv : jv j = (0, b) := by
                have := congrArg (fun l => l[i]?) g3
                simp only [List.getElem?_map, hj, hVjs, hb, Option.map_some] at this
                simpa using this
              have hjc : j.c = 0 := congrArg Prod.fst hjv
              have hjb : j.bs = b := congrArg Prod.snd hjv
              obtain ⟨bb, cs, bk, x1, x2, x3, x4⟩ := loadJ g5.r hj
              have x5 := take2 x4
              have hst := dat_str (g5.d j (List.mem_of_getElem? hj))
              rw [hjb] at hst
              obtain ⟨bw, rest, _, y1, y2, y3⟩ := t2.fr.at_ T64 d64 T9 s9 hi
              rw [Nat.mul_one] at y1
              have y4 : ((done.map fun b => AV.str (txt b)) ++ rest)[i]? = some (.str (txt b)) := by
                rw [List.getElem?_append_left (by rw [List.length_map]; exact hi), List.getElem?_map, hb]; rfl
              have c7 : IntKind.i64.wrap ((i : Int) + 1) = ((i + 1 : Nat) : Int) := by rw [wrap_i64 (by omega) (by omega)]; rfl
              simp +contextual (maxSteps := 3000000) only [↓code_skip, ↓code_seq, ↓code_region, ↓code_cond, ↓code_block, aCond_bool, ↓ops_nil, ↓ops_cons, run_none, run_someF, ↓run0_v, ↓run0_r, ↓seqK_normal, ↓blkK_normal, put_same, put_ne, ev_tmp, ev_const, oc_int, oc_bool, o_move, o_assign, o_pick, o_bin, o_len, o_load, o_convert, o_fieldAddr, o_indexAddr, g_none, g_some, pick_bool, bin_add, bin_neq, bin_lss, str_neq, Option.bind_some, decide_eq_true_eq, ↓reduceIte, Nat.reduceEqDiff, not_false_eq_true, not_true_eq_false, List.getElem?_cons_zero, List.getElem?_cons_succ, List.getElem?_toArray, Bool.not_eq_eq_eq_not, Bool.not_true, ne_eq, decide_eq_false_iff_not, load_p1 T48 a48, loadc_def, fa_ptr T58 p58_0 (by decide), load_p1 T3 a3, fa_ptr T58 p58_1 (by decide), load_p1 T9 a9, e11, e15, e16, l1, d1, x1, x2, Nat.add_zero, x5.1, x5.2, hjc, hst, y1, y2, y4, c7]
              refine hnext (k - 1) _ _ (by omega) ⟨i + 1, by omega, ?_, ?_, ?_, ?_, ?_⟩
              · rfl
              · omega
              · simp only [put_ne, Nat.reduceEqDiff, not_false_eq_true, ne_eq, e11]
              · simp only [put_ne, Nat.reduceEqDiff, not_false_eq_true, ne_eq, e15]
              · simp only [put_same]
            · have d1 : ¬ (i : Int) < (done.length : Int) := by omega
              simp +contextual (maxSteps := 3000000) only [↓code_seq, ↓code_region, ↓code_cond, ↓code_exit, aCond_bool, ↓ops_nil, ↓ops_cons, run_none, ↓run0_v, ↓seqK_normal, ↓seqK_exit, put_same, put_ne, ev_tmp, o_move, o_bin, o_len, g_none, bin_lss, decide_eq_true_eq, ↓reduceIte, Nat.reduceEqDiff, not_false_eq_true, ne_eq, e15, e16, l1, d1]
              refine hexit _ _ _ (by simp) ?_
              simp +contextual (maxSteps := 3000000) only [↓code_seq, ↓code_region, ↓code_ret, ↓ops_nil, ↓ops_cons, run_none, ↓run0_v, ↓run0_r, ↓seqK_normal, ↓blkK_exit, ↓retK_ret, put_same, ev_tmp, ev_func, o_assign, o_call, g_none, resultsOf, oneOrAll, Option.map_some, ↓reduceIte, List.map_nil, List.append_nil, K11 h11, callV_fn (g := 11) (by decide)]
              exact ⟨_, rfl⟩
          · refine ⟨0, by omega, ?_, ?_, ?_, ?_, ?_⟩
            · rfl
            · omega
            · simp only [put_ne, Nat.reduceEqDiff, not_false_eq_true, ne_eq, e11]
            · simp only [put_same, put_ne, Nat.reduceEqDiff, not_false_eq_true, ne_eq]
            · simp only [put_same]; rfl
      · refine ⟨0, offV, V, done, todo, cur, by omega, ?_, ?_, ?_, ?_, ?_, ?_, ?_, ?_, ?_, ?_⟩
        · exact hT1
        · exact hdt1
        · exact hF1
        · (rw [Nat.sub_zero]; exact hnd)
        · omega
        · simp only [put_ne, Nat.reduceEqDiff, not_false_eq_true, ne_eq, e7]
        · simp only [put_ne, Nat.reduceEqDiff, not_false_eq_true, ne_eq, e9]
        · simp only [put_ne, Nat.reduceEqDiff, not_false_eq_true, ne_eq, e11]
        · simp only [put_ne, Nat.reduceEqDiff, not_false_eq_true, ne_eq, e12]
        · simp only [put_same]; rfl
  · refine ⟨0, offS0, offV0, .nils, ⟨(kq : Int), 0, 0, [], [], []⟩, [], [], none, by omega, ?_, ?_, ?_, ?_, ?_, ?_, ?_, ?_, ?_, ?_, ?_, ?_, ?_, ?_⟩
    · exact hT0
    · rfl
    · exact hF0
    · exact Nat.zero_le _
    · omega
    · simp
    · simp only [put_ne, env0_at, Option.getD_some, not_false_eq_true, reduceCtorEq, List.getElem?_cons_zero, ne_eq]
    · simp only [put_ne, env0_at, Option.getD_some, Nat.reduceEqDiff, not_false_eq_true, List.getElem?_cons_zero, List.getElem?_cons_succ, ne_eq]
    · simp only [put_ne, env0_at, Option.getD_some, Nat.reduceEqDiff, not_false_eq_true, List.getElem?_cons_zero, List.getElem?_cons_succ, ne_eq]
    · simp only [put_same, put_ne, Nat.reduceEqDiff, not_false_eq_true, ne_eq]
    · simp only [put_same, put_ne, Nat.reduceEqDiff, not_false_eq_true, ne_eq]
    · simp only [put_same, put_ne, Nat.reduceEqDiff, not_false_eq_true, ne_eq]
    · simp only [put_same, put_ne, Nat.reduceEqDiff, not_false_eq_true, ne_eq, List.take_zero]; rfl
    · simp only [put_same]; rfl
end Go.AM.X
namespace Go.AM.X
open Go Go.AM Go.Proofs Go.AM.Sx
set_option maxHeartbeats 3200000
set_option maxRecDepth 100000
set_option linter.unusedVariables false
theorem lawF (q : Int) (hq : 0 ≤ q ∧ q ≤ 255) (l : List (List Int)) (tk : List Int) (htk : ∀ x ∈ tk, 0 ≤ x ∧ x ≤ 255) : ∃ h', call F I1 T 5000 6 [.int .u8 q, jobsV l, .lst false 1 tk.length (bytes tk)] e0 = some (.bool true, h') :=
  law6 rfl rfl rfl rfl rfl rfl rfl rfl rfl rfl rfl rfl rfl rfl rfl rfl rfl rfl rfl rfl rfl rfl rfl rfl rfl rfl rfl q hq l tk htk
end Go.AM.X
