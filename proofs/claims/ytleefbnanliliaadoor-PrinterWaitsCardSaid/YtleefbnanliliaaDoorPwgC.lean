/- Printers: what changes, and what stays. Own work. -/
import Derived.Test.YtleefbnanliliaaDoorPwgB
namespace Go.AM.X
open Go Go.AM Go.Proofs Go.AM.Sx
set_option maxHeartbeats 3200000
set_option maxRecDepth 100000
set_option linter.unusedVariables false
theorem F12 : F 12 = some { body := (Tryd.f12.body.getD .skip), results := Tryd.f12.results.toList, rf := false } := by kernel_rfl
theorem R12 : regsOk T (Tryd.f12.body.getD .skip) = true := by kernel_rfl
theorem F33 : F 33 = some { body := (Tryd.f33.body.getD .skip), results := Tryd.f33.results.toList, rf := false } := by kernel_rfl
theorem R33 : regsOk T (Tryd.f33.body.getD .skip) = true := by kernel_rfl
theorem F15 : F 15 = some { body := (Tryd.f15.body.getD .skip), results := Tryd.f15.results.toList, rf := false } := by kernel_rfl
theorem R15 : regsOk T (Tryd.f15.body.getD .skip) = true := by kernel_rfl
def Pr.off (P : Pr) (p c : Nat) : Prop := c ≠ p ∧ offRow P.wv c ∧ offRow P.sv c ∧ ∀ s ∈ P.ss, c ≠ s.a
/-- A step of a printer: what is not its own is as it was, and is not its own behind it. -/
def Stp (h h2 : AH) (p : Nat) (P P2 : Pr) : Prop := h.next ≤ h2.next ∧ ∀ c, c < h.next → P.off p c → h2.get c = h.get c ∧ P2.off p c
theorem Stp.trans {h h2 h3 : AH} {p : Nat} {P P2 P3 : Pr} (a : Stp h h2 p P P2) (b : Stp h2 h3 p P2 P3) : Stp h h3 p P P3 :=
  ⟨Nat.le_trans a.1 b.1, fun c hc ho => by
    have h1 := a.2 c hc ho
    have h2 := b.2 c (Nat.lt_of_lt_of_le hc a.1) h1.2
    exact ⟨h2.1.trans h1.1, h2.2⟩⟩
theorem Stp.grow {h h2 : AH} (p : Nat) (P : Pr) (a : Grow h h2) : Stp h h2 p P P := ⟨a.1, fun c hc ho => ⟨a.2 c hc, ho⟩⟩
theorem Stp.refl (h : AH) (p : Nat) (P : Pr) : Stp h h p P P := Stp.grow p P (Grow.refl h)
theorem off_new {h : AH} {v0 v : AV} (hsh : ∀ b o l k z x, v = .sl b o l k z x → h.next ≤ b ∨ ∃ o l k z x, v0 = .sl b o l k z x) {c : Nat} (hc : c < h.next) (ho : offRow v0 c) : offRow v c := by
  intro b o l k z x hv
  rcases hsh b o l k z x hv with hb | ⟨_, _, _, _, _, hv0⟩
  · omega
  · exact ho _ _ _ _ _ _ hv0
theorem OkP.core_w {h h5 : AH} {p : Nat} {P : Pr} {v : AV} {ws : List Wt} (hP : OkP h p P) (hp : h5.get p = some ({P with wv := v, ws := ws} : Pr).blk) (hr : RowC 3 h5 v ws.length (wcs ws)) (hn : h.next ≤ h5.next) (hk : ∀ c, c < h.next → c ≠ p → offRow P.wv c → h5.get c = h.get c)
    (hsh : ∀ b o l k z x, v = .sl b o l k z x → h.next ≤ b ∨ ∃ o l k z x, P.wv = .sl b o l k z x) (hb : ∀ w ∈ ws, okB w.b) (hl : ws.length ≤ 100) :
    OkP h5 p {P with wv := v, ws := ws} ∧ Stp h h5 p P {P with wv := v, ws := ws} := by
  have hlt := hP.lt
  refine ⟨{ lt := by omega, g := hp, w := hr, s := ?_, b := ?_, wp := off_new hsh hP.lt hP.wp, sp := hP.sp, wsv := ?_, ap := ?_, nd := hP.nd, wb := hb, jc := hP.jc, wl := hl, sl := hP.sl }, hn, fun c hc ho => ⟨hk c hc ho.1 ho.2.1, ho.1, off_new hsh hc ho.2.1, ho.2.2⟩⟩
  · exact hP.s.keep hn fun b o l k z x hv => hk b (hP.s.lt hv) (fun e => hP.sp _ _ _ _ _ _ hv e.symm) fun b' o' l' k' z' x' hv' e => hP.wsv _ _ _ _ _ _ hv' _ _ _ _ _ _ hv e.symm
  · intro x hx
    have h1 := hP.b x hx
    have h2 := hP.ap x hx
    refine ⟨by omega, ?_⟩
    unfold Sv.ok
    rw [hk x.a h1.1 (fun e => h2.1 e.symm) h2.2.1]
    exact h1.2
  · intro b o l k z x hv
    rcases hsh b o l k z x hv with hb | ⟨_, _, _, _, _, hv0⟩
    · intro b' o' l' k' z' x' hv'
      have := hP.s.lt hv'
      omega
    · exact hP.wsv _ _ _ _ _ _ hv0
  · intro x hx
    have h1 := hP.b x hx
    have h2 := hP.ap x hx
    exact ⟨h2.1, off_new hsh h1.1 h2.2.1, h2.2.2⟩
theorem OkP.set_w {h h4 : AH} {p : Nat} {P : Pr} {v : AV} {ws : List Wt} (hP : OkP h p P) (hr : RowC 3 h4 v ws.length (wcs ws)) (hn : h.next ≤ h4.next) (hk : ∀ c, c < h.next → offRow P.wv c → h4.get c = h.get c)
    (hsh : ∀ b o l k z x, v = .sl b o l k z x → h.next ≤ b ∨ ∃ o l k z x, P.wv = .sl b o l k z x) (hb : ∀ w ∈ ws, okB w.b) (hl : ws.length ≤ 100) :
    OkP (h4.put p ({P with wv := v, ws := ws} : Pr).blk) p {P with wv := v, ws := ws} ∧ Stp h (h4.put p ({P with wv := v, ws := ws} : Pr).blk) p P {P with wv := v, ws := ws} :=
  hP.core_w (by rw [AH.get_put, if_pos rfl]) (hr.keep (Nat.le_refl _) fun b o l k z x hv => by rw [AH.get_put, if_neg (fun e => off_new hsh hP.lt hP.wp _ _ _ _ _ _ hv e.symm)]) hn (fun c hc hcp ho => by rw [AH.get_put, if_neg hcp]; exact hk c hc ho) hsh hb hl
theorem OkP.core_s {h h5 : AH} {p : Nat} {P : Pr} {v : AV} {ss : List Sv} (hP : OkP h p P) (hp : h5.get p = some ({P with sv := v, ss := ss} : Pr).blk) (hr : RowC 1 h5 v ss.length (scs ss)) (hn : h.next ≤ h5.next) (hk : ∀ c, c < h.next → c ≠ p → offRow P.sv c → (∀ s ∈ P.ss, c ≠ s.a) → h5.get c = h.get c)
    (hsh : ∀ b o l k z x, v = .sl b o l k z x → h.next ≤ b ∨ ∃ o l k z x, P.sv = .sl b o l k z x) (hb : ∀ s ∈ ss, s.a < h5.next ∧ s.ok h5 ∧ p ≠ s.a ∧ offRow P.wv s.a ∧ offRow v s.a ∧ (h.next ≤ s.a ∨ ∃ s0 ∈ P.ss, s0.a = s.a)) (hnd : (ss.map Sv.a).Nodup) (hl : ss.length ≤ 100) :
    OkP h5 p {P with sv := v, ss := ss} ∧ Stp h h5 p P {P with sv := v, ss := ss} := by
  have hlt := hP.lt
  refine ⟨{ lt := by omega, g := hp, w := ?_, s := hr, b := fun x hx => ⟨(hb x hx).1, (hb x hx).2.1⟩, wp := hP.wp, sp := off_new hsh hP.lt hP.sp, wsv := ?_, ap := fun x hx => ⟨(hb x hx).2.2.1, (hb x hx).2.2.2.1, (hb x hx).2.2.2.2.1⟩, nd := hnd, wb := hP.wb, jc := hP.jc, wl := hP.wl, sl := hl }, hn, fun c hc ho => ⟨hk c hc ho.1 ho.2.2.1 ho.2.2.2, ho.1, ho.2.1, off_new hsh hc ho.2.2.1, ?_⟩⟩
  · exact hP.w.keep hn fun b o l k z x hv => hk b (hP.w.lt hv) (fun e => hP.wp _ _ _ _ _ _ hv e.symm) (hP.wsv _ _ _ _ _ _ hv) fun s hs e => (hP.ap s hs).2.1 _ _ _ _ _ _ hv e.symm
  · intro b o l k z x hv
    exact off_new hsh (hP.w.lt hv) (hP.wsv _ _ _ _ _ _ hv)
  · intro s hs e
    rcases (hb s hs).2.2.2.2.2 with h1 | ⟨s0, h1, h2⟩
    · omega
    · exact ho.2.2.2 s0 h1 (e.trans h2.symm)
theorem OkP.set_s {h h4 : AH} {p : Nat} {P : Pr} {v : AV} {ss : List Sv} (hP : OkP h p P) (hr : RowC 1 h4 v ss.length (scs ss)) (hn : h.next ≤ h4.next) (hk : ∀ c, c < h.next → offRow P.sv c → (∀ s ∈ P.ss, c ≠ s.a) → h4.get c = h.get c)
    (hsh : ∀ b o l k z x, v = .sl b o l k z x → h.next ≤ b ∨ ∃ o l k z x, P.sv = .sl b o l k z x) (hb : ∀ s ∈ ss, s.a < h4.next ∧ s.ok h4 ∧ p ≠ s.a ∧ offRow P.wv s.a ∧ offRow v s.a ∧ (h.next ≤ s.a ∨ ∃ s0 ∈ P.ss, s0.a = s.a)) (hnd : (ss.map Sv.a).Nodup) (hl : ss.length ≤ 100) :
    OkP (h4.put p ({P with sv := v, ss := ss} : Pr).blk) p {P with sv := v, ss := ss} ∧ Stp h (h4.put p ({P with sv := v, ss := ss} : Pr).blk) p P {P with sv := v, ss := ss} :=
  hP.core_s (by rw [AH.get_put, if_pos rfl]) (hr.keep (Nat.le_refl _) fun b o l k z x hv => by rw [AH.get_put, if_neg (fun e => off_new hsh hP.lt hP.sp _ _ _ _ _ _ hv e.symm)]) hn (fun c hc hcp ho ha => by rw [AH.get_put, if_neg hcp]; exact hk c hc ho ha) hsh
    (fun s hs => by
      obtain ⟨b1, b2, b3, b4, b5, b6⟩ := hb s hs
      refine ⟨b1, ?_, b3, b4, b5, b6⟩
      unfold Sv.ok
      rw [AH.get_put, if_neg (fun e => b3 e.symm)]
      exact b2) hnd hl
/-- What is told to one who wants. -/
def wantE (P : Pr) (w : Wt) : Int := if 0 ≤ idxAt (pW w.c) 0 P.ws ∨ 0 ≤ idxAt (pS w.c) 0 P.ss then 8 else if P.ws.length = 100 then 4 else 0
def wantP (P : Pr) (w : Wt) : List Wt := if wantE P w = 0 then P.ws ++ [w] else P.ws
theorem run33 {I : Nat → Option (List AV → AH → Rs)} (h58 : I 58 = none) (h37 : I 37 = none) (h57 : I 57 = none) (h38 : I 38 = none) (h33 : I 33 = none) (h59 : I 59 = none) (h60 : I 60 = none) (m p : Nat) (w : Wt) (P : Pr) (h : AH) (hP : OkP h p P) (hwb : okB w.b) :
    ∃ v2 h2, call F I T (m + 302) 33 [.ptr p 0, .agg w.enc] h = some (.int .i64 (wantE P w), h2) ∧ OkP h2 p {P with wv := v2, ws := wantP P w} ∧ Stp h h2 p P {P with wv := v2, ws := wantP P w} := by
  have hgA := Grow.alloc h (.cells [.int .i64 w.c, .int .i64 w.w, w.b] .own)
  have hPA := hP.grow hgA
  obtain ⟨h2, k1, g1⟩ := run37 h58 h37 h59 m p w.c P _ hPA
  have hPB := hPA.grow g1
  have k2 := run38 h57 h38 h60 m p w.c P _ hPB
  have g2 := Grow.alloc h2 (.cells [.int .i64 w.c] .own)
  have hPC := hPB.grow g2
  have gAll := (hgA.trans g1).trans g2
  obtain ⟨h3, hh3⟩ : ∃ h3, h3 = h2.alloc (.cells [.int .i64 w.c] .own) := ⟨_, rfl⟩
  rw [← hh3] at k2 g2 hPC gAll
  have hA1 : (h.alloc (.cells [.int .i64 w.c, .int .i64 w.w, w.b] .own)).get h.next = some (.cells [.int .i64 w.c, .int .i64 w.w, w.b] .own) := by rw [AH.get_alloc, if_pos rfl]
  have hw2 : h2.get h.next = some (.cells [.int .i64 w.c, .int .i64 w.w, w.b] .own) := by rw [g1.2 _ (by simp)]; exact hA1
  have hw3 : h3.get h.next = some (.cells [.int .i64 w.c, .int .i64 w.w, w.b] .own) := by rw [g2.2 _ (by have := g1.1; simp at this; omega)]; exact hw2
  have hp3 : h3.get p = some (.cells [.int .i64 P.q, .int .i64 P.r, P.wv, P.sv, P.jv, .int .i64 P.lf] .own) := hPC.g
  have hlen : ∀ h, aLen T 70 P.wv h = some (.int .i64 (P.ws.length : Nat)) := fun h => hP.w.len T70 d70
  have hwl := hP.wl
  by_cases c1 : 0 ≤ idxAt (pW w.c) 0 P.ws
  · have hE : wantE P w = 8 := by unfold wantE; rw [if_pos (.inl c1)]
    have hW : wantP P w = P.ws := by unfold wantP; rw [hE]; rfl
    refine ⟨P.wv, h2, ?_, by rw [hW]; exact hPB, by rw [hW]; exact Stp.grow p P (hgA.trans g1)⟩
    rw [hE]
    rw [call_F (by decide) h33 F33 rfl R33]; simp only [Tryd.f33, Option.getD]
    simp +contextual (maxSteps := 3000000) only [↓code_seq, ↓code_region, ↓code_cond, ↓code_block, ↓code_ret, aCond_bool, ↓ops_nil, ↓ops_cons, run_none, run_someF, ↓run0_v, ↓run0_r, ↓seqK_normal, ↓seqK_ret, ↓blkK_ret, ↓retK_ret, put_same, put_ne, env0_at, ev_tmp, ev_const, ev_func, oc_int, oc_bool, o_move, o_assign, o_pick, o_bin, o_call, o_box, o_load, o_fieldAddr, g_none, g_some, pick_bool, bin_geq, resultsOf, oneOrAll, Option.bind_some, Option.map_some, Option.getD_some, decide_eq_true_eq, ↓reduceIte, Nat.reduceEqDiff, not_false_eq_true, Nat.reduceAdd, reduceCtorEq, List.getElem?_cons_zero, List.getElem?_cons_succ, List.getElem?_toArray, List.map_cons, List.map_nil, List.append_nil, List.nil_append, ge_iff_le, ne_eq, box_agg, fa_ptr T81 p81_0 (by decide), load_p1 T3 a3, loadc_def, hA1, k1, c1, Wt.enc, callV_fn (g := 37) (by decide), callV_fn (g := 38) (by decide)]
  by_cases c2 : 0 ≤ idxAt (pS w.c) 0 P.ss
  · have hE : wantE P w = 8 := by unfold wantE; rw [if_pos (.inr c2)]
    have hW : wantP P w = P.ws := by unfold wantP; rw [hE]; rfl
    refine ⟨P.wv, h3, ?_, by rw [hW]; exact hPC, by rw [hW]; exact Stp.grow p P gAll⟩
    rw [hE]
    rw [call_F (by decide) h33 F33 rfl R33]; simp only [Tryd.f33, Option.getD]
    simp +contextual (maxSteps := 3000000) only [↓code_seq, ↓code_region, ↓code_cond, ↓code_block, ↓code_ret, aCond_bool, ↓ops_nil, ↓ops_cons, run_none, run_someF, ↓run0_v, ↓run0_r, ↓seqK_normal, ↓seqK_ret, ↓blkK_ret, ↓retK_ret, put_same, put_ne, env0_at, ev_tmp, ev_const, ev_func, oc_int, oc_bool, o_move, o_assign, o_pick, o_bin, o_call, o_box, o_load, o_fieldAddr, g_none, g_some, pick_bool, bin_geq, resultsOf, oneOrAll, Option.bind_some, Option.map_some, Option.getD_some, decide_eq_true_eq, ↓reduceIte, Nat.reduceEqDiff, not_false_eq_true, Nat.reduceAdd, reduceCtorEq, List.getElem?_cons_zero, List.getElem?_cons_succ, List.getElem?_toArray, List.map_cons, List.map_nil, List.append_nil, List.nil_append, ge_iff_le, ne_eq, box_agg, fa_ptr T81 p81_0 (by decide), load_p1 T3 a3, loadc_def, hA1, hw2, k1, k2, c1, c2, Wt.enc, callV_fn (g := 37) (by decide), callV_fn (g := 38) (by decide)]
  by_cases c3 : P.ws.length = 100
  · have hE : wantE P w = 4 := by unfold wantE; rw [if_neg (by rintro (h | h) <;> contradiction), if_pos c3]
    have hW : wantP P w = P.ws := by unfold wantP; rw [hE]; rfl
    have c4 : ((P.ws.length : Nat) : Int) = 100 := by omega
    refine ⟨P.wv, h3, ?_, by rw [hW]; exact hPC, by rw [hW]; exact Stp.grow p P gAll⟩
    rw [hE]
    rw [call_F (by decide) h33 F33 rfl R33]; simp only [Tryd.f33, Option.getD]
    simp +contextual (maxSteps := 3000000) only [↓code_seq, ↓code_region, ↓code_cond, ↓code_block, ↓code_ret, aCond_bool, ↓ops_nil, ↓ops_cons, run_none, run_someF, ↓run0_v, ↓run0_r, ↓seqK_normal, ↓seqK_ret, ↓blkK_ret, ↓retK_ret, put_same, put_ne, env0_at, ev_tmp, ev_const, ev_func, oc_int, oc_bool, o_move, o_assign, o_pick, o_bin, o_call, o_len, o_box, o_load, o_nilCheck, o_fieldAddr, g_none, g_some, pick_bool, bin_eql, bin_geq, nil_ptr, resultsOf, oneOrAll, Option.bind_some, Option.map_some, Option.getD_some, decide_eq_true_eq, ↓reduceIte, Nat.reduceEqDiff, not_false_eq_true, Nat.reduceAdd, reduceCtorEq, List.getElem?_cons_zero, List.getElem?_cons_succ, List.getElem?_toArray, List.map_cons, List.map_nil, List.append_nil, List.nil_append, ge_iff_le, ne_eq, box_agg, fa_ptr T81 p81_0 (by decide), load_p1 T3 a3, loadc_def, fa_ptr T73 p73_2 (by decide), load_p1 T70 a70, hA1, hw2, hp3, hlen, k1, k2, c1, c2, c4, Wt.enc, callV_fn (g := 37) (by decide), callV_fn (g := 38) (by decide)]
  have hE : wantE P w = 0 := by unfold wantE; rw [if_neg (by rintro (h | h) <;> contradiction), if_neg c3]
  have hW : wantP P w = P.ws ++ [w] := by unfold wantP; rw [hE]; rfl
  have c4 : ¬ ((P.ws.length : Nat) : Int) = 100 := by omega
  have hone : ([.int .i64 w.c, .int .i64 w.w, w.b] : List AV).all AV.one = true := by simp only [List.all_cons, List.all_nil, hwb.one.1]; rfl
  obtain ⟨v2, h4, q1, q2, q3, q4, q5⟩ := hPC.w.push (new := [.int .i64 w.c, .int .i64 w.w, w.b]) T70 d70 T81 s81 (by decide) (by rw [b81]; decide) rfl hone (by rw [b81]; simp [maxBytes]; omega)
  have hp4 : h4.get p = some (.cells [.int .i64 P.q, .int .i64 P.r, P.wv, P.sv, P.jv, .int .i64 P.lf] .own) := by rw [q4 p hPC.lt hPC.wp]; exact hp3
  have hS := hPC.set_w (v := v2) (ws := P.ws ++ [w]) (h4 := h4) (by rw [wcs_app, List.length_append]; exact q2) (by omega) q4 q5 (fun x hx => by
    rcases List.mem_append.1 hx with h | h
    · exact hP.wb x h
    · rw [List.mem_singleton] at h; subst h; exact hwb) (by rw [List.length_append]; simp; omega)
  rw [← hW] at hS
  refine ⟨v2, _, ?_, hS.1, (Stp.grow p P gAll).trans hS.2⟩
  obtain ⟨u1, u2⟩ := q2.cells
  rw [hE]
  rw [call_F (by decide) h33 F33 rfl R33]; simp only [Tryd.f33, Option.getD]
  simp +contextual (maxSteps := 3000000) only [↓code_skip, ↓code_seq, ↓code_region, ↓code_cond, ↓code_block, ↓code_ret, aCond_bool, ↓ops_nil, ↓ops_cons, run_none, run_someF, ↓run0_v, ↓run0_h, ↓run0_r, ↓seqK_normal, ↓blkK_normal, ↓retK_ret, put_same, put_ne, put_none, env0_at, ev_tmp, ev_const, ev_func, oc_int, oc_bool, o_move, o_assign, o_pick, o_bin, o_call, o_len, o_box, o_buildSlice, o_load, o_store, o_nilCheck, o_fieldAddr, o_append, g_none, g_some, pick_bool, bin_eql, bin_geq, nil_ptr, resultsOf, oneOrAll, Option.bind_some, Option.map_some, Option.getD_some, decide_eq_true_eq, ↓reduceIte, Nat.reduceEqDiff, not_false_eq_true, Nat.reduceAdd, Nat.reduceMul, reduceCtorEq, List.getElem?_cons_zero, List.getElem?_cons_succ, List.getElem?_toArray, List.map_cons, List.map_nil, List.append_nil, List.nil_append, and_true, Nat.le_refl, ge_iff_le, ne_eq, box_agg, fa_ptr T81 p81_0 (by decide), load_p1 T3 a3, loadc_def, fa_ptr T73 p73_2 (by decide), load_p1 T70 a70, load_pA T81 a81, s81, loadn_def, buildSl T70 d70 T81 (n := 1) (by rw [s81]; decide), z81, parts_eq, fillA, AV.cells, AH.splice, List.take_succ_cons, List.take_zero, List.take_nil, List.drop_succ_cons, List.drop_zero, List.drop_nil, List.length_cons, List.length_nil, repl, run0_h, hA1, hw2, hw3, hp3, hlen, k1, k2, c1, c2, c4, q1, store_1 T70 s70 u1 u2 hp4 (show 2 < 6 by decide), Wt.enc, callV_fn (g := 37) (by decide), callV_fn (g := 38) (by decide)]
  rfl
/-- What is told to one who wants from a count on. -/
def WantE (P : Pr) (c w : Int) : Int := if c < 1 ∨ within w 0 100000 = false then 2 else wantE P ⟨c, w, .nilp⟩
def WantP (P : Pr) (c w : Int) : List Wt := if c < 1 ∨ within w 0 100000 = false then P.ws else wantP P ⟨c, w, .nilp⟩
theorem run12 {I : Nat → Option (List AV → AH → Rs)} (h30 : I 30 = none) (h32 : I 32 = none) (h58 : I 58 = none) (h37 : I 37 = none) (h57 : I 57 = none) (h38 : I 38 = none) (h33 : I 33 = none) (h12 : I 12 = none) (h59 : I 59 = none) (h60 : I 60 = none) (m p : Nat) (c w : Int) (P : Pr) (h : AH) (hP : OkP h p P) (hq : ¬ P.q = 0) :
    ∃ v2 h2, call F I T (m + 303) 12 [.ptr p 0, .int .i64 c, .int .i64 w] h = some (.int .i64 (WantE P c w), h2) ∧ OkP h2 p {P with wv := v2, ws := WantP P c w} ∧ Stp h h2 p P {P with wv := v2, ws := WantP P c w} := by
  have k1 := run32 h32 (m + 301) p P.q P.r P.wv P.sv P.jv P.lf h hP.g hq
  by_cases c1 : c < 1
  · refine ⟨P.wv, h, ?_, by unfold WantP; rw [if_pos (.inl c1)]; exact hP, by unfold WantP; rw [if_pos (.inl c1)]; exact Stp.refl _ _ _⟩
    unfold WantE; rw [if_pos (.inl c1)]
    rw [call_F (by decide) h12 F12 rfl R12]; simp only [Tryd.f12, Option.getD]
    simp +contextual (maxSteps := 3000000) only [↓code_seq, ↓code_region, ↓code_cond, ↓code_block, ↓code_ret, aCond_bool, ↓ops_nil, ↓ops_cons, run_none, run_someF, ↓run0_v, ↓run0_r, ↓seqK_normal, ↓seqK_ret, ↓blkK_ret, ↓retK_ret, put_same, put_ne, env0_at, ev_tmp, ev_const, ev_func, oc_int, oc_bool, o_move, o_assign, o_pick, o_bin, o_call, o_un, g_none, g_some, pick_bool, bin_lss, resultsOf, oneOrAll, Option.bind_some, Option.map_some, Option.getD_some, decide_eq_true_eq, ↓reduceIte, Nat.reduceEqDiff, not_false_eq_true, reduceCtorEq, List.getElem?_cons_zero, List.getElem?_cons_succ, List.getElem?_toArray, Bool.false_eq_true, List.map_cons, List.map_nil, List.append_nil, List.nil_append, ne_eq, k1, c1, callV_fn (g := 32) (by decide), callV_fn (g := 30) (by decide)]
  cases c2 : within w 0 100000
  · refine ⟨P.wv, h, ?_, by unfold WantP; rw [if_pos (.inr c2)]; exact hP, by unfold WantP; rw [if_pos (.inr c2)]; exact Stp.refl _ _ _⟩
    unfold WantE; rw [if_pos (.inr c2)]
    rw [call_F (by decide) h12 F12 rfl R12]; simp only [Tryd.f12, Option.getD]
    simp +contextual (maxSteps := 3000000) only [↓code_seq, ↓code_region, ↓code_cond, ↓code_block, ↓code_ret, aCond_bool, ↓ops_nil, ↓ops_cons, run_none, run_someF, ↓run0_v, ↓run0_r, ↓seqK_normal, ↓seqK_ret, ↓blkK_ret, ↓retK_ret, put_same, put_ne, env0_at, ev_tmp, ev_const, ev_func, oc_int, oc_bool, o_move, o_assign, o_pick, o_bin, o_call, o_un, g_none, g_some, pick_bool, bin_lss, un_not, resultsOf, oneOrAll, Option.bind_some, Option.map_some, Option.getD_some, decide_eq_true_eq, ↓reduceIte, Nat.reduceEqDiff, not_false_eq_true, reduceCtorEq, List.getElem?_cons_zero, List.getElem?_cons_succ, List.getElem?_toArray, Bool.false_eq_true, List.map_cons, List.map_nil, List.append_nil, List.nil_append, Bool.not_false, ne_eq, K30 h30, k1, c1, c2, callV_fn (g := 32) (by decide), callV_fn (g := 30) (by decide)]
  have hc : ¬ (c < 1 ∨ within w 0 100000 = false) := by rw [c2]; simp; omega
  obtain ⟨v2, h2, k2, k3, k4⟩ := run33 h58 h37 h57 h38 h33 h59 h60 m p ⟨c, w, .nilp⟩ P h hP (.inl rfl)
  unfold Wt.enc at k2
  refine ⟨v2, h2, ?_, by unfold WantP; rw [if_neg hc]; exact k3, by unfold WantP; rw [if_neg hc]; exact k4⟩
  unfold WantE; rw [if_neg hc]
  rw [call_F (by decide) h12 F12 rfl R12]; simp only [Tryd.f12, Option.getD]
  simp +contextual (maxSteps := 3000000) only [↓code_skip, ↓code_seq, ↓code_region, ↓code_cond, ↓code_block, ↓code_ret, aCond_bool, ↓ops_nil, ↓ops_cons, run_none, run_someF, ↓run0_v, ↓run0_r, ↓seqK_normal, ↓blkK_normal, ↓retK_ret, put_same, put_ne, env0_at, ev_tmp, ev_const, ev_func, oc_int, oc_bool, o_move, o_assign, o_pick, o_bin, o_call, o_build, o_un, g_none, g_some, pick_bool, bin_lss, un_not, resultsOf, oneOrAll, Option.bind_some, Option.map_some, Option.getD_some, decide_eq_true_eq, ↓reduceIte, Nat.reduceEqDiff, not_false_eq_true, Nat.reduceAdd, reduceCtorEq, List.getElem?_cons_zero, List.getElem?_cons_succ, List.getElem?_toArray, Bool.false_eq_true, List.map_cons, List.map_nil, List.append_nil, List.nil_append, List.cons_append, and_true, Nat.reduceLeDiff, Bool.not_true, ne_eq, build_struct T81 d81, z81, parts_eq, fillA, AV.cells, AH.splice, List.take_succ_cons, List.take_zero, List.drop_succ_cons, List.drop_zero, List.length_cons, List.length_nil, p81_0, p81_1, K30 h30, k1, k2, c1, c2, callV_fn (g := 32) (by decide), callV_fn (g := 30) (by decide), callV_fn (g := 33) (by decide)]
end Go.AM.X
namespace Go.AM.X
open Go Go.AM Go.Proofs Go.AM.Sx
set_option maxHeartbeats 3200000
set_option maxRecDepth 100000
set_option linter.unusedVariables false
theorem idx_find {α : Type} (p : α → Bool) : ∀ (l : List α) (k : Nat), (∃ i, idxAt p k l = ((k + i : Nat) : Int) ∧ l.findIdx? p = some i ∧ i < l.length) ∨ (idxAt p k l = -1 ∧ l.findIdx? p = none)
  | [], k => .inr ⟨rfl, rfl⟩
  | x :: xs, k => by
    rw [List.findIdx?_cons]
    simp only [idxAt]
    cases hx : p x
    · rcases idx_find p xs (k + 1) with ⟨i, h1, h2, h3⟩ | ⟨h1, h2⟩
      · refine .inl ⟨i + 1, ?_, by simp [h2], by simp; omega⟩
        rw [if_neg (by simp), h1]; omega
      · refine .inr ⟨?_, by simp [h2]⟩
        rw [if_neg (by simp), h1]
    · exact .inl ⟨0, by simp, by simp, by simp⟩
def giveE (P : Pr) (c : Int) : Int := if c < 1 then 5 else match P.ws.findIdx? (pW c) with
  | some _ => 0
  | none => match P.ss.findIdx? (pS c) with
    | some _ => 0
    | none => 5
def giveW (P : Pr) (c : Int) : List Wt := if c < 1 then P.ws else match P.ws.findIdx? (pW c) with
  | some i => P.ws.eraseIdx i
  | none => P.ws
def giveS (P : Pr) (c : Int) : List Sv := if c < 1 then P.ss else match P.ws.findIdx? (pW c) with
  | some _ => P.ss
  | none => match P.ss.findIdx? (pS c) with
    | some i => P.ss.eraseIdx i
    | none => P.ss
theorem run15 {I : Nat → Option (List AV → AH → Rs)} (h32 : I 32 = none) (h36 : I 36 = none) (h58 : I 58 = none) (h37 : I 37 = none) (h57 : I 57 = none) (h38 : I 38 = none) (h39 : I 39 = none) (h15 : I 15 = none) (h59 : I 59 = none) (h60 : I 60 = none) (m p : Nat) (c : Int) (P : Pr) (h : AH) (hP : OkP h p P) (hq : ¬ P.q = 0) :
    ∃ v2 u2 h2, call F I T (m + 303) 15 [.ptr p 0, .int .i64 c] h = some (.int .i64 (giveE P c), h2) ∧ OkP h2 p {P with wv := v2, ws := giveW P c, sv := u2, ss := giveS P c} ∧ Stp h h2 p P {P with wv := v2, ws := giveW P c, sv := u2, ss := giveS P c} := by
  have k1 := run32 h32 (m + 301) p P.q P.r P.wv P.sv P.jv P.lf h hP.g hq
  obtain ⟨h2, k2, g1⟩ := run37 h58 h37 h59 (m + 1) p c P h hP
  have hPB := hP.grow g1
  have k3 := run38 h57 h38 h60 (m + 1) p c P _ hPB
  have g2 := Grow.alloc h2 (.cells [.int .i64 c] .own)
  have hPC := hPB.grow g2
  have gAll := g1.trans g2
  obtain ⟨h3, hh3⟩ : ∃ h3, h3 = h2.alloc (.cells [.int .i64 c] .own) := ⟨_, rfl⟩
  rw [← hh3] at k3 g2 hPC gAll
  have hp2 : h2.get p = some (.cells [.int .i64 P.q, .int .i64 P.r, P.wv, P.sv, P.jv, .int .i64 P.lf] .own) := hPB.g
  have hp3 : h3.get p = some (.cells [.int .i64 P.q, .int .i64 P.r, P.wv, P.sv, P.jv, .int .i64 P.lf] .own) := hPC.g
  by_cases c1 : c < 1
  · refine ⟨P.wv, P.sv, h3, ?_, by unfold giveW giveS; rw [if_pos c1, if_pos c1]; exact hPC, by unfold giveW giveS; rw [if_pos c1, if_pos c1]; exact Stp.grow p P gAll⟩
    have c2 : ¬ 0 < c := by omega
    unfold giveE
    rw [if_pos c1]
    rw [call_F (by decide) h15 F15 rfl R15]; simp only [Tryd.f15, Option.getD]
    simp +contextual (maxSteps := 3000000) only [↓code_skip, ↓code_seq, ↓code_region, ↓code_cond, ↓code_ret, aCond_bool, ↓ops_nil, ↓ops_cons, run_none, run_someT, run_someF, ↓run0_v, ↓run0_r, ↓seqK_normal, ↓seqK_ret, ↓retK_ret, put_same, put_ne, env0_at, ev_tmp, ev_const, ev_func, oc_int, oc_bool, o_move, o_assign, o_pick, o_bin, o_call, g_none, g_some, pick_bool, bin_lss, bin_gtr, bin_geq, resultsOf, oneOrAll, Option.bind_some, Option.map_some, Option.getD_some, decide_eq_true_eq, ↓reduceIte, Nat.reduceEqDiff, not_false_eq_true, reduceCtorEq, List.getElem?_cons_zero, List.getElem?_cons_succ, List.getElem?_toArray, Bool.false_eq_true, List.map_cons, List.map_nil, List.append_nil, List.nil_append, ite_self, gt_iff_lt, ge_iff_le, ne_eq, k1, k2, k3, c1, c2, callV_fn (g := 32) (by decide), callV_fn (g := 37) (by decide), callV_fn (g := 38) (by decide)]
  have c2 : 0 < c := by omega
  have c1' : ¬ c < 1 := c1
  rcases idx_find (pW c) P.ws 0 with ⟨i, i1, i2, i3⟩ | ⟨i1, i2⟩
  · rw [i1, Nat.zero_add] at k2
    have hwl := hP.wl
    obtain ⟨v2, h4, q1, q2, q3, q4, q5⟩ := run36 h36 (m + 301) i P.wv P.ws h2 hPB.w hP.wb i3 (by omega)
    have hp4 : h4.get p = some (.cells [.int .i64 P.q, .int .i64 P.r, P.wv, P.sv, P.jv, .int .i64 P.lf] .own) := by rw [q4 p hPB.wp]; exact hp2
    have hS := hPB.set_w (h4 := h4) q2 (by omega) (fun c _ ho => q4 c ho) (fun b o l k z x hv => .inr (q5 _ _ _ _ _ _ hv)) (fun x hx => hP.wb x ((List.eraseIdx_sublist _ _).subset hx)) (by have := (List.eraseIdx_sublist P.ws i).length_le; omega)
    have hW : giveW P c = P.ws.eraseIdx i := by unfold giveW; rw [if_neg c1, i2]
    have hSS : giveS P c = P.ss := by unfold giveS; rw [if_neg c1, i2]
    have hE : giveE P c = 0 := by unfold giveE; rw [if_neg c1, i2]
    rw [hE]
    refine ⟨v2, P.sv, _, ?_, by rw [hW, hSS]; exact hS.1, by rw [hW, hSS]; exact (Stp.grow p P g1).trans hS.2⟩
    have c7 : IntKind.i64.wrap ((i : Int) + 1) = ((i + 1 : Nat) : Int) := by rw [wrap_i64 (by omega) (by omega)]; rfl
    have c8 : (0 : Int) ≤ (i : Nat) := by omega
    obtain ⟨u1, u2⟩ := q2.cells
    rw [call_F (by decide) h15 F15 rfl R15]; simp only [Tryd.f15, Option.getD]
    simp +contextual (maxSteps := 3000000) only [↓code_skip, ↓code_seq, ↓code_region, ↓code_cond, ↓code_ret, aCond_bool, ↓ops_nil, ↓ops_cons, run_none, run_someT, ↓run0_v, ↓run0_h, ↓run0_r, ↓seqK_normal, ↓seqK_ret, ↓retK_ret, put_same, put_ne, put_none, env0_at, ev_tmp, ev_const, ev_func, oc_int, oc_bool, o_move, o_assign, o_pick, o_bin, o_call, o_load, o_store, o_nilCheck, o_fieldAddr, g_none, g_some, pick_bool, bin_add, bin_gtr, bin_geq, nil_ptr, resultsOf, oneOrAll, Option.bind_some, Option.map_some, Option.getD_some, decide_eq_true_eq, ↓reduceIte, Nat.reduceEqDiff, not_false_eq_true, Nat.reduceAdd, reduceCtorEq, List.getElem?_cons_zero, List.getElem?_cons_succ, List.getElem?_toArray, Bool.false_eq_true, List.map_cons, List.map_nil, List.append_nil, List.nil_append, gt_iff_lt, ge_iff_le, ne_eq, fa_ptr T73 p73_2 (by decide), load_p1 T70 a70, loadc_def, run0_h, k1, k2, c2, c7, c8, hp2, q1, store_1 T70 s70 u1 u2 hp4 (show 2 < 6 by decide), callV_fn (g := 32) (by decide), callV_fn (g := 36) (by decide), callV_fn (g := 37) (by decide)]
    rfl
  rw [i1] at k2
  have hW : giveW P c = P.ws := by unfold giveW; rw [if_neg c1, i2]
  rcases idx_find (pS c) P.ss 0 with ⟨i, j1, j2, j3⟩ | ⟨j1, j2⟩
  · rw [j1, Nat.zero_add] at k3
    have hsl := hP.sl
    obtain ⟨v2, h4, q1, q2, q3, q4, q5⟩ := run39 h39 (m + 301) i P.sv P.ss h3 hPC.s j3 (by omega)
    have hp4 : h4.get p = some (.cells [.int .i64 P.q, .int .i64 P.r, P.wv, P.sv, P.jv, .int .i64 P.lf] .own) := by rw [q4 p hPC.sp]; exact hp3
    have hS := hPC.set_s (h4 := h4) q2 (by omega) (fun c _ ho _ => q4 c ho) (fun b o l k z x hv => .inr (q5 _ _ _ _ _ _ hv)) (fun x hx => by
      have hx' := (List.eraseIdx_sublist _ _).subset hx
      have r1 := hPC.b x hx'
      have r2 := hPC.ap x hx'
      refine ⟨by omega, by unfold Sv.ok; rw [q4 _ r2.2.2]; exact r1.2, r2.1, r2.2.1, off_new (h := h3) (fun b o l k z x hv => .inr (q5 _ _ _ _ _ _ hv)) r1.1 r2.2.2, .inr ⟨x, hx', rfl⟩⟩) ((((List.eraseIdx_sublist P.ss i).map Sv.a)).nodup hP.nd) (by have := (List.eraseIdx_sublist P.ss i).length_le; omega)
    have hSS : giveS P c = P.ss.eraseIdx i := by unfold giveS; rw [if_neg c1, i2, j2]
    have hE : giveE P c = 0 := by unfold giveE; rw [if_neg c1, i2, j2]
    rw [hE]
    refine ⟨P.wv, v2, _, ?_, by rw [hW, hSS]; exact hS.1, by rw [hW, hSS]; exact (Stp.grow p P gAll).trans hS.2⟩
    have c7 : IntKind.i64.wrap ((i : Int) + 1) = ((i + 1 : Nat) : Int) := by rw [wrap_i64 (by omega) (by omega)]; rfl
    have c8 : ¬ ((i : Nat) : Int) < 0 := by omega
    obtain ⟨u1, u2⟩ := q2.cells
    rw [call_F (by decide) h15 F15 rfl R15]; simp only [Tryd.f15, Option.getD]
    simp +contextual (maxSteps := 3000000) only [↓code_skip, ↓code_seq, ↓code_region, ↓code_cond, ↓code_ret, aCond_bool, ↓ops_nil, ↓ops_cons, run_none, run_someT, run_someF, ↓run0_v, ↓run0_h, ↓run0_r, ↓seqK_normal, ↓retK_ret, put_same, put_ne, put_none, env0_at, ev_tmp, ev_const, ev_func, oc_int, oc_bool, o_move, o_assign, o_pick, o_bin, o_call, o_load, o_store, o_nilCheck, o_fieldAddr, g_none, g_some, pick_bool, bin_add, bin_lss, bin_geq, nil_ptr, resultsOf, oneOrAll, Option.bind_some, Option.map_some, Option.getD_some, decide_eq_true_eq, ↓reduceIte, Nat.reduceEqDiff, not_false_eq_true, Nat.reduceAdd, reduceCtorEq, List.getElem?_cons_zero, List.getElem?_cons_succ, List.getElem?_toArray, Bool.false_eq_true, List.map_cons, List.map_nil, List.append_nil, List.nil_append, ge_iff_le, ne_eq, loadc_def, run0_h, fa_ptr T73 p73_3 (by decide), load_p1 T71 a71, k1, k2, k3, c1', c7, c8, hp3, q1, (show ¬ (0 : Int) ≤ -1 by decide), store_1 T71 s71 u1 u2 hp4 (show 3 < 6 by decide), callV_fn (g := 32) (by decide), callV_fn (g := 39) (by decide), callV_fn (g := 37) (by decide), callV_fn (g := 38) (by decide)]
    rfl
  · rw [j1] at k3
    have hSS : giveS P c = P.ss := by unfold giveS; rw [if_neg c1, i2, j2]
    have hE : giveE P c = 5 := by unfold giveE; rw [if_neg c1, i2, j2]
    rw [hE]
    refine ⟨P.wv, P.sv, h3, ?_, by rw [hW, hSS]; exact hPC, by rw [hW, hSS]; exact Stp.grow p P gAll⟩
    rw [call_F (by decide) h15 F15 rfl R15]; simp only [Tryd.f15, Option.getD]
    simp +contextual (maxSteps := 3000000) only [↓code_skip, ↓code_seq, ↓code_region, ↓code_cond, ↓code_ret, aCond_bool, ↓ops_nil, ↓ops_cons, run_none, run_someT, run_someF, ↓run0_v, ↓run0_r, ↓seqK_normal, ↓seqK_ret, ↓retK_ret, put_same, put_ne, env0_at, ev_tmp, ev_const, ev_func, oc_int, oc_bool, o_move, o_assign, o_pick, o_bin, o_call, g_none, g_some, pick_bool, bin_lss, bin_geq, resultsOf, oneOrAll, Option.bind_some, Option.map_some, Option.getD_some, decide_eq_true_eq, ↓reduceIte, Nat.reduceEqDiff, not_false_eq_true, reduceCtorEq, List.getElem?_cons_zero, List.getElem?_cons_succ, List.getElem?_toArray, Bool.false_eq_true, List.map_cons, List.map_nil, List.append_nil, List.nil_append, ge_iff_le, ne_eq, k1, k2, k3, (show ¬ (0 : Int) ≤ -1 by decide), (show (-1 : Int) < 0 by decide), callV_fn (g := 32) (by decide), callV_fn (g := 37) (by decide), callV_fn (g := 38) (by decide)]
end Go.AM.X
