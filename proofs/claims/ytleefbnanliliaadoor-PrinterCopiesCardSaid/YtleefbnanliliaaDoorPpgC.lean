/- Printers: what changes, and what stays. Own work. -/
import Derived.Test.YtleefbnanliliaaDoorPpgB
namespace Go.AM.X
open Go Go.AM Go.Proofs Go.AM.Sx
set_option maxHeartbeats 3200000
set_option maxRecDepth 100000
set_option linter.unusedVariables false
theorem F12 : F 12 = some { body := (Tryd.f12.body.getD .skip), results := Tryd.f12.results.toList, rf := false } := by kernel_rfl
theorem R12 : regsOk T (Tryd.f12.body.getD .skip) = true := by kernel_rfl
theorem F33 : F 33 = some { body := (Tryd.f33.body.getD .skip), results := Tryd.f33.results.toList, rf := false } := by kernel_rfl
theorem R33 : regsOk T (Tryd.f33.body.getD .skip) = true := by kernel_rfl
theorem F15 : F 15 = some { body := (Tryd.f15.body.getD .skip), results := Tryd.f15.results.toList, rf := false } := by kernel_rfl
theorem R15 : regsOk T (Tryd.f15.body.getD .skip) = true := by kernel_rfl
def Pr.off (P : Pr) (p c : Nat) : Prop := c ≠ p ∧ offRow P.wv c ∧ offRow P.sv c ∧ ∀ s ∈ P.ss, c ≠ s.a
/-- A step of a printer: what is not its own is as it was, and is not its own behind it. -/
def Stp (h h2 : AH) (p : Nat) (P P2 : Pr) : Prop := h.next ≤ h2.next ∧ ∀ c, c < h.next → P.off p c → h2.get c = h.get c ∧ P2.off p c
theorem Stp.trans {h h2 h3 : AH} {p : Nat} {P P2 P3 : Pr} (a : Stp h h2 p P P2) (b : Stp h2 h3 p P2 P3) : Stp h h3 p P P3 :=
  ⟨Nat.le_trans a.1 b.1, fun c hc ho => by
    have h1 := a.2 c hc ho
    have h2 := b.2 c (Nat.lt_of_lt_of_le hc a.1) h1.2
    exact ⟨h2.1.trans h1.1, h2.2⟩⟩
theorem Stp.grow {h h2 : AH} (p : Nat) (P : Pr) (a : Grow h h2) : Stp h h2 p P P := ⟨a.1, fun c hc ho => ⟨a.2 c hc, ho⟩⟩
theorem Stp.refl (h : AH) (p : Nat) (P : Pr) : Stp h h p P P := Stp.grow p P (Grow.refl h)
theorem off_new {h : AH} {v0 v : AV} (hsh : ∀ b o l k z x, v = .sl b o l k z x → h.next ≤ b ∨ ∃ o l k z x, v0 = .sl b o l k z x) {c : Nat} (hc : c < h.next) (ho : offRow v0 c) : offRow v c := by
  intro b o l k z x hv
  rcases hsh b o l k z x hv with hb | ⟨_, _, _, _, _, hv0⟩
  · omega
  · exact ho _ _ _ _ _ _ hv0
theorem OkP.core_w {h h5 : AH} {p : Nat} {P : Pr} {v : AV} {ws : List Wt} (hP : OkP h p P) (hp : h5.get p = some ({P with wv := v, ws := ws} : Pr).blk) (hr : RowC 3 h5 v ws.length (wcs ws)) (hn : h.next ≤ h5.next) (hk : ∀ c, c < h.next → c ≠ p → offRow P.wv c → h5.get c = h.get c)
    (hsh : ∀ b o l k z x, v = .sl b o l k z x → h.next ≤ b ∨ ∃ o l k z x, P.wv = .sl b o l k z x) (hb : ∀ w ∈ ws, okB w.b) (hl : ws.length ≤ 100) :
    OkP h5 p {P with wv := v, ws := ws} ∧ Stp h h5 p P {P with wv := v, ws := ws} := by
  have hlt := hP.lt
  refine ⟨{ lt := by omega, g := hp, w := hr, s := ?_, b := ?_, wp := off_new hsh hP.lt hP.wp, sp := hP.sp, wsv := ?_, ap := ?_, nd := hP.nd, wb := hb, jc := hP.jc, wl := hl, sl := hP.sl }, hn, fun c hc ho => ⟨hk c hc ho.1 ho.2.1, ho.1, off_new hsh hc ho.2.1, ho.2.2⟩⟩
  · exact hP.s.keep hn fun b o l k z x hv => hk b (hP.s.lt hv) (fun e => hP.sp _ _ _ _ _ _ hv e.symm) fun b' o' l' k' z' x' hv' e => hP.wsv _ _ _ _ _ _ hv' _ _ _ _ _ _ hv e.symm
  · intro x hx
    have h1 := hP.b x hx
    have h2 := hP.ap x hx
    refine ⟨by omega, ?_⟩
    unfold Sv.ok
    rw [hk x.a h1.1 (fun e => h2.1 e.symm) h2.2.1]
    exact h1.2
  · intro b o l k z x hv
    rcases hsh b o l k z x hv with hb | ⟨_, _, _, _, _, hv0⟩
    · intro b' o' l' k' z' x' hv'
      have := hP.s.lt hv'
      omega
    · exact hP.wsv _ _ _ _ _ _ hv0
  · intro x hx
    have h1 := hP.b x hx
    have h2 := hP.ap x hx
    exact ⟨h2.1, off_new hsh h1.1 h2.2.1, h2.2.2⟩
theorem OkP.set_w {h h4 : AH} {p : Nat} {P : Pr} {v : AV} {ws : List Wt} (hP : OkP h p P) (hr : RowC 3 h4 v ws.length (wcs ws)) (hn : h.next ≤ h4.next) (hk : ∀ c, c < h.next → offRow P.wv c → h4.get c = h.get c)
    (hsh : ∀ b o l k z x, v = .sl b o l k z x → h.next ≤ b ∨ ∃ o l k z x, P.wv = .sl b o l k z x) (hb : ∀ w ∈ ws, okB w.b) (hl : ws.length ≤ 100) :
    OkP (h4.put p ({P with wv := v, ws := ws} : Pr).blk) p {P with wv := v, ws := ws} ∧ Stp h (h4.put p ({P with wv := v, ws := ws} : Pr).blk) p P {P with wv := v, ws := ws} :=
  hP.core_w (by rw [AH.get_put, if_pos rfl]) (hr.keep (Nat.le_refl _) fun b o l k z x hv => by rw [AH.get_put, if_neg (fun e => off_new hsh hP.lt hP.wp _ _ _ _ _ _ hv e.symm)]) hn (fun c hc hcp ho => by rw [AH.get_put, if_neg hcp]; exact hk c hc ho) hsh hb hl
theorem OkP.core_s {h h5 : AH} {p : Nat} {P : Pr} {v : AV} {ss : List Sv} (hP : OkP h p P) (hp : h5.get p = some ({P with sv := v, ss := ss} : Pr).blk) (hr : RowC 1 h5 v ss.length (scs ss)) (hn : h.next ≤ h5.next) (hk : ∀ c, c < h.next → c ≠ p → offRow P.sv c → (∀ s ∈ P.ss, c ≠ s.a) → h5.get c = h.get c)
    (hsh : ∀ b o l k z x, v = .sl b o l k z x → h.next ≤ b ∨ ∃ o l k z x, P.sv = .sl b o l k z x) (hb : ∀ s ∈ ss, s.a < h5.next ∧ s.ok h5 ∧ p ≠ s.a ∧ offRow P.wv s.a ∧ offRow v s.a ∧ (h.next ≤ s.a ∨ ∃ s0 ∈ P.ss, s0.a = s.a)) (hnd : (ss.map Sv.a).Nodup) (hl : ss.length ≤ 100) :
    OkP h5 p {P with sv := v, ss := ss} ∧ Stp h h5 p P {P with sv := v, ss := ss} := by
  have hlt := hP.lt
  refine ⟨{ lt := by omega, g := hp, w := ?_, s := hr, b := fun x hx => ⟨(hb x hx).1, (hb x hx).2.1⟩, wp := hP.wp, sp := off_new hsh hP.lt hP.sp, wsv := ?_, ap := fun x hx => ⟨(hb x hx).2.2.1, (hb x hx).2.2.2.1, (hb x hx).2.2.2.2.1⟩, nd := hnd, wb := hP.wb, jc := hP.jc, wl := hP.wl, sl := hl }, hn, fun c hc ho => ⟨hk c hc ho.1 ho.2.2.1 ho.2.2.2, ho.1, ho.2.1, off_new hsh hc ho.2.2.1, ?_⟩⟩
  · exact hP.w.keep hn fun b o l k z x hv => hk b (hP.w.lt hv) (fun e => hP.wp _ _ _ _ _ _ hv e.symm) (hP.wsv _ _ _ _ _ _ hv) fun s hs e => (hP.ap s hs).2.1 _ _ _ _ _ _ hv e.symm
  · intro b o l k z x hv
    exact off_new hsh (hP.w.lt hv) (hP.wsv _ _ _ _ _ _ hv)
  · intro s hs e
    rcases (hb s hs).2.2.2.2.2 with h1 | ⟨s0, h1, h2⟩
    · omega
    · exact ho.2.2.2 s0 h1 (e.trans h2.symm)
theorem OkP.set_s {h h4 : AH} {p : Nat} {P : Pr} {v : AV} {ss : List Sv} (hP : OkP h p P) (hr : RowC 1 h4 v ss.length (scs ss)) (hn : h.next ≤ h4.next) (hk : ∀ c, c < h.next → offRow P.sv c → (∀ s ∈ P.ss, c ≠ s.a) → h4.get c = h.get c)
    (hsh : ∀ b o l k z x, v = .sl b o l k z x → h.next ≤ b ∨ ∃ o l k z x, P.sv = .sl b o l k z x) (hb : ∀ s ∈ ss, s.a < h4.next ∧ s.ok h4 ∧ p ≠ s.a ∧ offRow P.wv s.a ∧ offRow v s.a ∧ (h.next ≤ s.a ∨ ∃ s0 ∈ P.ss, s0.a = s.a)) (hnd : (ss.map Sv.a).Nodup) (hl : ss.length ≤ 100) :
    OkP (h4.put p ({P with sv := v, ss := ss} : Pr).blk) p {P with sv := v, ss := ss} ∧ Stp h (h4.put p ({P with sv := v, ss := ss} : Pr).blk) p P {P with sv := v, ss := ss} :=
  hP.core_s (by rw [AH.get_put, if_pos rfl]) (hr.keep (Nat.le_refl _) fun b o l k z x hv => by rw [AH.get_put, if_neg (fun e => off_new hsh hP.lt hP.sp _ _ _ _ _ _ hv e.symm)]) hn (fun c hc hcp ho ha => by rw [AH.get_put, if_neg hcp]; exact hk c hc ho ha) hsh
    (fun s hs => by
      obtain ⟨b1, b2, b3, b4, b5, b6⟩ := hb s hs
      refine ⟨b1, ?_, b3, b4, b5, b6⟩
      unfold Sv.ok
      rw [AH.get_put, if_neg (fun e => b3 e.symm)]
      exact b2) hnd hl
/-- What is told to one who wants. -/
def wantE (P : Pr) (w : Wt) : Int := if 0 ≤ idxAt (pW w.c) 0 P.ws ∨ 0 ≤ idxAt (pS w.c) 0 P.ss then 8 else if P.ws.length = 100 then 4 else 0
def wantP (P : Pr) (w : Wt) : List Wt := if wantE P w = 0 then P.ws ++ [w] else P.ws
theorem run33 {I : Nat → Option (List AV → AH → Rs)} (h58 : I 58 = none) (h37 : I 37 = none) (h57 : I 57 = none) (h38 : I 38 = none) (h33 : I 33 = none) (h59 : I 59 = none) (h60 : I 60 = none) (m p : Nat) (w : Wt) (P : Pr) (h : AH) (hP : OkP h p P) (hwb : okB w.b) :
    ∃ v2 h2, call F I T (m + 302) 33 [.ptr p 0, .agg w.enc] h = some (.int .i64 (wantE P w), h2) ∧ OkP h2 p {P with wv := v2, ws := wantP P w} ∧ Stp h h2 p P {P with wv := v2, ws := wantP P w} := by
  have hgA := Grow.alloc h (.cells [.int .i64 w.c, .int .i64 w.w, w.b] .own)
  have hPA := hP.grow hgA
  obtain ⟨h2, k1, g1⟩ := run37 h58 h37 h59 m p w.c P _ hPA
  have hPB := hPA.grow g1
  have k2 := run38 h57 h38 h60 m p w.c P _ hPB
  have g2 := Grow.alloc h2 (.cells [.int .i64 w.c] .own)
  have hPC := hPB.grow g2
  have gAll := (hgA.trans g1).trans g2
  obtain ⟨h3, hh3⟩ : ∃ h3, h3 = h2.alloc (.cells [.int .i64 w.c] .own) := ⟨_, rfl⟩
  rw [← hh3] at k2 g2 hPC gAll
  have hA1 : (h.alloc (.cells [.int .i64 w.c, .int .i64 w.w, w.b] .own)).get h.next = some (.cells [.int .i64 w.c, .int .i64 w.w, w.b] .own) := by rw [AH.get_alloc, if_pos rfl]
  have hw2 : h2.get h.next = some (.cells [.int .i64 w.c, .int .i64 w.w, w.b] .own) := by rw [g1.2 _ (by simp)]; exact hA1
  have hw3 : h3.get h.next = some (.cells [.int .i64 w.c, .int .i64 w.w, w.b] .own) := by rw [g2.2 _ (by have := g1.1; simp at this; omega)]; exact hw2
  have hp3 : h3.get p = some (.cells [.int .i64 P.q, .int .i64 P.r, P.wv, P.sv, P.jv, .int .i64 P.lf] .own) := hPC.g
  have hlen : ∀ h, aLen T 70 P.wv h = some (.int .i64 (P.ws.length : Nat)) := fun h => hP.w.len T70 d70
  have hwl := hP.wl
  by_cases c1 : 0 ≤ idxAt (pW w.c) 0 P.ws
  · have hE : wantE P w = 8 := by unfold wantE; rw [if_pos (.inl c1)]
    have hW : wantP P w = P.ws := by unfold wantP; rw [hE]; rfl
    refine ⟨P.wv, h2, ?_, by rw [hW]; exact hPB, by rw [hW]; exact Stp.grow p P (hgA.trans g1)⟩
    rw [hE]
    rw [call_F (by decide) h33 F33 rfl R33]; simp only [Tryd.f33, Option.getD]
    simp +contextual (maxSteps := 3000000) only [↓code_seq, ↓code_region, ↓code_cond, ↓code_block, ↓code_ret, aCond_bool, ↓ops_nil, ↓ops_cons, run_none, run_someF, ↓run0_v, ↓run0_r, ↓seqK_normal, ↓seqK_ret, ↓blkK_ret, ↓retK_ret, put_same, put_ne, env0_at, ev_tmp, ev_const, ev_func, oc_int, oc_bool, o_move, o_assign, o_pick, o_bin, o_call, o_box, o_load, o_fieldAddr, g_none, g_some, pick_bool, bin_geq, resultsOf, oneOrAll, Option.bind_some, Option.map_some, Option.getD_some, decide_eq_true_eq, ↓reduceIte, Nat.reduceEqDiff, not_false_eq_true, Nat.reduceAdd, reduceCtorEq, List.getElem?_cons_zero, List.getElem?_cons_succ, List.getElem?_toArray, List.map_cons, List.map_nil, List.append_nil, List.nil_append, ge_iff_le, ne_eq, box_agg, fa_ptr T81 p81_0 (by decide), load_p1 T3 a3, loadc_def, hA1, k1, c1, Wt.enc, callV_fn (g := 37) (by decide), callV_fn (g := 38) (by decide)]
  by_cases c2 : 0 ≤ idxAt (pS w.c) 0 P.ss
  · have hE : wantE P w = 8 := by unfold wantE; rw [if_pos (.inr c2)]
    have hW : wantP P w = P.ws := by unfold wantP; rw [hE]; rfl
    refine ⟨P.wv, h3, ?_, by rw [hW]; exact hPC, by rw [hW]; exact Stp.grow p P gAll⟩
    rw [hE]
    rw [call_F (by decide) h33 F33 rfl R33]; simp only [Tryd.f33, Option.getD]
    simp +contextual (maxSteps := 3000000) only [↓code_seq, ↓code_region, ↓code_cond, ↓code_block, ↓code_ret, aCond_bool, ↓ops_nil, ↓ops_cons, run_none, run_someF, ↓run0_v, ↓run0_r, ↓seqK_normal, ↓seqK_ret, ↓blkK_ret, ↓retK_ret, put_same, put_ne, env0_at, ev_tmp, ev_const, ev_func, oc_int, oc_bool, o_move, o_assign, o_pick, o_bin, o_call, o_box, o_load, o_fieldAddr, g_none, g_some, pick_bool, bin_geq, resultsOf, oneOrAll, Option.bind_some, Option.map_some, Option.getD_some, decide_eq_true_eq, ↓reduceIte, Nat.reduceEqDiff, not_false_eq_true, Nat.reduceAdd, reduceCtorEq, List.getElem?_cons_zero, List.getElem?_cons_succ, List.getElem?_toArray, List.map_cons, List.map_nil, List.append_nil, List.nil_append, ge_iff_le, ne_eq, box_agg, fa_ptr T81 p81_0 (by decide), load_p1 T3 a3, loadc_def, hA1, hw2, k1, k2, c1, c2, Wt.enc, callV_fn (g := 37) (by decide), callV_fn (g := 38) (by decide)]
  by_cases c3 : P.ws.length = 100
  · have hE : wantE P w = 4 := by unfold wantE; rw [if_neg (by rintro (h | h) <;> contradiction), if_pos c3]
    have hW : wantP P w = P.ws := by unfold wantP; rw [hE]; rfl
    have c4 : ((P.ws.length : Nat) : Int) = 100 := by omega
    refine ⟨P.wv, h3, ?_, by rw [hW]; exact hPC, by rw [hW]; exact Stp.grow p P gAll⟩
    rw [hE]
    rw [call_F (by decide) h33 F33 rfl R33]; simp only [Tryd.f33, Option.getD]
    simp +contextual (maxSteps := 3000000) only [↓code_seq, ↓code_region, ↓code_cond, ↓code_block, ↓code_ret, aCond_bool, ↓ops_nil, ↓ops_cons, run_none, run_someF, ↓run0_v, ↓run0_r, ↓seqK_normal, ↓seqK_ret, ↓blkK_ret, ↓retK_ret, put_same, put_ne, env0_at, ev_tmp, ev_const, ev_func, oc_int, oc_bool, o_move, o_assign, o_pick, o_bin, o_call, o_len, o_box, o_load, o_nilCheck, o_fieldAddr, g_none, g_some, pick_bool, bin_eql, bin_geq, nil_ptr, resultsOf, oneOrAll, Option.bind_some, Option.map_some, Option.getD_some, decide_eq_true_eq, ↓reduceIte, Nat.reduceEqDiff, not_false_eq_true, Nat.reduceAdd, reduceCtorEq, List.getElem?_cons_zero, List.getElem?_cons_succ, List.getElem?_toArray, List.map_cons, List.map_nil, List.append_nil, List.nil_append, ge_iff_le, ne_eq, box_agg, fa_ptr T81 p81_0 (by decide), load_p1 T3 a3, loadc_def, fa_ptr T73 p73_2 (by decide), load_p1 T70 a70, hA1, hw2, hp3, hlen, k1, k2, c1, c2, c4, Wt.enc, callV_fn (g := 37) (by decide), callV_fn (g := 38) (by decide)]
  have hE : wantE P w = 0 := by unfold wantE; rw [if_neg (by rintro (h | h) <;> contradiction), if_neg c3]
  have hW : wantP P w = P.ws ++ [w] := by unfold wantP; rw [hE]; rfl
  have c4 : ¬ ((P.ws.length : Nat) : Int) = 100 := by omega
  have hone : ([.int .i64 w.c, .int .i64 w.w, w.b] : List AV).all AV.one = true := by simp only [List.all_cons, List.all_nil, hwb.one.1]; rfl
  obtain ⟨v2, h4, q1, q2, q3, q4, q5⟩ := hPC.w.push (new := [.int .i64 w.c, .int .i64 w.w, w.b]) T70 d70 T81 s81 (by decide) (by rw [b81]; decide) rfl hone (by rw [b81]; simp [maxBytes]; omega)
  have hp4 : h4.get p = some (.cells [.int .i64 P.q, .int .i64 P.r, P.wv, P.sv, P.jv, .int .i64 P.lf] .own) := by rw [q4 p hPC.lt hPC.wp]; exact hp3
  have hS := hPC.set_w (v := v2) (ws := P.ws ++ [w]) (h4 := h4) (by rw [wcs_app, List.length_append]; exact q2) (by omega) q4 q5 (fun x hx => by
    rcases List.mem_append.1 hx with h | h
    · exact hP.wb x h
    · rw [List.mem_singleton] at h; subst h; exact hwb) (by rw [List.length_append]; simp; omega)
  rw [← hW] at hS
  refine ⟨v2, _, ?_, hS.1, (Stp.grow p P gAll).trans hS.2⟩
  obtain ⟨u1, u2⟩ := q2.cells
  rw [hE]
  rw [call_F (by decide) h33 F33 rfl R33]; simp only [Tryd.f33, Option.getD]
  simp +contextual (maxSteps := 3000000) only [↓code_skip, ↓code_seq, ↓code_region, ↓code_cond, ↓code_block, ↓code_ret, aCond_bool, ↓ops_nil, ↓ops_cons, run_none, run_someF, ↓run0_v, ↓run0_h, ↓run0_r, ↓seqK_normal, ↓blkK_normal, ↓retK_ret, put_same, put_ne, put_none, env0_at, ev_tmp, ev_const, ev_func, oc_int, oc_bool, o_move, o_assign, o_pick, o_bin, o_call, o_len, o_box, o_buildSlice, o_load, o_store, o_nilCheck, o_fieldAddr, o_append, g_none, g_some, pick_bool, bin_eql, bin_geq, nil_ptr, resultsOf, oneOrAll, Option.bind_some, Option.map_some, Option.getD_some, decide_eq_true_eq, ↓reduceIte, Nat.reduceEqDiff, not_false_eq_true, Nat.reduceAdd, Nat.reduceMul, reduceCtorEq, List.getElem?_cons_zero, List.getElem?_cons_succ, List.getElem?_toArray, List.map_cons, List.map_nil, List.append_nil, List.nil_append, and_true, Nat.le_refl, ge_iff_le, ne_eq, box_agg, fa_ptr T81 p81_0 (by decide), load_p1 T3 a3, loadc_def, fa_ptr T73 p73_2 (by decide), load_p1 T70 a70, load_pA T81 a81, s81, loadn_def, buildSl T70 d70 T81 (n := 1) (by rw [s81]; decide), z81, parts_eq, fillA, AV.cells, AH.splice, List.take_succ_cons, List.take_zero, List.take_nil, List.drop_succ_cons, List.drop_zero, List.drop_nil, List.length_cons, List.length_nil, repl, run0_h, hA1, hw2, hw3, hp3, hlen, k1, k2, c1, c2, c4, q1, store_1 T70 s70 u1 u2 hp4 (show 2 < 6 by decide), Wt.enc, callV_fn (g := 37) (by decide), callV_fn (g := 38) (by decide)]
  rfl
/-- What is told to one who wants from a count on. -/
def WantE (P : Pr) (c w : Int) : Int := if c < 1 ∨ within w 0 100000 = false then 2 else wantE P ⟨c, w, .nilp⟩
def WantP (P : Pr) (c w : Int) : List Wt := if c < 1 ∨ within w 0 100000 = false then P.ws else wantP P ⟨c, w, .nilp⟩
theorem run12 {I : Nat → Option (List AV → AH → Rs)} (h30 : I 30 = none) (h32 : I 32 = none) (h58 : I 58 = none) (h37 : I 37 = none) (h57 : I 57 = none) (h38 : I 38 = none) (h33 : I 33 = none) (h12 : I 12 = none) (h59 : I 59 = none) (h60 : I 60 = none) (m p : Nat) (c w : Int) (P : Pr) (h : AH) (hP : OkP h p P) (hq : ¬ P.q = 0) :
    ∃ v2 h2, call F I T (m + 303) 12 [.ptr p 0, .int .i64 c, .int .i64 w] h = some (.int .i64 (WantE P c w), h2) ∧ OkP h2 p {P with wv := v2, ws := WantP P c w} ∧ Stp h h2 p P {P with wv := v2, ws := WantP P c w} := by
  have k1 := run32 h32 (m + 301) p P.q P.r P.wv P.sv P.jv P.lf h hP.g hq
  by_cases c1 : c < 1
  · refine ⟨P.wv, h, ?_, by unfold WantP; rw [if_pos (.inl c1)]; exact hP, by unfold WantP; rw [if_pos (.inl c1)]; exact Stp.refl _ _ _⟩
    unfold WantE; rw [if_pos (.inl c1)]
    rw [call_F (by decide) h12 F12 rfl R12]; simp only [Tryd.f12, Option.getD]
    simp +contextual (maxSteps := 3000000) only [↓code_seq, ↓code_region, ↓code_cond, ↓code_block, ↓code_ret, aCond_bool, ↓ops_nil, ↓ops_cons, run_none, run_someF, ↓run0_v, ↓run0_r, ↓seqK_normal, ↓seqK_ret, ↓blkK_ret, ↓retK_ret, put_same, put_ne, env0_at, ev_tmp, ev_const, ev_func, oc_int, oc_bool, o_move, o_assign, o_pick, o_bin, o_call, o_un, g_none, g_some, pick_bool, bin_lss, resultsOf, oneOrAll, Option.bind_some, Option.map_some, Option.getD_some, decide_eq_true_eq, ↓reduceIte, Nat.reduceEqDiff, not_false_eq_true, reduceCtorEq, List.getElem?_cons_zero, List.getElem?_cons_succ, List.getElem?_toArray, Bool.false_eq_true, List.map_cons, List.map_nil, List.append_nil, List.nil_append, ne_eq, k1, c1, callV_fn (g := 32) (by decide), callV_fn (g := 30) (by decide)]
  cases c2 : within w 0 100000
  · refine ⟨P.wv, h, ?_, by unfold WantP; rw [if_pos (.inr c2)]; exact hP, by unfold WantP; rw [if_pos (.inr c2)]; exact Stp.refl _ _ _⟩
    unfold WantE; rw [if_pos (.inr c2)]
    rw [call_F (by decide) h12 F12 rfl R12]; simp only [Tryd.f12, Option.getD]
    simp +contextual (maxSteps := 3000000) only [↓code_seq, ↓code_region, ↓code_cond, ↓code_block, ↓code_ret, aCond_bool, ↓ops_nil, ↓ops_cons, run_none, run_someF, ↓run0_v, ↓run0_r, ↓seqK_normal, ↓seqK_ret, ↓blkK_ret, ↓retK_ret, put_same, put_ne, env0_at, ev_tmp, ev_const, ev_func, oc_int, oc_bool, o_move, o_assign, o_pick, o_bin, o_call, o_un, g_none, g_some, pick_bool, bin_lss, un_not, resultsOf, oneOrAll, Option.bind_some, Option.map_some, Option.getD_some, decide_eq_true_eq, ↓reduceIte, Nat.reduceEqDiff, not_false_eq_true, reduceCtorEq, List.getElem?_cons_zero, List.getElem?_cons_succ, List.getElem?_toArray, Bool.false_eq_true, List.map_cons, List.map_nil, List.append_nil, List.nil_append, Bool.not_false, ne_eq, K30 h30, k1, c1, c2, callV_fn (g := 32) (by decide), callV_fn (g := 30) (by decide)]
  have hc : ¬ (c < 1 ∨ within w 0 100000 = false) := by rw [c2]; simp; omega
  obtain ⟨v2, h2, k2, k3, k4⟩ := run33 h58 h37 h57 h38 h33 h59 h60 m p ⟨c, w, .nilp⟩ P h hP (.inl rfl)
  unfold Wt.enc at k2
  refine ⟨v2, h2, ?_, by unfold WantP; rw [if_neg hc]; exact k3, by unfold WantP; rw [if_neg hc]; exact k4⟩
  unfold WantE; rw [if_neg hc]
  rw [call_F (by decide) h12 F12 rfl R12]; simp only [Tryd.f12, Option.getD]
  simp +contextual (maxSteps := 3000000) only [↓code_skip, ↓code_seq, ↓code_region, ↓code_cond, ↓code_block, ↓code_ret, aCond_bool, ↓ops_nil, ↓ops_cons, run_none, run_someF, ↓run0_v, ↓run0_r, ↓seqK_normal, ↓blkK_normal, ↓retK_ret, put_same, put_ne, env0_at, ev_tmp, ev_const, ev_func, oc_int, oc_bool, o_move, o_assign, o_pick, o_bin, o_call, o_build, o_un, g_none, g_some, pick_bool, bin_lss, un_not, resultsOf, oneOrAll, Option.bind_some, Option.map_some, Option.getD_some, decide_eq_true_eq, ↓reduceIte, Nat.reduceEqDiff, not_false_eq_true, Nat.reduceAdd, reduceCtorEq, List.getElem?_cons_zero, List.getElem?_cons_succ, List.getElem?_toArray, Bool.false_eq_true, List.map_cons, List.map_nil, List.append_nil, List.nil_append, List.cons_append, and_true, Nat.reduceLeDiff, Bool.not_true, ne_eq, build_struct T81 d81, z81, parts_eq, fillA, AV.cells, AH.splice, List.take_succ_cons, List.take_zero, List.drop_succ_cons, List.drop_zero, List.length_cons, List.length_nil, p81_0, p81_1, K30 h30, k1, k2, c1, c2, callV_fn (g := 32) (by decide), callV_fn (g := 30) (by decide), callV_fn (g := 33) (by decide)]
end Go.AM.X
namespace Go.AM.X
open Go Go.AM Go.Proofs Go.AM.Sx
set_option maxHeartbeats 3200000
set_option maxRecDepth 100000
set_option linter.unusedVariables false
theorem idx_find {α : Type} (p : α → Bool) : ∀ (l : List α) (k : Nat), (∃ i, idxAt p k l = ((k + i : Nat) : Int) ∧ l.findIdx? p = some i ∧ i < l.length) ∨ (idxAt p k l = -1 ∧ l.findIdx? p = none)
  | [], k => .inr ⟨rfl, rfl⟩
  | x :: xs, k => by
    rw [List.findIdx?_cons]
    simp only [idxAt]
    cases hx : p x
    · rcases idx_find p xs (k + 1) with ⟨i, h1, h2, h3⟩ | ⟨h1, h2⟩
      · refine .inl ⟨i + 1, ?_, by simp [h2], by simp; omega⟩
        rw [if_neg (by simp), h1]; omega
      · refine .inr ⟨?_, by simp [h2]⟩
        rw [if_neg (by simp), h1]
    · exact .inl ⟨0, by simp, by simp, by simp⟩
def giveE (P : Pr) (c : Int) : Int := if c < 1 then 5 else match P.ws.findIdx? (pW c) with
  | some _ => 0
  | none => match P.ss.findIdx? (pS c) with
    | some _ => 0
    | none => 5
def giveW (P : Pr) (c : Int) : List Wt := if c < 1 then P.ws else match P.ws.findIdx? (pW c) with
  | some i => P.ws.eraseIdx i
  | none => P.ws
def giveS (P : Pr) (c : Int) : List Sv := if c < 1 then P.ss else match P.ws.findIdx? (pW c) with
  | some _ => P.ss
  | none => match P.ss.findIdx? (pS c) with
    | some i => P.ss.eraseIdx i
    | none => P.ss
theorem run15 {I : Nat → Option (List AV → AH → Rs)} (h32 : I 32 = none) (h36 : I 36 = none) (h58 : I 58 = none) (h37 : I 37 = none) (h57 : I 57 = none) (h38 : I 38 = none) (h39 : I 39 = none) (h15 : I 15 = none) (h59 : I 59 = none) (h60 : I 60 = none) (m p : Nat) (c : Int) (P : Pr) (h : AH) (hP : OkP h p P) (hq : ¬ P.q = 0) :
    ∃ v2 u2 h2, call F I T (m + 303) 15 [.ptr p 0, .int .i64 c] h = some (.int .i64 (giveE P c), h2) ∧ OkP h2 p {P with wv := v2, ws := giveW P c, sv := u2, ss := giveS P c} ∧ Stp h h2 p P {P with wv := v2, ws := giveW P c, sv := u2, ss := giveS P c} := by
  have k1 := run32 h32 (m + 301) p P.q P.r P.wv P.sv P.jv P.lf h hP.g hq
  obtain ⟨h2, k2, g1⟩ := run37 h58 h37 h59 (m + 1) p c P h hP
  have hPB := hP.grow g1
  have k3 := run38 h57 h38 h60 (m + 1) p c P _ hPB
  have g2 := Grow.alloc h2 (.cells [.int .i64 c] .own)
  have hPC := hPB.grow g2
  have gAll := g1.trans g2
  obtain ⟨h3, hh3⟩ : ∃ h3, h3 = h2.alloc (.cells [.int .i64 c] .own) := ⟨_, rfl⟩
  rw [← hh3] at k3 g2 hPC gAll
  have hp2 : h2.get p = some (.cells [.int .i64 P.q, .int .i64 P.r, P.wv, P.sv, P.jv, .int .i64 P.lf] .own) := hPB.g
  have hp3 : h3.get p = some (.cells [.int .i64 P.q, .int .i64 P.r, P.wv, P.sv, P.jv, .int .i64 P.lf] .own) := hPC.g
  by_cases c1 : c < 1
  · refine ⟨P.wv, P.sv, h3, ?_, by unfold giveW giveS; rw [if_pos c1, if_pos c1]; exact hPC, by unfold giveW giveS; rw [if_pos c1, if_pos c1]; exact Stp.grow p P gAll⟩
    have c2 : ¬ 0 < c := by omega
    unfold giveE
    rw [if_pos c1]
    rw [call_F (by decide) h15 F15 rfl R15]; simp only [Tryd.f15, Option.getD]
    simp +contextual (maxSteps := 3000000) only [↓code_skip, ↓code_seq, ↓code_region, ↓code_cond, ↓code_ret, aCond_bool, ↓ops_nil, ↓ops_cons, run_none, run_someT, run_someF, ↓run0_v, ↓run0_r, ↓seqK_normal, ↓seqK_ret, ↓retK_ret, put_same, put_ne, env0_at, ev_tmp, ev_const, ev_func, oc_int, oc_bool, o_move, o_assign, o_pick, o_bin, o_call, g_none, g_some, pick_bool, bin_lss, bin_gtr, bin_geq, resultsOf, oneOrAll, Option.bind_some, Option.map_some, Option.getD_some, decide_eq_true_eq, ↓reduceIte, Nat.reduceEqDiff, not_false_eq_true, reduceCtorEq, List.getElem?_cons_zero, List.getElem?_cons_succ, List.getElem?_toArray, Bool.false_eq_true, List.map_cons, List.map_nil, List.append_nil, List.nil_append, ite_self, gt_iff_lt, ge_iff_le, ne_eq, k1, k2, k3, c1, c2, callV_fn (g := 32) (by decide), callV_fn (g := 37) (by decide), callV_fn (g := 38) (by decide)]
  have c2 : 0 < c := by omega
  have c1' : ¬ c < 1 := c1
  rcases idx_find (pW c) P.ws 0 with ⟨i, i1, i2, i3⟩ | ⟨i1, i2⟩
  · rw [i1, Nat.zero_add] at k2
    have hwl := hP.wl
    obtain ⟨v2, h4, q1, q2, q3, q4, q5⟩ := run36 h36 (m + 301) i P.wv P.ws h2 hPB.w hP.wb i3 (by omega)
    have hp4 : h4.get p = some (.cells [.int .i64 P.q, .int .i64 P.r, P.wv, P.sv, P.jv, .int .i64 P.lf] .own) := by rw [q4 p hPB.wp]; exact hp2
    have hS := hPB.set_w (h4 := h4) q2 (by omega) (fun c _ ho => q4 c ho) (fun b o l k z x hv => .inr (q5 _ _ _ _ _ _ hv)) (fun x hx => hP.wb x ((List.eraseIdx_sublist _ _).subset hx)) (by have := (List.eraseIdx_sublist P.ws i).length_le; omega)
    have hW : giveW P c = P.ws.eraseIdx i := by unfold giveW; rw [if_neg c1, i2]
    have hSS : giveS P c = P.ss := by unfold giveS; rw [if_neg c1, i2]
    have hE : giveE P c = 0 := by unfold giveE; rw [if_neg c1, i2]
    rw [hE]
    refine ⟨v2, P.sv, _, ?_, by rw [hW, hSS]; exact hS.1, by rw [hW, hSS]; exact (Stp.grow p P g1).trans hS.2⟩
    have c7 : IntKind.i64.wrap ((i : Int) + 1) = ((i + 1 : Nat) : Int) := by rw [wrap_i64 (by omega) (by omega)]; rfl
    have c8 : (0 : Int) ≤ (i : Nat) := by omega
    obtain ⟨u1, u2⟩ := q2.cells
    rw [call_F (by decide) h15 F15 rfl R15]; simp only [Tryd.f15, Option.getD]
    simp +contextual (maxSteps := 3000000) only [↓code_skip, ↓code_seq, ↓code_region, ↓code_cond, ↓code_ret, aCond_bool, ↓ops_nil, ↓ops_cons, run_none, run_someT, ↓run0_v, ↓run0_h, ↓run0_r, ↓seqK_normal, ↓seqK_ret, ↓retK_ret, put_same, put_ne, put_none, env0_at, ev_tmp, ev_const, ev_func, oc_int, oc_bool, o_move, o_assign, o_pick, o_bin, o_call, o_load, o_store, o_nilCheck, o_fieldAddr, g_none, g_some, pick_bool, bin_add, bin_gtr, bin_geq, nil_ptr, resultsOf, oneOrAll, Option.bind_some, Option.map_some, Option.getD_some, decide_eq_true_eq, ↓reduceIte, Nat.reduceEqDiff, not_false_eq_true, Nat.reduceAdd, reduceCtorEq, List.getElem?_cons_zero, List.getElem?_cons_succ, List.getElem?_toArray, Bool.false_eq_true, List.map_cons, List.map_nil, List.append_nil, List.nil_append, gt_iff_lt, ge_iff_le, ne_eq, fa_ptr T73 p73_2 (by decide), load_p1 T70 a70, loadc_def, run0_h, k1, k2, c2, c7, c8, hp2, q1, store_1 T70 s70 u1 u2 hp4 (show 2 < 6 by decide), callV_fn (g := 32) (by decide), callV_fn (g := 36) (by decide), callV_fn (g := 37) (by decide)]
    rfl
  rw [i1] at k2
  have hW : giveW P c = P.ws := by unfold giveW; rw [if_neg c1, i2]
  rcases idx_find (pS c) P.ss 0 with ⟨i, j1, j2, j3⟩ | ⟨j1, j2⟩
  · rw [j1, Nat.zero_add] at k3
    have hsl := hP.sl
    obtain ⟨v2, h4, q1, q2, q3, q4, q5⟩ := run39 h39 (m + 301) i P.sv P.ss h3 hPC.s j3 (by omega)
    have hp4 : h4.get p = some (.cells [.int .i64 P.q, .int .i64 P.r, P.wv, P.sv, P.jv, .int .i64 P.lf] .own) := by rw [q4 p hPC.sp]; exact hp3
    have hS := hPC.set_s (h4 := h4) q2 (by omega) (fun c _ ho _ => q4 c ho) (fun b o l k z x hv => .inr (q5 _ _ _ _ _ _ hv)) (fun x hx => by
      have hx' := (List.eraseIdx_sublist _ _).subset hx
      have r1 := hPC.b x hx'
      have r2 := hPC.ap x hx'
      refine ⟨by omega, by unfold Sv.ok; rw [q4 _ r2.2.2]; exact r1.2, r2.1, r2.2.1, off_new (h := h3) (fun b o l k z x hv => .inr (q5 _ _ _ _ _ _ hv)) r1.1 r2.2.2, .inr ⟨x, hx', rfl⟩⟩) ((((List.eraseIdx_sublist P.ss i).map Sv.a)).nodup hP.nd) (by have := (List.eraseIdx_sublist P.ss i).length_le; omega)
    have hSS : giveS P c = P.ss.eraseIdx i := by unfold giveS; rw [if_neg c1, i2, j2]
    have hE : giveE P c = 0 := by unfold giveE; rw [if_neg c1, i2, j2]
    rw [hE]
    refine ⟨P.wv, v2, _, ?_, by rw [hW, hSS]; exact hS.1, by rw [hW, hSS]; exact (Stp.grow p P gAll).trans hS.2⟩
    have c7 : IntKind.i64.wrap ((i : Int) + 1) = ((i + 1 : Nat) : Int) := by rw [wrap_i64 (by omega) (by omega)]; rfl
    have c8 : ¬ ((i : Nat) : Int) < 0 := by omega
    obtain ⟨u1, u2⟩ := q2.cells
    rw [call_F (by decide) h15 F15 rfl R15]; simp only [Tryd.f15, Option.getD]
    simp +contextual (maxSteps := 3000000) only [↓code_skip, ↓code_seq, ↓code_region, ↓code_cond, ↓code_ret, aCond_bool, ↓ops_nil, ↓ops_cons, run_none, run_someT, run_someF, ↓run0_v, ↓run0_h, ↓run0_r, ↓seqK_normal, ↓retK_ret, put_same, put_ne, put_none, env0_at, ev_tmp, ev_const, ev_func, oc_int, oc_bool, o_move, o_assign, o_pick, o_bin, o_call, o_load, o_store, o_nilCheck, o_fieldAddr, g_none, g_some, pick_bool, bin_add, bin_lss, bin_geq, nil_ptr, resultsOf, oneOrAll, Option.bind_some, Option.map_some, Option.getD_some, decide_eq_true_eq, ↓reduceIte, Nat.reduceEqDiff, not_false_eq_true, Nat.reduceAdd, reduceCtorEq, List.getElem?_cons_zero, List.getElem?_cons_succ, List.getElem?_toArray, Bool.false_eq_true, List.map_cons, List.map_nil, List.append_nil, List.nil_append, ge_iff_le, ne_eq, loadc_def, run0_h, fa_ptr T73 p73_3 (by decide), load_p1 T71 a71, k1, k2, k3, c1', c7, c8, hp3, q1, (show ¬ (0 : Int) ≤ -1 by decide), store_1 T71 s71 u1 u2 hp4 (show 3 < 6 by decide), callV_fn (g := 32) (by decide), callV_fn (g := 39) (by decide), callV_fn (g := 37) (by decide), callV_fn (g := 38) (by decide)]
    rfl
  · rw [j1] at k3
    have hSS : giveS P c = P.ss := by unfold giveS; rw [if_neg c1, i2, j2]
    have hE : giveE P c = 5 := by unfold giveE; rw [if_neg c1, i2, j2]
    rw [hE]
    refine ⟨P.wv, P.sv, h3, ?_, by rw [hW, hSS]; exact hPC, by rw [hW, hSS]; exact Stp.grow p P gAll⟩
    rw [call_F (by decide) h15 F15 rfl R15]; simp only [Tryd.f15, Option.getD]
    simp +contextual (maxSteps := 3000000) only [↓code_skip, ↓code_seq, ↓code_region, ↓code_cond, ↓code_ret, aCond_bool, ↓ops_nil, ↓ops_cons, run_none, run_someT, run_someF, ↓run0_v, ↓run0_r, ↓seqK_normal, ↓seqK_ret, ↓retK_ret, put_same, put_ne, env0_at, ev_tmp, ev_const, ev_func, oc_int, oc_bool, o_move, o_assign, o_pick, o_bin, o_call, g_none, g_some, pick_bool, bin_lss, bin_geq, resultsOf, oneOrAll, Option.bind_some, Option.map_some, Option.getD_some, decide_eq_true_eq, ↓reduceIte, Nat.reduceEqDiff, not_false_eq_true, reduceCtorEq, List.getElem?_cons_zero, List.getElem?_cons_succ, List.getElem?_toArray, Bool.false_eq_true, List.map_cons, List.map_nil, List.append_nil, List.nil_append, ge_iff_le, ne_eq, k1, k2, k3, (show ¬ (0 : Int) ≤ -1 by decide), (show (-1 : Int) < 0 by decide), callV_fn (g := 32) (by decide), callV_fn (g := 37) (by decide), callV_fn (g := 38) (by decide)]
end Go.AM.X
namespace Go.AM.X
open Go Go.AM Go.Proofs Go.AM.Sx
set_option maxHeartbeats 3200000
set_option maxRecDepth 100000
set_option linter.unusedVariables false
theorem F14 : F 14 = some { body := (Tryd.f14.body.getD .skip), results := Tryd.f14.results.toList, rf := false } := by kernel_rfl
theorem R14 : regsOk T (Tryd.f14.body.getD .skip) = true := by kernel_rfl
theorem F16 : F 16 = some { body := (Tryd.f16.body.getD .skip), results := Tryd.f16.results.toList, rf := false } := by kernel_rfl
theorem R16 : regsOk T (Tryd.f16.body.getD .skip) = true := by kernel_rfl
/-- A row that is all new since a heap. -/
def Fresh (h : AH) (v : AV) : Prop := ∀ b o l k z x, v = .sl b o l k z x → h.next ≤ b
theorem Fresh.off {h : AH} {v : AV} (hv : Fresh h v) {c : Nat} (hc : c < h.next) : offRow v c := by
  intro b o l k z x e
  have := hv _ _ _ _ _ _ e
  omega
theorem push_new {T : TT} {t el : Nat} {ti te : TI} {sz n : Nat} {h0 h : AH} {v : AV} {cs new : List AV} (ht : T t = some ti) (hd : ti.desc = .slice el) (he : T el = some te) (hz : te.size = sz) (hs0 : 0 < sz) (hb : 0 < te.bytes) (hr : RowC sz h v n cs) (hf : Fresh h0 v) (hg : Grow h0 h)
    (hl : new.length = sz) (hone : new.all AV.one = true) (hsm : (n + 1) * te.bytes < maxBytes) :
    ∃ v' h2, aAppend T t t v (.sl h.next 0 1 1 sz true) (h.alloc (.cells new .own)) = some (v', h2) ∧ RowC sz h2 v' (n + 1) (cs ++ new) ∧ Fresh h0 v' ∧ Grow h0 h2 := by
  obtain ⟨v', h2, q1, q2, q3, q4, q5⟩ := hr.push ht hd he hz hs0 hb hl hone hsm
  have g1 := hg.1
  refine ⟨v', h2, q1, q2, fun b o l k z x e => ?_, by omega, fun c hc => ?_⟩
  · rcases q5 _ _ _ _ _ _ e with h | ⟨_, _, _, _, _, h⟩
    · omega
    · exact hf _ _ _ _ _ _ h
  · rw [q4 c (by omega) (hf.off hc), hg.2 c hc]
def sI (ss : List Sv) : List AV := ss.map fun s => .int .i64 s.c
def wI (ws : List Wt) : List AV := ws.map fun w => .int .i64 w.c
theorem run14 {I : Nat → Option (List AV → AH → Rs)} (h32 : I 32 = none) (h14 : I 14 = none) (m p : Nat) (P : Pr) (h : AH) (hP : OkP h p P) (hq : ¬ P.q = 0) :
    ∃ v h2, call F I T (m + 200) 14 [.ptr p 0] h = some (v, h2) ∧ RowC 1 h2 v P.ss.length (sI P.ss) ∧ Fresh h v ∧ Grow h h2 := by
  have k1 := run32 h32 (m + 198) p P.q P.r P.wv P.sv P.jv P.lf h hP.g hq
  have hp : h.get p = some (.cells [.int .i64 P.q, .int .i64 P.r, P.wv, P.sv, P.jv, .int .i64 P.lf] .own) := hP.g
  have hlen : ∀ h, aLen T 71 P.sv h = some (.int .i64 (P.ss.length : Nat)) := fun h => hP.s.len T71 d71
  have hsl := hP.sl
  rw [call_F (by decide) h14 F14 rfl R14]; simp only [Tryd.f14, Option.getD]
  simp +contextual (maxSteps := 3000000) only [↓code_skip, ↓code_seq, ↓code_region, ↓code_cond, ↓code_block, ↓code_loop, aCond_bool, ↓ops_nil, ↓ops_cons, run_none, ↓run0_v, ↓run0_r, ↓seqK_normal, put_same, put_ne, env0_at, ev_tmp, ev_const, ev_func, oc_int, oc_nils, o_move, o_assign, o_call, o_len, o_load, o_nilCheck, o_fieldAddr, g_none, nil_ptr, Option.getD_some, ↓reduceIte, not_false_eq_true, Nat.reduceAdd, reduceCtorEq, List.getElem?_cons_zero, List.getElem?_cons_succ, Bool.false_eq_true, List.map_cons, List.map_nil, List.append_nil, List.nil_append, ne_eq, fa_ptr T73 p73_3 (by decide), load_p1 T71 a71, loadc_def, k1, hp, hlen, callV_fn (g := 32) (by decide)]
  refine iterL_wp (Q := fun r => ∃ v h2, r = some (v, h2) ∧ RowC 1 h2 v P.ss.length (sI P.ss) ∧ Fresh h v ∧ Grow h h2) (N := P.ss.length) (Inv := fun k e h' => ∃ i v, k + i = P.ss.length ∧ RowC 1 h' v i (sI (P.ss.take i)) ∧ Fresh h v ∧ Grow h h' ∧ i ≤ P.ss.length ∧ e 3 = v ∧ e 11 = P.sv ∧ e 12 = .int .i64 (P.ss.length : Nat) ∧ e 13 = .int .i64 (i : Nat)) ?_ ?_ (by omega)
  · rintro k e h' K' ⟨i, v, hk, hr, hf, hg, hil, e3, e11, e12, e13⟩ hnext hexit
    by_cases hi : i < P.ss.length
    · have c1 : (i : Int) < (P.ss.length : Int) := by omega
      obtain ⟨s, hs⟩ : ∃ s, P.ss[i]? = some s := ⟨P.ss[i], List.getElem?_eq_getElem hi⟩
      obtain ⟨b, cs, bk, g1, g2, g3⟩ := loadS ((hP.grow hg).s) hs
      have g4 := ((hP.grow hg).b s (List.mem_of_getElem? hs)).2
      unfold Sv.ok Sv.enc at g4
      obtain ⟨v', h2, q1, q2, q3, q4⟩ := push_new (new := [.int .i64 s.c]) T31 d31 T3 s3 (by decide) (by rw [b3]; decide) hr hf hg rfl rfl (by rw [b3]; simp [maxBytes]; omega)
      have c7 : IntKind.i64.wrap ((i : Int) + 1) = ((i + 1 : Nat) : Int) := by rw [wrap_i64 (by omega) (by omega)]; rfl
      have htk : sI (P.ss.take i) ++ [.int .i64 s.c] = sI (P.ss.take (i + 1)) := by
        rw [List.take_add_one, hs]; simp [sI]
      rw [htk] at q2
      simp +contextual (maxSteps := 3000000) only [↓code_skip, ↓code_seq, ↓code_region, ↓code_cond, ↓code_block, aCond_bool, ↓ops_nil, ↓ops_cons, run_none, ↓run0_v, ↓run0_r, ↓seqK_normal, ↓blkK_normal, put_same, put_ne, ev_tmp, ev_const, oc_int, o_move, o_assign, o_bin, o_buildSlice, o_load, o_nilCheck, o_fieldAddr, o_indexAddr, o_append, g_none, bin_add, bin_lss, nil_ptr, Option.bind_some, decide_eq_true_eq, ↓reduceIte, Nat.reduceEqDiff, not_false_eq_true, Nat.reduceAdd, Nat.reduceMul, List.getElem?_cons_zero, List.map_cons, List.map_nil, List.append_nil, List.nil_append, and_true, Nat.le_refl, ne_eq, loadc_def, load_p1 T82 a82, fa_ptr T84 p84_0 (by decide), load_p1 T3 a3, buildSl T31 d31 T3 (n := 1) (by rw [s3]; decide), s3, z3, parts_eq, fillA, AV.cells, AH.splice, List.take_zero, List.drop_succ_cons, List.drop_nil, List.length_cons, List.length_nil, repl, e3, e11, e12, e13, c1, g1, g2, g3, g4, q1, c7]
      refine hnext (k - 1) _ _ (by omega) ⟨i + 1, v', by omega, ?_, ?_, ?_, ?_, ?_, ?_, ?_, ?_⟩
      · exact q2
      · exact q3
      · exact q4
      · omega
      · simp only [put_same, put_ne, Nat.reduceEqDiff, not_false_eq_true, ne_eq]
      · simp only [put_ne, Nat.reduceEqDiff, not_false_eq_true, ne_eq, e11]
      · simp only [put_ne, Nat.reduceEqDiff, not_false_eq_true, ne_eq, e12]
      · simp only [put_same]
    · have c1 : ¬ (i : Int) < (P.ss.length : Int) := by omega
      have hin : i = P.ss.length := by omega
      rw [hin, List.take_length] at hr
      simp +contextual (maxSteps := 3000000) only [↓code_seq, ↓code_region, ↓code_cond, ↓code_exit, aCond_bool, ↓ops_nil, ↓ops_cons, run_none, ↓run0_v, ↓seqK_normal, ↓seqK_exit, put_same, ev_tmp, o_bin, g_none, bin_lss, decide_eq_true_eq, ↓reduceIte, e12, e13, c1]
      refine hexit _ _ _ (by simp) ⟨v, h', ?_, hr, hf, hg⟩
      simp +contextual (maxSteps := 3000000) only [↓code_seq, ↓code_region, ↓code_ret, ↓ops_nil, ↓ops_cons, run_none, ↓run0_v, ↓seqK_normal, ↓blkK_exit, ↓retK_ret, put_same, put_ne, ev_tmp, o_move, o_assign, g_none, resultsOf, oneOrAll, Option.map_some, ↓reduceIte, Nat.reduceEqDiff, not_false_eq_true, ne_eq, e3]
  · refine ⟨0, .nils, by omega, ?_, ?_, ?_, ?_, ?_, ?_, ?_, ?_⟩
    · exact RowC.nil 1 h
    · (intro b o l k z x e; cases e)
    · exact Grow.refl _
    · omega
    · simp only [put_same, put_ne, Nat.reduceEqDiff, not_false_eq_true, ne_eq]
    · simp only [put_same, put_ne, Nat.reduceEqDiff, not_false_eq_true, ne_eq]
    · simp only [put_same, put_ne, Nat.reduceEqDiff, not_false_eq_true, ne_eq]
    · simp only [put_same]; rfl
theorem store_w (h : AH) (w : Wt) (hb : okB w.b) : ∃ h2, aStore T 81 (.ptr h.next 0) (.agg [.int .i64 w.c, .int .i64 w.w, w.b]) (h.alloc (.cells [.int .i64 0, .int .i64 0, .nilp] .own)) = some h2 ∧ h2.next = h.next + 1 ∧ h2.get h.next = some (.cells [.int .i64 w.c, .int .i64 w.w, w.b] .own) ∧ Grow h h2 := by
  have h1 := store_n (T := T) (t := 81) (b := h.next) (o := 0) (v := .agg [.int .i64 w.c, .int .i64 w.w, w.b]) (vs := [.int .i64 w.c, .int .i64 w.w, w.b]) (h := h.alloc (.cells [.int .i64 0, .int .i64 0, .nilp] .own)) (cs := [.int .i64 0, .int .i64 0, .nilp]) T81 rfl (by rw [s81]; rfl)
    (by simp only [List.all_cons, List.all_nil, hb.one.1]; rfl) (by rw [AH.get_alloc, if_pos rfl]) (by simp)
  refine ⟨_, h1, by simp, by rw [AH.get_put, if_pos rfl]; rfl, by simp, fun c hc => ?_⟩
  rw [AH.get_put, if_neg (by omega), AH.get_alloc, if_neg (by omega)]
theorem run16 {I : Nat → Option (List AV → AH → Rs)} (h32 : I 32 = none) (h16 : I 16 = none) (m p : Nat) (P : Pr) (h : AH) (hP : OkP h p P) (hq : ¬ P.q = 0) :
    ∃ v h2, call F I T (m + 200) 16 [.ptr p 0] h = some (v, h2) ∧ RowC 1 h2 v P.ws.length (wI P.ws) ∧ Fresh h v ∧ Grow h h2 := by
  have k1 := run32 h32 (m + 198) p P.q P.r P.wv P.sv P.jv P.lf h hP.g hq
  have hp : h.get p = some (.cells [.int .i64 P.q, .int .i64 P.r, P.wv, P.sv, P.jv, .int .i64 P.lf] .own) := hP.g
  have hlen : ∀ h, aLen T 70 P.wv h = some (.int .i64 (P.ws.length : Nat)) := fun h => hP.w.len T70 d70
  have hwl := hP.wl
  rw [call_F (by decide) h16 F16 rfl R16]; simp only [Tryd.f16, Option.getD]
  simp +contextual (maxSteps := 3000000) only [↓code_skip, ↓code_seq, ↓code_region, ↓code_cond, ↓code_block, ↓code_loop, aCond_bool, ↓ops_nil, ↓ops_cons, run_none, ↓run0_v, ↓run0_r, ↓seqK_normal, put_same, put_ne, env0_at, ev_tmp, ev_const, ev_func, oc_int, oc_nils, o_move, o_assign, o_call, o_len, o_load, o_nilCheck, o_fieldAddr, g_none, nil_ptr, Option.getD_some, ↓reduceIte, not_false_eq_true, Nat.reduceAdd, reduceCtorEq, List.getElem?_cons_zero, List.getElem?_cons_succ, Bool.false_eq_true, List.map_cons, List.map_nil, List.append_nil, List.nil_append, ne_eq, fa_ptr T73 p73_2 (by decide), load_p1 T70 a70, loadc_def, k1, hp, hlen, callV_fn (g := 32) (by decide)]
  refine iterL_wp (Q := fun r => ∃ v h2, r = some (v, h2) ∧ RowC 1 h2 v P.ws.length (wI P.ws) ∧ Fresh h v ∧ Grow h h2) (N := P.ws.length) (Inv := fun k e h' => ∃ i v, k + i = P.ws.length ∧ RowC 1 h' v i (wI (P.ws.take i)) ∧ Fresh h v ∧ Grow h h' ∧ i ≤ P.ws.length ∧ e 3 = v ∧ e 11 = P.wv ∧ e 12 = .int .i64 (P.ws.length : Nat) ∧ e 13 = .int .i64 (i : Nat)) ?_ ?_ (by omega)
  · rintro k e h' K' ⟨i, v, hk, hr, hf, hg, hil, e3, e11, e12, e13⟩ hnext hexit
    by_cases hi : i < P.ws.length
    · have c1 : (i : Int) < (P.ws.length : Int) := by omega
      obtain ⟨w, hw⟩ : ∃ w, P.ws[i]? = some w := ⟨P.ws[i], List.getElem?_eq_getElem hi⟩
      obtain ⟨b, cs, bk, g1, g2, g3, g4⟩ := loadW ((hP.grow hg).w) hw
      unfold Wt.enc at g4
      have hob := hP.wb w (List.mem_of_getElem? hw)
      have c7 : IntKind.i64.wrap ((i : Int) + 1) = ((i + 1 : Nat) : Int) := by rw [wrap_i64 (by omega) (by omega)]; rfl
      obtain ⟨hz, y1, y2, y3, y4⟩ := store_w h' w hob
      obtain ⟨v', h2, q1, q2, q3, q4⟩ := push_new (new := [.int .i64 w.c]) T31 d31 T3 s3 (by decide) (by rw [b3]; decide) (hr.grow y4) hf (hg.trans y4) rfl rfl (by rw [b3]; simp [maxBytes]; omega)
      have htk : wI (P.ws.take i) ++ [.int .i64 w.c] = wI (P.ws.take (i + 1)) := by
        rw [List.take_add_one, hw]; simp [wI]
      rw [htk] at q2
      simp +contextual (maxSteps := 3000000) only [↓code_skip, ↓code_seq, ↓code_region, ↓code_cond, ↓code_block, aCond_bool, ↓ops_nil, ↓ops_cons, run_none, ↓run0_v, ↓run0_h, ↓run0_r, ↓seqK_normal, ↓blkK_normal, put_same, put_ne, put_none, ev_tmp, ev_const, oc_int, o_move, o_assign, o_bin, o_alloc, o_buildSlice, o_load, o_store, o_fieldAddr, o_indexAddr, o_append, g_none, bin_add, bin_lss, Option.bind_some, Option.map_some, decide_eq_true_eq, ↓reduceIte, Nat.reduceEqDiff, not_false_eq_true, Nat.reduceAdd, Nat.reduceMul, List.getElem?_cons_zero, List.map_cons, List.map_nil, List.append_nil, List.nil_append, and_true, Nat.le_refl, ne_eq, loadc_def, load_pA T81 a81, s81, loadn_def, alloc_t T81, z81, fa_ptr T81 p81_0 (by decide), load_p1 T3 a3, buildSl T31 d31 T3 (n := 1) (by rw [s3]; decide), s3, z3, parts_eq, fillA, AV.cells, AH.splice, List.take_zero, List.drop_succ_cons, List.drop_nil, List.length_cons, List.length_nil, repl, e3, e11, e12, e13, c1, g1, g2, g3, g4, c7, y1, y3, q1]
      refine hnext (k - 1) _ _ (by omega) ⟨i + 1, v', by omega, ?_, ?_, ?_, ?_, ?_, ?_, ?_, ?_⟩
      · exact q2
      · exact q3
      · exact q4
      · omega
      · simp only [put_same, put_ne, Nat.reduceEqDiff, not_false_eq_true, ne_eq]
      · simp only [put_ne, Nat.reduceEqDiff, not_false_eq_true, ne_eq, e11]
      · simp only [put_ne, Nat.reduceEqDiff, not_false_eq_true, ne_eq, e12]
      · simp only [put_same]
    · have c1 : ¬ (i : Int) < (P.ws.length : Int) := by omega
      have hin : i = P.ws.length := by omega
      rw [hin, List.take_length] at hr
      simp +contextual (maxSteps := 3000000) only [↓code_seq, ↓code_region, ↓code_cond, ↓code_exit, aCond_bool, ↓ops_nil, ↓ops_cons, run_none, ↓run0_v, ↓seqK_normal, ↓seqK_exit, put_same, ev_tmp, o_bin, g_none, bin_lss, decide_eq_true_eq, ↓reduceIte, e12, e13, c1]
      refine hexit _ _ _ (by simp) ⟨v, h', ?_, hr, hf, hg⟩
      simp +contextual (maxSteps := 3000000) only [↓code_seq, ↓code_region, ↓code_ret, ↓ops_nil, ↓ops_cons, run_none, ↓run0_v, ↓seqK_normal, ↓blkK_exit, ↓retK_ret, put_same, put_ne, ev_tmp, o_move, o_assign, g_none, resultsOf, oneOrAll, Option.map_some, ↓reduceIte, Nat.reduceEqDiff, not_false_eq_true, ne_eq, e3]
  · refine ⟨0, .nils, by omega, ?_, ?_, ?_, ?_, ?_, ?_, ?_, ?_⟩
    · exact RowC.nil 1 h
    · (intro b o l k z x e; cases e)
    · exact Grow.refl _
    · omega
    · simp only [put_same, put_ne, Nat.reduceEqDiff, not_false_eq_true, ne_eq]
    · simp only [put_same, put_ne, Nat.reduceEqDiff, not_false_eq_true, ne_eq]
    · simp only [put_same, put_ne, Nat.reduceEqDiff, not_false_eq_true, ne_eq]
    · simp only [put_same]; rfl
end Go.AM.X
namespace Go.AM.X
open Go Go.AM Go.Proofs Go.AM.Sx
set_option maxHeartbeats 3200000
set_option maxRecDepth 100000
set_option linter.unusedVariables false
theorem F34 : F 34 = some { body := (Tryd.f34.body.getD .skip), results := Tryd.f34.results.toList, rf := false } := by kernel_rfl
theorem R34 : regsOk T (Tryd.f34.body.getD .skip) = true := by kernel_rfl
theorem repl_len (z : List AV) : ∀ n : Nat, (repl z n).length = n * z.length
  | 0 => by simp [repl]
  | n + 1 => by simp only [repl, List.length_append, repl_len z n, Nat.add_mul, Nat.one_mul]; omega
theorem repl_one (z : List AV) (h : z.all AV.one = true) : ∀ n : Nat, (repl z n).all AV.one = true
  | 0 => rfl
  | n + 1 => by simp only [repl, List.all_append, h, repl_one z h n]; rfl
theorem _root_.Go.AM.Sx.RowC.trunc {T : TT} {t el : Nat} {ti te : TI} {sz n j : Nat} {h : AH} {v : AV} {cs : List AV} (ht : T t = some ti) (hd : ti.desc = .slice el) (he : T el = some te) (hz : te.size = sz) (hs0 : 0 < sz) (hzl : te.zero.length = sz) (hz1 : te.zero.all AV.one = true)
    (hr : RowC sz h v n cs) (hn : 0 < n) (hj : j ≤ n) :
    ∃ x38 h2 v2, aSlice T t v (some (.int .i64 (j : Nat))) none none = some x38 ∧ aClear T t x38 h = some h2 ∧ aSlice T t v none (some (.int .i64 (j : Nat))) none = some v2 ∧
      RowC sz h2 v2 j (cs.take (j * sz)) ∧ h2.next = h.next ∧ (∀ c, offRow v c → h2.get c = h.get c) ∧ (∀ b o l k z x, v2 = .sl b o l k z x → ∃ o l k z x, v = .sl b o l k z x) := by
  rcases hr with ⟨rfl, rfl, rfl⟩ | ⟨b, cap, ex, rest, rfl, h1, h2, h3, h4⟩
  · omega
  have hncap : n ≤ cap := Nat.le_of_mul_le_mul_right (show n * sz ≤ cap * sz by omega) hs0
  have e1 : j * sz ≤ n * sz := Nat.mul_le_mul_right _ hj
  have e2 : (n - j) * sz = n * sz - j * sz := Nat.sub_mul _ _ _
  obtain ⟨A, hA⟩ : ∃ A, A = cs.take (j * sz) := ⟨_, rfl⟩
  have hAl : A.length = j * sz := by rw [hA, List.length_take]; omega
  have hrl : (repl te.zero (n - j)).length = n * sz - j * sz := by rw [repl_len, hzl, e2]
  have hsp : AH.splice (cs ++ rest) (0 + j * sz) (repl te.zero (n - j)) = A ++ (repl te.zero (n - j) ++ rest) := by
    unfold AH.splice
    rw [Nat.zero_add, List.take_append_of_le_length (by omega), ← hA, hrl, show j * sz + (n * sz - j * sz) = cs.length by omega, List.drop_left, List.append_assoc]
  refine ⟨_, h.put b (.cells (A ++ (repl te.zero (n - j) ++ rest)) .own), .sl b 0 j cap sz (ex || false), sl_slC ht hd he hz (m := cap) (u := n) rfl rfl bnd_nat (by omega) hncap (Nat.le_refl _) (by simp), ?_, ?_, ?_, rfl, fun c hoff => ?_, fun b' o l k z x hv => by cases hv; exact ⟨_, _, _, _, _, rfl⟩⟩
  · simp only [aClear, ht, hd, he]
    rw [if_pos hz]
    simp only [AH.storen, h4]
    rw [if_pos ⟨by rw [hrl, List.length_append]; omega, repl_one _ hz1 _⟩, hsp]
  · have := sl_slC (T := T) (b := b) (o := 0) (ex := ex) (mx := none) ht hd he hz (m := cap) (l := 0) (len := n) (cap := cap) (lo := none) rfl (bnd_nat (i := j)) rfl (by omega) (by omega) (Nat.le_refl _) (by simp)
    simpa using this
  · refine .inr ⟨b, cap, ex || false, _, rfl, by rw [← hA]; exact hAl, ?_, h3, by rw [AH.get_put, if_pos rfl, ← hA]⟩
    rw [← hA, hAl, List.length_append, hrl]
    omega
  · rw [AH.get_put, if_neg (hoff _ _ _ _ _ _ rfl)]
theorem scs_set (L : List Sv) (j : Nat) (s : Sv) : (scs L).set j (.ptr s.a 0) = scs (L.set j s) := by simp [scs, List.map_set]
theorem _root_.Go.AM.Sx.RowC.setS {h : AH} {v : AV} {L : List Sv} {j : Nat} (s : Sv) (hr : RowC 1 h v L.length (scs L)) (hj : j < L.length) :
    ∃ b cs, aIndexAddr T 71 v (.int .i64 (j : Nat)) = some (.ptr b j) ∧ h.get b = some (.cells cs .own) ∧ j < cs.length ∧ RowC 1 (h.put b (.cells (cs.set j (.ptr s.a 0)) .own)) v (L.set j s).length (scs (L.set j s)) ∧ (∀ c, offRow v c → c ≠ b) := by
  rcases hr with ⟨rfl, h0, _⟩ | ⟨b, cap, ex, rest, rfl, h1, h2, h3, h4⟩
  · omega
  obtain ⟨b', rest', ⟨cap', ex', hv⟩, g1, g2, g3⟩ := RowC.at_ (h := h) (cs := scs L) T71 d71 T82 s82 (.inr ⟨b, cap, ex, rest, rfl, h1, h2, h3, h4⟩) hj
  cases hv
  rw [Nat.mul_one] at g1
  refine ⟨b, scs L ++ rest, g1, h4, by rw [List.length_append, scs_len]; omega, .inr ⟨b, cap, ex, rest, by rw [List.length_set], by rw [scs_len], ?_, h3, ?_⟩, fun c ho => ho _ _ _ _ _ _ rfl⟩
  · rw [scs_len, List.length_set]; rw [scs_len] at h2; exact h2
  · rw [AH.get_put, if_pos rfl, List.set_append_left _ _ (by rw [scs_len]; omega), scs_set]
def keepS (s : Sv) : Bool := !decide (s.s = 30)
def goS (s : Sv) : Bool := decide (s.s = 30)
theorem filter_all : ∀ (l : List Sv) (k : Nat), idxAt goS k l = -1 → l.filter keepS = l
  | [], _, _ => rfl
  | s :: l, k, h => by
    simp only [idxAt] at h
    by_cases hs : goS s = true
    · rw [if_pos hs] at h; omega
    · rw [if_neg hs] at h
      rw [List.filter_cons_of_pos (by unfold keepS; unfold goS at hs; simpa using hs), filter_all l _ h]
theorem filter_take {l : List Sv} {i : Nat} (h : l.findIdx? goS = some i) : (l.take (i + 1)).filter keepS = l.take i := by
  induction l generalizing i with
  | nil => simp at h
  | cons s l ih =>
    rw [List.findIdx?_cons] at h
    cases hs : goS s
    · rw [hs] at h
      simp at h
      obtain ⟨j, hj, rfl⟩ := h
      rw [List.take_succ_cons, List.filter_cons_of_pos (by unfold keepS; unfold goS at hs; simpa using hs), ih hj, List.take_succ_cons]
    · rw [hs] at h
      simp at h
      subst h
      simp [keepS]
      unfold goS at hs
      simpa using hs
theorem run34 {I : Nat → Option (List AV → AH → Rs)} (h57 : I 57 = none) (h34 : I 34 = none) (h35 : I 35 = none) (m : Nat) (v : AV) (ss : List Sv) (h : AH) (hr : RowC 1 h v ss.length (scs ss)) (hn : ss.length ≤ 100) (hok : ∀ s ∈ ss, s.ok h ∧ offRow v s.a) :
    ∃ v2 h2, call F I T (m + 301) 34 [v, .fn 35 [] []] h = some (v2, h2) ∧ RowC 1 h2 v2 (ss.filter keepS).length (scs (ss.filter keepS)) ∧ h2.next = h.next ∧ (∀ c, offRow v c → h2.get c = h.get c) ∧ (∀ b o l k z x, v2 = .sl b o l k z x → ∃ o l k z x, v = .sl b o l k z x) := by
  have k1 := run57 h57 m 35 (by decide) [] goS v ss h hr (by omega) fun m s hs => run35 h35 m s h (hok s hs).1
  have hlen : ∀ h, aLen T 71 v h = some (.int .i64 (ss.length : Nat)) := fun h => hr.len T71 d71
  rcases idx_find goS ss 0 with ⟨i, i1, i2, i3⟩ | ⟨i1, i2⟩
  rotate_left
  · refine ⟨v, h, ?_, by rw [filter_all ss 0 i1]; exact hr, rfl, fun _ _ => rfl, fun b o l k z x e => ⟨_, _, _, _, _, e⟩⟩
    rw [i1] at k1
    rw [call_F (by decide) h34 F34 rfl R34]; simp only [Tryd.f34, Option.getD]
    simp +contextual (maxSteps := 3000000) only [↓code_seq, ↓code_region, ↓code_cond, ↓code_ret, aCond_bool, ↓ops_nil, ↓ops_cons, run_none, ↓run0_v, ↓run0_r, ↓seqK_normal, ↓seqK_ret, ↓retK_ret, put_same, put_ne, env0_at, ev_tmp, ev_const, ev_func, oc_int, oc_nils, o_move, o_assign, o_bin, o_call, g_none, bin_eql, resultsOf, oneOrAll, Option.map_some, Option.getD_some, decide_eq_true_eq, ↓reduceIte, Nat.reduceEqDiff, not_false_eq_true, reduceCtorEq, List.getElem?_cons_zero, List.getElem?_cons_succ, List.map_cons, List.map_nil, List.append_nil, List.nil_append, ne_eq, k1, callV_fn (g := 57) (by decide)]
  rw [i1, Nat.zero_add] at k1
  have c1 : ¬ ((i : Nat) : Int) = -1 := by omega
  have c7 : IntKind.i64.wrap ((i : Int) + 1) = ((i + 1 : Nat) : Int) := by rw [wrap_i64 (by omega) (by omega)]; rfl
  rw [call_F (by decide) h34 F34 rfl R34]; simp only [Tryd.f34, Option.getD]
  simp +contextual (maxSteps := 3000000) only [↓code_skip, ↓code_seq, ↓code_region, ↓code_cond, ↓code_block, ↓code_loop, aCond_bool, ↓ops_nil, ↓ops_cons, run_none, ↓run0_v, ↓run0_r, ↓seqK_normal, put_same, put_ne, env0_at, ev_tmp, ev_const, ev_func, oc_int, oc_nils, o_move, o_assign, o_bin, o_call, g_none, bin_add, bin_eql, Option.getD_some, decide_eq_true_eq, ↓reduceIte, Nat.reduceEqDiff, not_false_eq_true, reduceCtorEq, List.getElem?_cons_zero, List.getElem?_cons_succ, List.map_cons, List.map_nil, List.append_nil, List.nil_append, ne_eq, k1, c1, callV_fn (g := 57) (by decide)]
  refine iterL_wp (Q := fun r => ∃ v2 h2, r = some (v2, h2) ∧ RowC 1 h2 v2 (ss.filter keepS).length (scs (ss.filter keepS)) ∧ h2.next = h.next ∧ (∀ c, offRow v c → h2.get c = h.get c) ∧ (∀ b o l k z x, v2 = .sl b o l k z x → ∃ o l k z x, v = .sl b o l k z x)) (N := ss.length - (i + 1)) (Inv := fun k e h' => ∃ y x j L, k + y = ss.length - (i + 1) ∧ x = i + 1 + y ∧ RowC 1 h' v L.length (scs L) ∧ L.length = ss.length ∧ L.take j = (ss.take x).filter keepS ∧ L.drop x = ss.drop x ∧ j < x ∧ x ≤ ss.length ∧ h'.next = h.next ∧ (∀ c, offRow v c → h'.get c = h.get c) ∧ e 0 = v ∧ e 1 = .fn 35 [] [] ∧ e 5 = .int .i64 (j : Nat) ∧ e 6 = .int .i64 (x : Nat)) ?_ ?_ (by omega)
  · rintro k e h' K' ⟨y, x, j, L, hk, hy, hL, hLl, ht, hd, hjx, hx, hnx, hfr, e0, e1, e5, e6⟩ hnext hexit
    by_cases hi : x < ss.length
    · have d1 : (x : Int) < (ss.length : Int) := by omega
      have hLx : L[x]? = some ss[x] := by
        have := congrArg (fun l => l[0]?) hd
        simpa [List.getElem?_drop, List.getElem?_eq_getElem hi] using this
      obtain ⟨b, cs, bk, g1, g2, g3⟩ := loadS hL hLx
      have hm : ss[x] ∈ ss := List.getElem_mem hi
      have hs' : (ss[x]).ok h' := by unfold Sv.ok; rw [hfr _ (hok _ hm).2]; exact (hok _ hm).1
      have kc := fun m => run35 h35 m ss[x] h' hs'
      have d7 : IntKind.i64.wrap ((x : Int) + 1) = ((x + 1 : Nat) : Int) := by rw [wrap_i64 (by omega) (by omega)]; rfl
      have d8 : IntKind.i64.wrap ((j : Int) + 1) = ((j + 1 : Nat) : Int) := by rw [wrap_i64 (by omega) (by omega)]; rfl
      have htk : ss.take (x + 1) = ss.take x ++ [ss[x]] := by rw [List.take_add_one, List.getElem?_eq_getElem hi]; rfl
      have hdd : L.drop (x + 1) = ss.drop (x + 1) := by
        have := congrArg (List.drop 1) hd
        rwa [List.drop_drop, List.drop_drop] at this
      by_cases hz : (ss[x]).s = 30
      · have hk : keepS ss[x] = false := by unfold keepS; simp [hz]
        simp +contextual (maxSteps := 3000000) only [↓code_skip, ↓code_seq, ↓code_region, ↓code_cond, ↓code_block, aCond_bool, ↓ops_nil, ↓ops_cons, run_none, ↓run0_v, ↓run0_r, ↓seqK_normal, ↓blkK_normal, put_same, put_ne, ev_tmp, ev_const, oc_int, o_move, o_assign, o_bin, o_call, o_len, o_load, o_un, o_indexAddr, g_none, bin_add, bin_lss, un_not, decide_eq_true_eq, ↓reduceIte, Nat.reduceEqDiff, not_false_eq_true, reduceCtorEq, Bool.false_eq_true, List.map_cons, List.map_nil, List.append_nil, List.nil_append, Bool.not_true, ne_eq, load_p1 T82 a82, loadc_def, e0, e1, e6, d1, hlen, g1, g2, g3, callV_fn (g := 35) (by decide), kc, decide_eq_true hz, d7]
        refine hnext (k - 1) _ _ (by omega) ⟨y + 1, x + 1, j, L, by omega, ?_, ?_, ?_, ?_, ?_, ?_, ?_, ?_, ?_, ?_, ?_, ?_, ?_⟩
        · omega
        · exact hL
        · exact hLl
        · (rw [htk, List.filter_append, ht, List.filter_cons_of_neg (by rw [hk]; simp)]; simp)
        · exact hdd
        · omega
        · omega
        · exact hnx
        · exact hfr
        · simp only [put_ne, not_false_eq_true, reduceCtorEq, ne_eq, e0]
        · simp only [put_ne, Nat.reduceEqDiff, not_false_eq_true, ne_eq, e1]
        · simp only [put_ne, Nat.reduceEqDiff, not_false_eq_true, ne_eq, e5]
        · simp only [put_same]
      · have hk : keepS ss[x] = true := by unfold keepS; simp [hz]
        obtain ⟨b', cs', q1, q2, q3, q4, q5⟩ := hL.setS (j := j) ss[x] (by omega)
        simp +contextual (maxSteps := 3000000) only [↓code_skip, ↓code_seq, ↓code_region, ↓code_cond, ↓code_block, aCond_bool, ↓ops_nil, ↓ops_cons, run_none, ↓run0_v, ↓run0_h, ↓run0_r, ↓seqK_normal, ↓blkK_normal, put_same, put_ne, put_none, ev_tmp, ev_const, oc_int, o_move, o_assign, o_bin, o_call, o_len, o_load, o_store, o_un, o_indexAddr, g_none, bin_add, bin_lss, un_not, decide_eq_true_eq, ↓reduceIte, Nat.reduceEqDiff, not_false_eq_true, reduceCtorEq, Nat.succ_ne_self, List.map_cons, List.map_nil, List.append_nil, List.nil_append, Bool.not_false, ne_eq, load_p1 T82 a82, loadc_def, run0_h, e0, e1, e5, e6, d1, hlen, g1, g2, g3, callV_fn (g := 35) (by decide), kc, decide_eq_false hz, d7, d8, q1, store_1 (v := .ptr ss[x].a 0) T82 s82 rfl rfl q2 q3]
        refine hnext (k - 1) _ _ (by omega) ⟨y + 1, x + 1, j + 1, L.set j ss[x], by omega, ?_, ?_, ?_, ?_, ?_, ?_, ?_, ?_, ?_, ?_, ?_, ?_, ?_⟩
        · omega
        · exact q4
        · (rw [List.length_set]; exact hLl)
        · (rw [htk, List.filter_append, ← ht, List.filter_cons_of_pos hk, List.filter_nil, List.take_add_one, List.getElem?_set_self (by omega), List.take_set_of_le (Nat.le_refl _)]; rfl)
        · (rw [List.drop_set_of_lt (by omega)]; exact hdd)
        · omega
        · omega
        · exact hnx
        · (intro c hc; rw [AH.get_put, if_neg (q5 c hc)]; exact hfr c hc)
        · simp only [put_ne, not_false_eq_true, reduceCtorEq, ne_eq, e0]
        · simp only [put_ne, Nat.reduceEqDiff, not_false_eq_true, ne_eq, e1]
        · simp only [put_same, put_ne, Nat.reduceEqDiff, not_false_eq_true, ne_eq]
        · simp only [put_same]
    · have d1 : ¬ (x : Int) < (ss.length : Int) := by omega
      have hin : x = ss.length := by omega
      rw [hin, List.take_length] at ht
      obtain ⟨x38, h2, v2, q1, q2, q3, q4, q5, q6, q7⟩ := hL.trunc (j := j) T71 d71 T82 s82 (by decide) (by rw [z82]; rfl) (by rw [z82]; rfl) (by omega) (by omega)
      have hjl : (ss.filter keepS).length = j := by rw [← ht, List.length_take]; omega
      have htk : (scs L).take (j * 1) = scs (ss.filter keepS) := by rw [← ht, Nat.mul_one]; simp [scs, List.map_take]
      rw [htk, ← hjl] at q4
      simp +contextual (maxSteps := 3000000) only [↓code_seq, ↓code_region, ↓code_cond, ↓code_exit, aCond_bool, ↓ops_nil, ↓ops_cons, run_none, ↓run0_v, ↓seqK_normal, ↓seqK_exit, put_same, put_ne, ev_tmp, o_move, o_bin, o_len, g_none, bin_lss, decide_eq_true_eq, ↓reduceIte, Nat.reduceEqDiff, not_false_eq_true, reduceCtorEq, ne_eq, e0, e6, d1, hlen]
      refine hexit _ _ _ (by simp) ⟨v2, h2, ?_, q4, q5.trans hnx, fun c hc => (q6 c hc).trans (hfr c hc), q7⟩
      simp +contextual (maxSteps := 3000000) only [↓code_seq, ↓code_region, ↓code_ret, ↓ops_nil, ↓ops_cons, run_none, ↓run0_v, ↓run0_h, ↓seqK_normal, ↓blkK_exit, ↓retK_ret, put_same, put_ne, put_none, ev_tmp, o_move, o_assign, o_slice, g_none, resultsOf, oneOrAll, Option.map_some, Option.map_none, ↓reduceIte, Nat.reduceEqDiff, not_false_eq_true, reduceCtorEq, ne_eq, run0_h, e0, e5, o_clear, q1, q2, q3]
  · refine ⟨0, i + 1, i, ss, by omega, ?_, ?_, ?_, ?_, ?_, ?_, ?_, ?_, ?_, ?_, ?_, ?_, ?_⟩
    · omega
    · exact hr
    · rfl
    · exact (filter_take i2).symm
    · rfl
    · omega
    · omega
    · rfl
    · exact fun _ _ => rfl
    · simp only [put_ne, env0_at, Option.getD_some, not_false_eq_true, reduceCtorEq, List.getElem?_cons_zero, ne_eq, c7]
    · simp only [put_ne, env0_at, Option.getD_some, Nat.reduceEqDiff, not_false_eq_true, List.getElem?_cons_zero, List.getElem?_cons_succ, ne_eq, c7]
    · simp only [put_same, put_ne, Nat.reduceEqDiff, not_false_eq_true, ne_eq, c7]
    · simp only [put_same, c7]
end Go.AM.X
