/- Printers: the parts of a tick. Own work. -/
import Derived.Test.YtleefbnanliliaaDoorPpgC
namespace Go.AM.X
open Go Go.AM Go.Proofs Go.AM.Sx
set_option maxHeartbeats 3200000
set_option maxRecDepth 100000
set_option linter.unusedVariables false
theorem wcs_set : ∀ (ws : List Wt) (i : Nat) (w : Wt) (x : Int), ws[i]? = some w → (wcs ws).set (i * 3 + 1) (.int .i64 x) = wcs (ws.set i { w with w := x })
  | [], i, w, x, h => by simp at h
  | u :: ws, 0, w, x, h => by
    simp at h; subst h
    simp [wcs, Wt.enc]
  | u :: ws, i + 1, w, x, h => by
    have ih := wcs_set ws i w x (by simpa using h)
    unfold wcs at ih ⊢
    rw [List.set_cons_succ, List.flatMap_cons, List.flatMap_cons, ← ih, show (i + 1) * 3 + 1 = i * 3 + 1 + 3 by omega]
    rfl
theorem take3 {cs : List AV} {o : Nat} {a b c : AV} (h : (cs.drop o).take 3 = [a, b, c]) : cs[o]? = some a ∧ cs[o + 1]? = some b ∧ cs[o + 2]? = some c := by
  have h0 := congrArg (fun l => l[0]?) h
  have h1 := congrArg (fun l => l[1]?) h
  have h2 := congrArg (fun l => l[2]?) h
  simp [List.getElem?_drop] at h0 h1 h2
  exact ⟨h0, h1, h2⟩
theorem setW {h : AH} {v : AV} {ws : List Wt} {i : Nat} {w : Wt} (x : Int) (hr : RowC 3 h v ws.length (wcs ws)) (hw : ws[i]? = some w) :
    ∃ b cs, aIndexAddr T 70 v (.int .i64 (i : Nat)) = some (.ptr b (i * 3)) ∧ h.get b = some (.cells cs .own) ∧ i * 3 + 1 < cs.length ∧ cs[i * 3 + 1]? = some (.int .i64 w.w) ∧
      RowC 3 (h.put b (.cells (cs.set (i * 3 + 1) (.int .i64 x)) .own)) v (ws.set i { w with w := x }).length (wcs (ws.set i { w with w := x })) ∧ (∀ c, offRow v c → c ≠ b) ∧ (∀ c, (∀ b o l k z x, v = .sl b o l k z x → c ≠ b) → c ≠ b) := by
  have hi := (List.getElem?_eq_some_iff.1 hw).1
  rcases hr with ⟨rfl, h0, _⟩ | ⟨b, cap, ex, rest, rfl, h1, h2, h3, h4⟩
  · omega
  obtain ⟨b', rest', ⟨cap', ex', hv⟩, g1, g2, g3⟩ := RowC.at_ (h := h) (cs := wcs ws) T70 d70 T81 s81 (.inr ⟨b, cap, ex, rest, rfl, h1, h2, h3, h4⟩) hi
  cases hv
  refine ⟨b, wcs ws ++ rest, g1, h4, by rw [List.length_append, wcs_len]; omega, (take3 (wcs_at hw rest)).2.1, .inr ⟨b, cap, ex, rest, by rw [List.length_set], by rw [wcs_len], ?_, h3, ?_⟩, fun c ho => ho _ _ _ _ _ _ rfl, fun c ho => ho _ _ _ _ _ _ rfl⟩
  · rw [wcs_len, List.length_set]; rw [wcs_len] at h2; exact h2
  · rw [AH.get_put, if_pos rfl, List.set_append_left _ _ (by rw [wcs_len]; omega), wcs_set ws i w x hw]
def incW (w : Wt) : Wt := { w with w := w.w + 1 }
def incS (s : Sv) : Sv := { s with s := s.s + 1 }
theorem OkP.incW {h : AH} {p i : Nat} {P : Pr} {w : Wt} (hP : OkP h p P) (hw : P.ws[i]? = some w) :
    ∃ b cs, aIndexAddr T 70 P.wv (.int .i64 (i : Nat)) = some (.ptr b (i * 3)) ∧ h.get b = some (.cells cs .own) ∧ i * 3 + 1 < cs.length ∧ cs[i * 3 + 1]? = some (.int .i64 w.w) ∧
      OkP (h.put b (.cells (cs.set (i * 3 + 1) (.int .i64 (w.w + 1))) .own)) p { P with ws := P.ws.set i (X.incW w) } ∧ Stp h (h.put b (.cells (cs.set (i * 3 + 1) (.int .i64 (w.w + 1))) .own)) p P { P with ws := P.ws.set i (X.incW w) } := by
  obtain ⟨b, cs, g1, g2, g3, g4, g5, g6, _⟩ := setW (w.w + 1) hP.w hw
  have hpb : p ≠ b := g6 p hP.wp
  have := hP.core_w (v := P.wv) (ws := P.ws.set i (X.incW w)) (h5 := h.put b (.cells (cs.set (i * 3 + 1) (.int .i64 (w.w + 1))) .own)) (by rw [AH.get_put, if_neg hpb]; exact hP.g) g5 (Nat.le_refl _) (fun c _ _ ho => by rw [AH.get_put, if_neg (g6 c ho)]) (fun b o l k z x hv => .inr ⟨_, _, _, _, _, hv⟩)
    (fun x hx => by
      rcases List.mem_or_eq_of_mem_set hx with h | h
      · exact hP.wb x h
      · subst h; exact hP.wb w (List.mem_of_getElem? hw)) (by rw [List.length_set]; exact hP.wl)
  exact ⟨b, cs, g1, g2, g3, g4, this.1, this.2⟩
theorem set_same {α β : Type} (f : α → β) (l : List α) (i : Nat) (a a2 : α) (h : l[i]? = some a) (hf : f a2 = f a) : (l.set i a2).map f = l.map f := by
  apply List.ext_getElem?
  intro j
  rw [List.getElem?_map, List.getElem?_map, List.getElem?_set]
  by_cases hij : i = j
  · subst hij
    have := (List.getElem?_eq_some_iff.1 h).1
    rw [if_pos rfl, if_pos this, h]
    simp [hf]
  · rw [if_neg hij]
theorem OkP.incS {h : AH} {p i : Nat} {P : Pr} {s : Sv} (hP : OkP h p P) (hs : P.ss[i]? = some s) :
    OkP (h.put s.a (.cells (X.incS s).enc .own)) p { P with ss := P.ss.set i (X.incS s) } ∧ Stp h (h.put s.a (.cells (X.incS s).enc .own)) p P { P with ss := P.ss.set i (X.incS s) } := by
  have hm := List.mem_of_getElem? hs
  have ha := hP.ap s hm
  have hb := hP.b s hm
  have hids : (P.ss.set i (X.incS s)).map Sv.a = P.ss.map Sv.a := set_same _ _ _ _ _ hs rfl
  have hsc : scs (P.ss.set i (X.incS s)) = scs P.ss := set_same _ _ _ _ _ hs rfl
  refine hP.core_s (v := P.sv) (ss := P.ss.set i (X.incS s)) (by rw [AH.get_put, if_neg ha.1]; exact hP.g) ?_ (Nat.le_refl _) (fun c _ _ _ hc => by rw [AH.get_put, if_neg (hc s hm)]) (fun b o l k z x hv => .inr ⟨_, _, _, _, _, hv⟩) ?_ (by rw [hids]; exact hP.nd) (by rw [List.length_set]; exact hP.sl)
  · rw [hsc, List.length_set]
    exact hP.s.keep (Nat.le_refl _) fun b o l k z x hv => by rw [AH.get_put, if_neg (fun e => ha.2.2 _ _ _ _ _ _ hv e.symm)]
  · intro x hx
    obtain ⟨j, hj⟩ := List.mem_iff_getElem?.1 hx
    rw [List.getElem?_set] at hj
    by_cases hij : i = j
    · subst hij
      rw [if_pos rfl] at hj
      split at hj
      · cases hj
        exact ⟨hb.1, by unfold Sv.ok; rw [AH.get_put, if_pos (show (X.incS s).a = s.a from rfl)], ha.1, ha.2.1, ha.2.2, .inr ⟨s, hm, rfl⟩⟩
      · cases hj
    · rw [if_neg hij] at hj
      have hxm := List.mem_of_getElem? hj
      have hne : x.a ≠ s.a := by
        intro e
        have hi := (List.getElem?_eq_some_iff.1 hs).1
        exact hij ((List.getElem?_inj (l := P.ss.map Sv.a) (by rw [List.length_map]; exact hi) hP.nd).1 (by rw [List.getElem?_map, List.getElem?_map, hs, hj]; simp [e]))
      have ha' := hP.ap x hxm
      have hb' := hP.b x hxm
      exact ⟨hb'.1, by unfold Sv.ok; rw [AH.get_put, if_neg hne]; exact hb'.2, ha'.1, ha'.2.1, ha'.2.2, .inr ⟨x, hxm, rfl⟩⟩
def newS (a : Nat) (w : Wt) : Sv := ⟨a, w.c, w.b, 0, 0, 0, .nils⟩
theorem OkP.serve {h : AH} {p : Nat} {P : Pr} (hP : OkP h p P) (w : Wt) (hl : P.ss.length < 100) :
    ∃ v' h5, aAppend T 71 71 P.sv (.sl (h.next + 1) 0 1 1 1 true) ((h.alloc (.cells [.int .i64 w.c, w.b, .int .i64 0, .int .i64 0, .int .i64 0, .nils] .own)).alloc (.cells [.ptr h.next 0] .own)) = some (v', h5) ∧ h5.get p = some P.blk ∧ v'.cells = some [v'] ∧ v'.one = true ∧
      OkP (h5.put p ({ P with sv := v', ss := P.ss ++ [newS h.next w] } : Pr).blk) p { P with sv := v', ss := P.ss ++ [newS h.next w] } ∧ Stp h (h5.put p ({ P with sv := v', ss := P.ss ++ [newS h.next w] } : Pr).blk) p P { P with sv := v', ss := P.ss ++ [newS h.next w] } := by
  obtain ⟨hb, hhb⟩ : ∃ hb, hb = h.alloc (.cells [.int .i64 w.c, w.b, .int .i64 0, .int .i64 0, .int .i64 0, .nils] .own) := ⟨_, rfl⟩
  have hnx : hb.next = h.next + 1 := by rw [hhb]; simp
  have hg : Grow h hb := by rw [hhb]; exact Grow.alloc _ _
  have hga : hb.get h.next = some (.cells (newS h.next w).enc .own) := by rw [hhb, AH.get_alloc, if_pos rfl]; rfl
  have hPb := hP.grow hg
  obtain ⟨v', h5, q1, q2, q3, q4, q5⟩ := hPb.s.push (new := [.ptr h.next 0]) T71 d71 T82 s82 (by decide) (by rw [b82]; decide) rfl rfl (by rw [b82]; simp [maxBytes]; omega)
  rw [hnx, hhb] at q1
  obtain ⟨u1, u2⟩ := q2.cells
  have hsva : offRow P.sv h.next := fun b o l k z x hv e => by have := hP.s.lt hv; omega
  have hwva : offRow P.wv h.next := fun b o l k z x hv e => by have := hP.w.lt hv; omega
  have hsh : ∀ b o l k z x, v' = .sl b o l k z x → h.next < b ∨ ∃ o l k z x, P.sv = .sl b o l k z x := fun b o l k z x hv => by
    rcases q5 _ _ _ _ _ _ hv with h | h
    · exact .inl (by omega)
    · exact .inr h
  have hlt := hP.lt
  have hv'a : ∀ c, c ≤ h.next → offRow P.sv c → offRow v' c := fun c hc ho b o l k z x hv => by
    rcases hsh _ _ _ _ _ _ hv with h | ⟨_, _, _, _, _, h⟩
    · omega
    · exact ho _ _ _ _ _ _ h
  have := hP.set_s (h4 := h5) (v := v') (ss := P.ss ++ [newS h.next w]) (by rw [List.length_append, show scs (P.ss ++ [newS h.next w]) = scs P.ss ++ [.ptr h.next 0] by simp [scs, newS]]; exact q2) (by omega) (fun c hc ho _ => by rw [q4 c (by omega) ho, hg.2 c hc]) (fun b o l k z x hv => by
      rcases hsh _ _ _ _ _ _ hv with h | h
      · exact .inl (by omega)
      · exact .inr h) (fun x hx => by
      rcases List.mem_append.1 hx with hx | hx
      · have r1 := hP.b x hx
        have r2 := hP.ap x hx
        exact ⟨by omega, by unfold Sv.ok; rw [q4 _ (by omega) r2.2.2, hg.2 _ r1.1]; exact r1.2, r2.1, r2.2.1, hv'a _ (by omega) r2.2.2, .inr ⟨x, hx, rfl⟩⟩
      · rw [List.mem_singleton] at hx
        subst hx
        refine ⟨by show h.next < _; omega, ?_, by show p ≠ h.next; omega, hwva, hv'a _ (Nat.le_refl _) hsva, .inl (Nat.le_refl _)⟩
        unfold Sv.ok
        show h5.get h.next = _
        rw [q4 _ (by omega) hsva]; exact hga)
    (by
      rw [List.map_append, List.nodup_append]
      refine ⟨hP.nd, by simp, fun a ha b hb' => ?_⟩
      obtain ⟨x, hx, rfl⟩ := List.mem_map.1 ha
      simp [newS] at hb'
      have := (hP.b x hx).1
      omega) (by rw [List.length_append]; simp; omega)
  exact ⟨v', h5, q1, by rw [q4 p (by omega) hP.sp, hg.2 p hlt]; exact hP.g, u1, u2, this.1, this.2⟩
end Go.AM.X
namespace Go.AM.X
open Go Go.AM Go.Proofs Go.AM.Sx
set_option maxHeartbeats 6400000
set_option maxRecDepth 100000
set_option linter.unusedVariables false
theorem F13 : F 13 = some { body := (Tryd.f13.body.getD .skip), results := Tryd.f13.results.toList, rf := false } := by kernel_rfl
theorem R13 : regsOk T (Tryd.f13.body.getD .skip) = true := by kernel_rfl
def wAt (ws : List Wt) (i : Nat) : Int := ((ws[i]?).map Wt.w).getD 0
/-- The first of those that have waited longest, among the first. -/
def bestAt (ws : List Wt) : Nat → Nat
  | 0 => 0
  | i + 1 => if wAt ws (bestAt ws i) < wAt ws i then i else bestAt ws i
theorem bestAt_lt (ws : List Wt) : ∀ i, 0 < i → bestAt ws i < i
  | 0, h => by omega
  | 1, _ => by simp [bestAt]
  | i + 2, _ => by
    have := bestAt_lt ws (i + 1) (by omega)
    rw [bestAt]; split <;> omega
def best (ws : List Wt) : Nat := bestAt ws ws.length
def w0 : Wt := ⟨0, 0, .nilp⟩
/-- Those that are served next, and those that wait on. -/
def serveL : Nat → List Wt → List Wt × List Wt
  | 0, ws => ([], ws)
  | n + 1, ws => if ws = [] then ([], ws) else ((ws[best ws]?).getD w0 :: (serveL n (ws.eraseIdx (best ws))).1, (serveL n (ws.eraseIdx (best ws))).2)
def free (P : Pr) (l : List Sv) : Nat := (max P.r 1).toNat - l.length
def nEnc (w : Wt) : List AV := [.int .i64 w.c, w.b, .int .i64 0, .int .i64 0, .int .i64 0, .nils]
def kept (P : Pr) : List Sv := (P.ss.map incS).filter keepS
/-- What a tick makes of a printer. -/
def Ticked (P P2 : Pr) : Prop := P2.q = P.q ∧ P2.r = P.r ∧ P2.lf = P.lf ∧ P2.jv = P.jv ∧ P2.ws = (serveL (free P (kept P)) (P.ws.map incW)).2 ∧
  ∃ nw, P2.ss = kept P ++ nw ∧ nw.map Sv.enc = (serveL (free P (kept P)) (P.ws.map incW)).1.map nEnc
theorem run13 {I : Nat → Option (List AV → AH → Rs)} (h32 : I 32 = none) (h57 : I 57 = none) (h34 : I 34 = none) (h35 : I 35 = none) (h36 : I 36 = none) (h13 : I 13 = none) (h35 : I 35 = none) (m p : Nat) (P : Pr) (h : AH) (hP : OkP h p P) (hq : ¬ P.q = 0) (hr : 0 ≤ P.r ∧ P.r ≤ 20) (hwb : ∀ w ∈ P.ws, 0 ≤ w.w ∧ w.w ≤ 1000000000) (hsb : ∀ s ∈ P.ss, 0 ≤ s.s ∧ s.s ≤ 1000000000) :
    ∃ P2 h2, call F I T (m + 400) 13 [.ptr p 0] h = some (.int .i64 0, h2) ∧ OkP h2 p P2 ∧ Stp h h2 p P P2 ∧ Ticked P P2 := by
  have k1 := run32 h32 (m + 398) p P.q P.r P.wv P.sv P.jv P.lf h hP.g hq
  have hp : h.get p = some (.cells [.int .i64 P.q, .int .i64 P.r, P.wv, P.sv, P.jv, .int .i64 P.lf] .own) := hP.g
  have hlen : ∀ h, aLen T 70 P.wv h = some (.int .i64 (P.ws.length : Nat)) := fun h => hP.w.len T70 d70
  have hwl := hP.wl
  have hsl := hP.sl
  rw [call_F (by decide) h13 F13 rfl R13]; simp only [Tryd.f13, Option.getD]
  simp +contextual (maxSteps := 3000000) only [↓code_skip, ↓code_seq, ↓code_region, ↓code_cond, ↓code_block, ↓code_loop, aCond_bool, ↓ops_nil, ↓ops_cons, run_none, ↓run0_v, ↓run0_r, ↓seqK_normal, put_same, put_ne, env0_at, ev_tmp, ev_const, ev_func, oc_int, o_move, o_assign, o_call, o_len, o_load, o_nilCheck, o_fieldAddr, g_none, nil_ptr, Option.getD_some, ↓reduceIte, not_false_eq_true, Nat.reduceAdd, reduceCtorEq, List.getElem?_cons_zero, List.getElem?_cons_succ, Bool.false_eq_true, List.map_cons, List.map_nil, List.append_nil, List.nil_append, ne_eq, fa_ptr T73 p73_2 (by decide), load_p1 T70 a70, loadc_def, k1, hp, hlen, callV_fn (g := 32) (by decide)]
  refine iterL_wp (Q := fun r => ∃ P2 h2, r = some (.int .i64 0, h2) ∧ OkP h2 p P2 ∧ Stp h h2 p P P2 ∧ Ticked P P2) (N := P.ws.length) (Inv := fun k e h' => ∃ i L, k + i = P.ws.length ∧ OkP h' p {P with ws := L} ∧ Stp h h' p P {P with ws := L} ∧ L.length = P.ws.length ∧ L.take i = (P.ws.take i).map incW ∧ L.drop i = P.ws.drop i ∧ i ≤ P.ws.length ∧ e 0 = .ptr p 0 ∧ e 2 = .int .i64 0 ∧ e 16 = .int .i64 (P.ws.length : Nat) ∧ e 17 = .int .i64 (i : Nat)) ?_ ?_ (by omega)
  · rintro k e h' K' ⟨i, L, hk, hO, hS, hLl, ht, hd, hil, e0, e2, e16, e17⟩ hnext hexit
    by_cases hi : i < P.ws.length
    · have c1 : (i : Int) < (P.ws.length : Int) := by omega
      have hLx : L[i]? = some P.ws[i] := by
        have := congrArg (fun l => l[0]?) hd
        simpa [List.getElem?_drop, List.getElem?_eq_getElem hi] using this
      have hwb' := hwb _ (List.getElem_mem hi)
      have hp' : h'.get p = some (.cells [.int .i64 P.q, .int .i64 P.r, P.wv, P.sv, P.jv, .int .i64 P.lf] .own) := hO.g
      obtain ⟨b, cs, g1, g2, g3, g4, g5, g6⟩ := hO.incW hLx
      simp only at g1 g5 g6
      have c7 : IntKind.i64.wrap ((i : Int) + 1) = ((i + 1 : Nat) : Int) := by rw [wrap_i64 (by omega) (by omega)]; rfl
      have c8 : IntKind.i64.wrap ((P.ws[i]).w + 1) = (P.ws[i]).w + 1 := wrap_i64 (by omega) (by omega)
      have htk : P.ws.take (i + 1) = P.ws.take i ++ [P.ws[i]] := by rw [List.take_add_one, List.getElem?_eq_getElem hi]; rfl
      have hdd : L.drop (i + 1) = P.ws.drop (i + 1) := by
        have := congrArg (List.drop 1) hd
        rwa [List.drop_drop, List.drop_drop] at this
      simp +contextual (maxSteps := 3000000) only [↓code_skip, ↓code_seq, ↓code_region, ↓code_cond, ↓code_block, aCond_bool, ↓ops_nil, ↓ops_cons, run_none, ↓run0_v, ↓run0_h, ↓seqK_normal, ↓blkK_normal, put_same, put_ne, put_none, ev_tmp, ev_const, oc_int, o_move, o_assign, o_bin, o_load, o_store, o_nilCheck, o_fieldAddr, o_indexAddr, g_none, bin_add, bin_lss, nil_ptr, decide_eq_true_eq, ↓reduceIte, Nat.reduceEqDiff, not_false_eq_true, Nat.reduceAdd, reduceCtorEq, List.getElem?_cons_zero, List.getElem?_cons_succ, ne_eq, fa_ptr T73 p73_2 (by decide), load_p1 T70 a70, loadc_def, fa_ptr T81 p81_1 (by decide), load_p1 T3 a3, st_int T3 s3, stm_own, run0_h, e0, e16, e17, c1, hp', g1, g2, g3, g4, c7, c8]
      refine hnext (k - 1) _ _ (by omega) ⟨i + 1, L.set i (incW P.ws[i]), by omega, ?_, ?_, ?_, ?_, ?_, ?_, ?_, ?_, ?_, ?_⟩
      · exact g5
      · exact hS.trans g6
      · (rw [List.length_set]; exact hLl)
      · (rw [htk, List.map_append, ← ht, List.take_add_one, List.getElem?_set_self (by omega), List.take_set_of_le (Nat.le_refl _)]; rfl)
      · (rw [List.drop_set_of_lt (by omega)]; exact hdd)
      · omega
      · simp only [put_ne, not_false_eq_true, reduceCtorEq, ne_eq, e0]
      · simp only [put_ne, Nat.reduceEqDiff, not_false_eq_true, ne_eq, e2]
      · simp only [put_ne, Nat.reduceEqDiff, not_false_eq_true, ne_eq, e16]
      · simp only [put_same]
    · have c1 : ¬ (i : Int) < (P.ws.length : Int) := by omega
      have hin : i = P.ws.length := by omega
      have hL : L = P.ws.map incW := by
        rw [hin, List.take_length, List.take_of_length_le (by omega)] at ht
        exact ht
      subst hL
      have hp' : h'.get p = some (.cells [.int .i64 P.q, .int .i64 P.r, P.wv, P.sv, P.jv, .int .i64 P.lf] .own) := hO.g
      have hlen2 : ∀ h, aLen T 71 P.sv h = some (.int .i64 (P.ss.length : Nat)) := fun h => hP.s.len T71 d71
      simp +contextual (maxSteps := 3000000) only [↓code_seq, ↓code_region, ↓code_cond, ↓code_exit, aCond_bool, ↓ops_nil, ↓ops_cons, run_none, ↓run0_v, ↓seqK_normal, ↓seqK_exit, put_same, ev_tmp, o_bin, g_none, bin_lss, decide_eq_true_eq, ↓reduceIte, e16, e17, c1]
      refine hexit _ _ _ (by simp) ?_
      have hO1 := hO
      have hS1 := hS
      have hh1 := h'
      simp +contextual (maxSteps := 3000000) only [↓code_seq, ↓code_region, ↓code_block, ↓code_loop, ↓ops_nil, ↓ops_cons, run_none, ↓run0_v, ↓seqK_normal, ↓blkK_exit, put_same, put_ne, ev_tmp, ev_const, oc_int, o_move, o_len, o_load, o_nilCheck, o_fieldAddr, g_none, nil_ptr, ↓reduceIte, not_false_eq_true, Nat.reduceAdd, reduceCtorEq, List.getElem?_cons_zero, List.getElem?_cons_succ, ne_eq, loadc_def, fa_ptr T73 p73_3 (by decide), load_p1 T71 a71, e0, hp', hlen2]
      refine iterL_wp (Q := fun r => ∃ P2 h2, r = some (.int .i64 0, h2) ∧ OkP h2 p P2 ∧ Stp h h2 p P P2 ∧ Ticked P P2) (N := P.ss.length) (Inv := fun k e h' => ∃ i M, k + i = P.ss.length ∧ OkP h' p {P with ws := P.ws.map incW, ss := M} ∧ Stp h h' p P {P with ws := P.ws.map incW, ss := M} ∧ M.length = P.ss.length ∧ M.take i = (P.ss.take i).map incS ∧ M.drop i = P.ss.drop i ∧ i ≤ P.ss.length ∧ e 0 = .ptr p 0 ∧ e 2 = .int .i64 0 ∧ e 35 = P.sv ∧ e 36 = .int .i64 (P.ss.length : Nat) ∧ e 37 = .int .i64 (i : Nat)) ?_ ?_ (by omega)
      · rintro k e h' K' ⟨i, M, hk, hO, hS, hLl, ht, hd, hil, e0, e2, e35, e36, e37⟩ hnext hexit
        by_cases hi : i < P.ss.length
        · have c1 : (i : Int) < (P.ss.length : Int) := by omega
          have hLx : M[i]? = some P.ss[i] := by
            have := congrArg (fun l => l[0]?) hd
            simpa [List.getElem?_drop, List.getElem?_eq_getElem hi] using this
          have hsb' := hsb _ (List.getElem_mem hi)
          obtain ⟨b, cs, bk, g1, g2, g3⟩ := loadS hO.s hLx
          have g4 := (hO.b _ (List.mem_of_getElem? hLx)).2
          have gS := hO.incS hLx
          simp only at g1 gS
          unfold Sv.ok Sv.enc at g4
          unfold Sv.enc at gS
          have c7 : IntKind.i64.wrap ((i : Int) + 1) = ((i + 1 : Nat) : Int) := by rw [wrap_i64 (by omega) (by omega)]; rfl
          have c8 : IntKind.i64.wrap ((P.ss[i]).s + 1) = (P.ss[i]).s + 1 := wrap_i64 (by omega) (by omega)
          have htk : P.ss.take (i + 1) = P.ss.take i ++ [P.ss[i]] := by rw [List.take_add_one, List.getElem?_eq_getElem hi]; rfl
          have hdd : M.drop (i + 1) = P.ss.drop (i + 1) := by
            have := congrArg (List.drop 1) hd
            rwa [List.drop_drop, List.drop_drop] at this
          simp +contextual (maxSteps := 3000000) only [↓code_skip, ↓code_seq, ↓code_region, ↓code_cond, ↓code_block, aCond_bool, ↓ops_nil, ↓ops_cons, run_none, ↓run0_v, ↓seqK_normal, ↓blkK_normal, put_same, put_ne, put_none, ev_tmp, ev_const, oc_int, o_move, o_assign, o_bin, o_load, o_store, o_nilCheck, o_fieldAddr, o_indexAddr, g_none, bin_add, bin_lss, nil_ptr, decide_eq_true_eq, ↓reduceIte, Nat.reduceEqDiff, not_false_eq_true, Nat.reduceAdd, List.getElem?_cons_zero, List.getElem?_cons_succ, ne_eq, loadc_def, load_p1 T3 a3, st_int T3 s3, stm_own, load_p1 T82 a82, fa_ptr T84 p84_4 (by decide), List.length_cons, List.length_nil, e35, e36, e37, c1, g1, g2, g3, g4, c7, c8]
          refine hnext (k - 1) _ _ (by omega) ⟨i + 1, M.set i (incS P.ss[i]), by omega, ?_, ?_, ?_, ?_, ?_, ?_, ?_, ?_, ?_, ?_, ?_⟩
          · exact gS.1
          · exact hS.trans gS.2
          · (rw [List.length_set]; exact hLl)
          · (rw [htk, List.map_append, ← ht, List.take_add_one, List.getElem?_set_self (by omega), List.take_set_of_le (Nat.le_refl _)]; rfl)
          · (rw [List.drop_set_of_lt (by omega)]; exact hdd)
          · omega
          · simp only [put_ne, not_false_eq_true, reduceCtorEq, ne_eq, e0]
          · simp only [put_ne, Nat.reduceEqDiff, not_false_eq_true, ne_eq, e2]
          · simp only [put_ne, Nat.reduceEqDiff, not_false_eq_true, ne_eq, e35]
          · simp only [put_ne, Nat.reduceEqDiff, not_false_eq_true, ne_eq, e36]
          · simp only [put_same]
        · have c1 : ¬ (i : Int) < (P.ss.length : Int) := by omega
          have hin : i = P.ss.length := by omega
          have hM : M = P.ss.map incS := by
            rw [hin, List.take_length, List.take_of_length_le (by omega)] at ht
            exact ht
          subst hM
          have hp' : h'.get p = some (.cells [.int .i64 P.q, .int .i64 P.r, P.wv, P.sv, P.jv, .int .i64 P.lf] .own) := hO.g
          obtain ⟨u2, h3, q1, q2, q3, q4, q5⟩ := run34 h57 h34 h35 (m + 98) P.sv (P.ss.map incS) h' hO.s (by rw [List.length_map]; omega) fun s hs => ⟨(hO.b s hs).2, (hO.ap s hs).2.2⟩
          have hp3 : h3.get p = some (.cells [.int .i64 P.q, .int .i64 P.r, P.wv, P.sv, P.jv, .int .i64 P.lf] .own) := by rw [q4 p hO.sp]; exact hp'
          have hkl : (kept P).length ≤ 100 := by
            have := (List.filter_sublist (l := P.ss.map incS) (p := keepS)).length_le
            rw [List.length_map] at this
            unfold kept; omega
          have hK := hO.set_s (h4 := h3) (v := u2) (ss := kept P) q2 (by omega) (fun c _ ho _ => q4 c ho) (fun b o l k z x hv => .inr (q5 _ _ _ _ _ _ hv)) (fun x hx => by
            have hx' := (List.filter_sublist (l := P.ss.map incS) (p := keepS)).subset hx
            have r1 := hO.b x hx'
            have r2 := hO.ap x hx'
            refine ⟨by omega, by unfold Sv.ok; rw [q4 _ r2.2.2]; exact r1.2, r2.1, r2.2.1, off_new (h := h') (fun b o l k z x hv => .inr (q5 _ _ _ _ _ _ hv)) r1.1 r2.2.2, .inr ⟨x, hx', rfl⟩⟩) (((List.filter_sublist (l := P.ss.map incS) (p := keepS)).map Sv.a).nodup hO.nd) hkl
          obtain ⟨u3, u4⟩ := q2.cells
          simp +contextual (maxSteps := 3000000) only [↓code_seq, ↓code_region, ↓code_cond, ↓code_exit, aCond_bool, ↓ops_nil, ↓ops_cons, run_none, ↓run0_v, ↓seqK_normal, ↓seqK_exit, put_same, ev_tmp, o_bin, g_none, bin_lss, decide_eq_true_eq, ↓reduceIte, e36, e37, c1]
          refine hexit _ _ _ (by simp) ?_
          simp +contextual (maxSteps := 3000000) only [↓code_seq, ↓code_region, ↓code_block, ↓code_loop, ↓ops_nil, ↓ops_cons, run_none, ↓run0_v, ↓run0_h, ↓run0_r, ↓seqK_normal, ↓blkK_exit, put_same, put_ne, put_none, ev_tmp, ev_func, o_move, o_call, o_load, o_store, o_nilCheck, o_fieldAddr, g_none, nil_ptr, ↓reduceIte, Nat.reduceEqDiff, not_false_eq_true, Nat.reduceAdd, reduceCtorEq, List.getElem?_cons_zero, List.getElem?_cons_succ, List.map_cons, List.map_nil, List.append_nil, List.nil_append, ne_eq, loadc_def, run0_h, fa_ptr T73 p73_3 (by decide), load_p1 T71 a71, e0, hp', q1, callV_fn (g := 34) (by decide), store_1 T71 s71 u3 u4 hp3 (show 3 < 6 by decide)]
          have hO2 := hK.1
          have hS2 := hS.trans hK.2
          refine iterL_wp (Q := fun r => ∃ P2 h2, r = some (.int .i64 0, h2) ∧ OkP h2 p P2 ∧ Stp h h2 p P P2 ∧ Ticked P P2) (N := P.ws.length) (Inv := fun k e h' => ∃ i Q nw A, k + i = P.ws.length ∧ OkP h' p Q ∧ Stp h h' p P Q ∧ (Q.q = P.q ∧ Q.r = P.r ∧ Q.lf = P.lf ∧ Q.jv = P.jv) ∧ Q.ss = kept P ++ nw ∧ nw.map Sv.enc = A.map nEnc ∧ serveL (free P (kept P)) (P.ws.map incW) = (A ++ (serveL (free P (kept P) - A.length) Q.ws).1, (serveL (free P (kept P) - A.length) Q.ws).2) ∧ Q.ws.length + i = P.ws.length ∧ e 0 = .ptr p 0 ∧ e 2 = .int .i64 0) ?_ ?_ (by omega)
          · rintro k e h' K' ⟨i, Q, nw, A, hk, hO, hS, hQ, hQs, hnw, hsv, hQl, e0, e2⟩ hnext hexit
            have hp' : h'.get p = some (.cells [.int .i64 Q.q, .int .i64 Q.r, Q.wv, Q.sv, Q.jv, .int .i64 Q.lf] .own) := hO.g
            have hlenW : ∀ h, aLen T 70 Q.wv h = some (.int .i64 (Q.ws.length : Nat)) := fun h => hO.w.len T70 d70
            have hlenS : ∀ h, aLen T 71 Q.sv h = some (.int .i64 (Q.ss.length : Nat)) := fun h => hO.s.len T71 d71
            have hAl : A.length = nw.length := by have := congrArg List.length hnw; simpa using this.symm
            have hsl2 : Q.ss.length = (kept P).length + A.length := by rw [hQs, List.length_append, hAl]
            have hmx : aMax (.int .i64 Q.r) (.int .i64 1) = some (.int .i64 (max Q.r 1)) := by
              simp only [aMax]
              first
              | rfl
              | (congr 2; omega)
              | (split <;> congr 2 <;> omega)
              | (simp; omega)
            have hQr := hQ.2.1
            have hfin : free P (kept P) - A.length = 0 ∨ Q.ws = [] → Ticked P Q := by
              intro hz
              have hE : serveL (free P (kept P) - A.length) Q.ws = ([], Q.ws) := by
                rcases hz with hz | hz
                · rw [hz]; rfl
                · rw [hz]; cases free P (kept P) - A.length <;> simp [serveL]
              rw [hE, List.append_nil] at hsv
              unfold Ticked
              rw [hsv]
              exact ⟨hQ.1, hQ.2.1, hQ.2.2.1, hQ.2.2.2, rfl, nw, hQs, hnw⟩
            by_cases d1 : (Q.ss.length : Int) < max Q.r 1
            · by_cases d2 : (0 : Int) < (Q.ws.length : Int)
              · simp +contextual (maxSteps := 3000000) only [↓code_skip, ↓code_seq, ↓code_region, ↓code_cond, ↓code_block, ↓code_loop, aCond_bool, ↓ops_nil, ↓ops_cons, run_none, run_someT, ↓run0_v, ↓seqK_normal, put_same, put_ne, ev_tmp, ev_const, oc_int, oc_bool, o_move, o_assign, o_pick, o_bin, o_len, o_load, o_nilCheck, o_fieldAddr, o_max, g_none, g_some, pick_bool, bin_lss, bin_gtr, nil_ptr, Option.bind_some, decide_eq_true_eq, ↓reduceIte, Nat.reduceEqDiff, not_false_eq_true, Nat.reduceAdd, reduceCtorEq, List.getElem?_cons_zero, List.getElem?_cons_succ, List.getElem?_toArray, gt_iff_lt, ne_eq, fa_ptr T73 p73_2 (by decide), load_p1 T70 a70, loadc_def, load_p1 T3 a3, fa_ptr T73 p73_3 (by decide), load_p1 T71 a71, fa_ptr T73 p73_1 (by decide), e0, hp', hlenW, hlenS, d1, d2, hmx]
                have hnextO := hnext (k - 1)
                have hkO := hk
                have hOO := hO
                have hSO := hS
                obtain ⟨hh, hhh⟩ : ∃ hh, hh = h' := ⟨_, rfl⟩
                rw [← hhh] at hOO hSO
                refine iterL_wp (Q := fun r => ∃ P2 h2, r = some (.int .i64 0, h2) ∧ OkP h2 p P2 ∧ Stp h h2 p P P2 ∧ Ticked P P2) (N := Q.ws.length) (Inv := fun k e h' => ∃ y, k + y = Q.ws.length ∧ Grow hh h' ∧ y ≤ Q.ws.length ∧ e 0 = .ptr p 0 ∧ e 2 = .int .i64 0 ∧ e 6 = .int .i64 (bestAt Q.ws y : Nat) ∧ e 79 = Q.wv ∧ e 80 = .int .i64 (Q.ws.length : Nat) ∧ e 81 = .int .i64 (y : Nat)) ?_ ?_ (by omega)
                · rintro k e h' K' ⟨y, hk, hg, hy, e0, e2, e6, e79, e80, e81⟩ hnext hexit
                  by_cases hi : y < Q.ws.length
                  · have d3 : (y : Int) < (Q.ws.length : Int) := by omega
                    obtain ⟨w, hw⟩ : ∃ w, Q.ws[y]? = some w := ⟨Q.ws[y], List.getElem?_eq_getElem hi⟩
                    obtain ⟨b, cs, bk, g1, g2, g3, g4⟩ := loadW (hOO.grow hg).w hw
                    unfold Wt.enc at g4
                    obtain ⟨hz, y1, y2, y3, y4⟩ := store_w h' w (hOO.wb w (List.mem_of_getElem? hw))
                    have hgz := hg.trans y4
                    have hOz := hOO.grow hgz
                    have hpz : hz.get p = some (.cells [.int .i64 Q.q, .int .i64 Q.r, Q.wv, Q.sv, Q.jv, .int .i64 Q.lf] .own) := hOz.g
                    obtain ⟨f, hf⟩ : ∃ f, f = bestAt Q.ws y := ⟨_, rfl⟩
                    have hfl : f < Q.ws.length := by
                      rcases Nat.eq_zero_or_pos y with h0 | h0
                      · subst h0; rw [hf]; show 0 < _; omega
                      · have := bestAt_lt Q.ws y h0; omega
                    obtain ⟨wf, hwf⟩ : ∃ w, Q.ws[f]? = some w := ⟨Q.ws[f], List.getElem?_eq_getElem hfl⟩
                    obtain ⟨b', cs', bk', q1, q2, q3, q4⟩ := loadW hOz.w hwf
                    unfold Wt.enc at q4
                    have q5 := (take3 q4).2.1
                    rw [← hf] at e6
                    have hb : bestAt Q.ws (y + 1) = if wf.w < w.w then y else f := by
                      rw [bestAt, ← hf]
                      simp only [wAt, hw, hwf, Option.map_some, Option.getD_some]
                    have c7 : IntKind.i64.wrap ((y : Int) + 1) = ((y + 1 : Nat) : Int) := by have := hOO.wl; rw [wrap_i64 (by omega) (by omega)]; rfl
                    by_cases d4 : wf.w < w.w
                    · rw [if_pos d4] at hb
                      simp +contextual (maxSteps := 3000000) only [↓code_skip, ↓code_seq, ↓code_region, ↓code_cond, ↓code_block, aCond_bool, ↓ops_nil, ↓ops_cons, run_none, ↓run0_v, ↓run0_h, ↓run0_r, ↓seqK_normal, ↓blkK_normal, put_same, put_ne, put_none, ev_tmp, ev_const, oc_int, o_move, o_assign, o_bin, o_alloc, o_load, o_store, o_nilCheck, o_fieldAddr, o_indexAddr, g_none, bin_add, bin_lss, bin_gtr, nil_ptr, Option.map_some, decide_eq_true_eq, ↓reduceIte, Nat.reduceEqDiff, not_false_eq_true, Nat.reduceAdd, reduceCtorEq, Nat.succ_ne_self, List.getElem?_cons_zero, List.getElem?_cons_succ, gt_iff_lt, ne_eq, fa_ptr T73 p73_2 (by decide), load_p1 T70 a70, loadc_def, fa_ptr T81 p81_1 (by decide), load_p1 T3 a3, run0_h, load_pA T81 a81, s81, loadn_def, alloc_t T81, z81, e0, e6, e79, e80, e81, d3, g1, g2, g3, g4, y1, y3, hpz, q1, q2, q5, d4, c7]
                      refine hnext (k - 1) _ _ (by omega) ⟨y + 1, by omega, ?_, ?_, ?_, ?_, ?_, ?_, ?_, ?_⟩
                      · exact hgz
                      · omega
                      · simp only [put_ne, not_false_eq_true, reduceCtorEq, ne_eq, e0]
                      · simp only [put_ne, Nat.reduceEqDiff, not_false_eq_true, ne_eq, e2]
                      · simp only [put_same, put_ne, Nat.reduceEqDiff, not_false_eq_true, ne_eq]; rw [hb]
                      · simp only [put_ne, Nat.reduceEqDiff, not_false_eq_true, ne_eq, e79]
                      · simp only [put_ne, Nat.reduceEqDiff, not_false_eq_true, ne_eq, e80]
                      · simp only [put_same]
                    · rw [if_neg d4] at hb
                      simp +contextual (maxSteps := 3000000) only [↓code_skip, ↓code_seq, ↓code_region, ↓code_cond, ↓code_block, aCond_bool, ↓ops_nil, ↓ops_cons, run_none, ↓run0_v, ↓run0_h, ↓run0_r, ↓seqK_normal, ↓blkK_normal, put_same, put_ne, put_none, ev_tmp, ev_const, oc_int, o_move, o_assign, o_bin, o_alloc, o_load, o_store, o_nilCheck, o_fieldAddr, o_indexAddr, g_none, bin_add, bin_lss, bin_gtr, nil_ptr, Option.map_some, decide_eq_true_eq, ↓reduceIte, Nat.reduceEqDiff, not_false_eq_true, Nat.reduceAdd, reduceCtorEq, Nat.succ_ne_self, List.getElem?_cons_zero, List.getElem?_cons_succ, gt_iff_lt, ne_eq, fa_ptr T73 p73_2 (by decide), load_p1 T70 a70, loadc_def, fa_ptr T81 p81_1 (by decide), load_p1 T3 a3, run0_h, load_pA T81 a81, s81, loadn_def, alloc_t T81, z81, e0, e6, e79, e80, e81, d3, g1, g2, g3, g4, y1, y3, hpz, q1, q2, q5, d4, c7]
                      refine hnext (k - 1) _ _ (by omega) ⟨y + 1, by omega, ?_, ?_, ?_, ?_, ?_, ?_, ?_, ?_⟩
                      · exact hgz
                      · omega
                      · simp only [put_ne, not_false_eq_true, reduceCtorEq, ne_eq, e0]
                      · simp only [put_ne, Nat.reduceEqDiff, not_false_eq_true, ne_eq, e2]
                      · simp only [put_ne, Nat.reduceEqDiff, not_false_eq_true, ne_eq, e6]; rw [hb]
                      · simp only [put_ne, Nat.reduceEqDiff, not_false_eq_true, ne_eq, e79]
                      · simp only [put_ne, Nat.reduceEqDiff, not_false_eq_true, ne_eq, e80]
                      · simp only [put_same]
                  · have d3 : ¬ (y : Int) < (Q.ws.length : Int) := by omega
                    have hyl : y = Q.ws.length := by omega
                    subst hyl
                    have hfl : bestAt Q.ws Q.ws.length < Q.ws.length := bestAt_lt _ _ (by omega)
                    obtain ⟨f, hf⟩ : ∃ f, f = bestAt Q.ws Q.ws.length := ⟨_, rfl⟩
                    rw [← hf] at e6 hfl
                    have hOh := hOO.grow hg
                    obtain ⟨wf, hwf⟩ : ∃ w, Q.ws[f]? = some w := ⟨Q.ws[f], List.getElem?_eq_getElem hfl⟩
                    obtain ⟨b, cs, bk, g1, g2, g3, g4⟩ := loadW hOh.w hwf
                    unfold Wt.enc at g4
                    have hwfb := hOO.wb wf (List.mem_of_getElem? hwf)
                    obtain ⟨hz, y1, y2, y3, y4⟩ := store_w h' wf hwfb
                    have hgz := hg.trans y4
                    have hOz := hOO.grow hgz
                    have hph : h'.get p = some (.cells [.int .i64 Q.q, .int .i64 Q.r, Q.wv, Q.sv, Q.jv, .int .i64 Q.lf] .own) := hOh.g
                    have hpz : hz.get p = some (.cells [.int .i64 Q.q, .int .i64 Q.r, Q.wv, Q.sv, Q.jv, .int .i64 Q.lf] .own) := hOz.g
                    have hQwl := hOO.wl
                    obtain ⟨v2, h4, q1, q2, q3, q4, q5⟩ := run36 h36 (m + 398) f Q.wv Q.ws hz hOz.w hOO.wb hfl (by omega)
                    have hp4 : h4.get p = some (.cells [.int .i64 Q.q, .int .i64 Q.r, Q.wv, Q.sv, Q.jv, .int .i64 Q.lf] .own) := by rw [q4 p hOz.wp]; exact hpz
                    have hS5 := hOz.set_w (h4 := h4) q2 (by omega) (fun c _ ho => q4 c ho) (fun b o l k z x hv => .inr (q5 _ _ _ _ _ _ hv)) (fun x hx => hOO.wb x ((List.eraseIdx_sublist _ _).subset hx)) (by have := (List.eraseIdx_sublist Q.ws f).length_le; omega)
                    obtain ⟨h5, hh5⟩ : ∃ h5, h5 = h4.put p ({Q with wv := v2, ws := Q.ws.eraseIdx f} : Pr).blk := ⟨_, rfl⟩
                    rw [← hh5] at hS5
                    have hst : aStore T 70 (.ptr p 2) v2 h4 = some h5 := by
                      obtain ⟨u1, u2⟩ := q2.cells
                      rw [hh5, store_1 T70 s70 u1 u2 hp4 (by simp)]
                      rfl
                    have hp5 : h5.get p = some (.cells [.int .i64 Q.q, .int .i64 Q.r, v2, Q.sv, Q.jv, .int .i64 Q.lf] .own) := hS5.1.g
                    have ht9 : h5.get h'.next = some (.cells [.int .i64 wf.c, .int .i64 wf.w, wf.b] .own) := by
                      have := hOh.lt
                      rw [hh5, AH.get_put, if_neg (by omega), q4 _ (fun b o l k z x hv e => by have := hOh.w.lt hv; omega)]
                      exact y3
                    have hQr2 : Q.ss.length < 100 := by omega
                    obtain ⟨u2, h6, r1, r2, r3, r4, r5, r6⟩ := hS5.1.serve wf hQr2
                    simp only at r1 r5 r6
                    have hp6 : h6.get p = some (.cells [.int .i64 Q.q, .int .i64 Q.r, v2, Q.sv, Q.jv, .int .i64 Q.lf] .own) := r2
                    obtain ⟨h7, hh7⟩ : ∃ h7, h7 = h6.put p ({Q with wv := v2, ws := Q.ws.eraseIdx f, sv := u2, ss := Q.ss ++ [newS h5.next wf]} : Pr).blk := ⟨_, rfl⟩
                    have hst2 : aStore T 71 (.ptr p 3) u2 h6 = some h7 := by
                      rw [hh7, store_1 T71 s71 r3 r4 hp6 (by simp)]
                      rfl
                    rw [← hh7] at r5 r6
                    have c7 : IntKind.i64.wrap ((f : Int) + 1) = ((f + 1 : Nat) : Int) := by rw [wrap_i64 (by omega) (by omega)]; rfl
                    simp +contextual (maxSteps := 3000000) only [↓code_seq, ↓code_region, ↓code_cond, ↓code_exit, aCond_bool, ↓ops_nil, ↓ops_cons, run_none, ↓run0_v, ↓seqK_normal, ↓seqK_exit, put_same, ev_tmp, o_bin, g_none, bin_lss, decide_eq_true_eq, ↓reduceIte, e80, e81, d3]
                    refine hexit _ _ _ (by simp) ?_
                    rcases (show wf.b = .nilp ∨ ∃ b o, wf.b = .ptr b o from hwfb) with hv | ⟨b1, o1, hv⟩
                    · rw [hv] at g4 y1 y3 ht9 r1
                      simp +contextual (maxSteps := 3000000) only [↓code_seq, ↓code_region, ↓ops_nil, ↓ops_cons, run_none, ↓run0_v, ↓run0_h, ↓run0_r, ↓seqK_normal, ↓blkK_normal, ↓blkK_exit, put_same, put_ne, put_none, ev_tmp, ev_const, ev_func, oc_int, o_move, o_bin, o_call, o_alloc, o_box, o_build, o_buildSlice, o_load, o_store, o_nilCheck, o_fieldAddr, o_indexAddr, o_append, g_none, bin_add, nil_ptr, Option.bind_some, Option.map_some, ↓reduceIte, Nat.reduceEqDiff, not_false_eq_true, Nat.reduceAdd, Nat.reduceMul, reduceCtorEq, List.getElem?_cons_zero, List.getElem?_cons_succ, List.map_cons, List.map_nil, List.append_nil, List.nil_append, List.cons_append, AH.next_alloc, and_true, Nat.reduceLeDiff, Nat.le_refl, ne_eq, fa_ptr T73 p73_2 (by decide), load_p1 T70 a70, loadc_def, load_p1 T3 a3, run0_h, fa_ptr T73 p73_3 (by decide), load_p1 T71 a71, load_pA T81 a81, s81, loadn_def, alloc_t T81, z81, fa_ptr T81 p81_0 (by decide), fa_ptr T81 p81_2 (by decide), load_p1 T23 a23, build_struct T84 d84, z84, parts_eq, fillA, AV.cells, AH.splice, List.take_succ_cons, List.take_zero, List.drop_succ_cons, List.drop_zero, List.drop_nil, List.length_cons, List.length_nil, p84_0, p84_1, box_agg, buildSl T71 d71 T82 (n := 1) (by rw [s82]; decide), s82, z82, repl, e0, e6, g1, g2, g3, g4, hph, y1, hpz, q1, hst, hp5, ht9, r1, hst2, c7, callV_fn (g := 36) (by decide)]
                      have hn1 : free P (kept P) - A.length = (free P (kept P) - (A ++ [wf]).length) + 1 := by
                        rw [List.length_append, List.length_singleton]; unfold free; omega
                      have hne : Q.ws ≠ [] := by intro e; rw [e] at d2; simp at d2
                      refine hnextO _ _ (by omega) ⟨i + 1, ({Q with wv := v2, ws := Q.ws.eraseIdx f, sv := u2, ss := Q.ss ++ [newS h5.next wf]} : Pr), nw ++ [newS h5.next wf], A ++ [wf], by omega, r5, ((hSO.trans (Stp.grow p Q hgz)).trans hS5.2).trans r6, ⟨hQ.1, hQ.2.1, hQ.2.2.1, hQ.2.2.2⟩, ?_, ?_, ?_, ?_, ?_, ?_⟩
                      · show Q.ss ++ _ = _; rw [hQs, List.append_assoc]
                      · rw [List.map_append, List.map_append, hnw]; rfl
                      · rw [hsv, hn1]
                        show (A ++ (serveL _ Q.ws).1, _) = _
                        rw [serveL, if_neg hne, show best Q.ws = f from hf.symm, hwf]
                        simp
                      · show (Q.ws.eraseIdx f).length + _ = _
                        rw [List.length_eraseIdx, if_pos hfl]; omega
                      · simp only [put_ne, not_false_eq_true, reduceCtorEq, ne_eq, e0]
                      · simp only [put_ne, Nat.reduceEqDiff, not_false_eq_true, ne_eq, e2]
                    · rw [hv] at g4 y1 y3 ht9 r1
                      simp +contextual (maxSteps := 3000000) only [↓code_seq, ↓code_region, ↓ops_nil, ↓ops_cons, run_none, ↓run0_v, ↓run0_h, ↓run0_r, ↓seqK_normal, ↓blkK_normal, ↓blkK_exit, put_same, put_ne, put_none, ev_tmp, ev_const, ev_func, oc_int, o_move, o_bin, o_call, o_alloc, o_box, o_build, o_buildSlice, o_load, o_store, o_nilCheck, o_fieldAddr, o_indexAddr, o_append, g_none, bin_add, nil_ptr, Option.bind_some, Option.map_some, ↓reduceIte, Nat.reduceEqDiff, not_false_eq_true, Nat.reduceAdd, Nat.reduceMul, reduceCtorEq, List.getElem?_cons_zero, List.getElem?_cons_succ, List.map_cons, List.map_nil, List.append_nil, List.nil_append, List.cons_append, AH.next_alloc, and_true, Nat.reduceLeDiff, Nat.le_refl, ne_eq, fa_ptr T73 p73_2 (by decide), load_p1 T70 a70, loadc_def, load_p1 T3 a3, run0_h, fa_ptr T73 p73_3 (by decide), load_p1 T71 a71, load_pA T81 a81, s81, loadn_def, alloc_t T81, z81, fa_ptr T81 p81_0 (by decide), fa_ptr T81 p81_2 (by decide), load_p1 T23 a23, build_struct T84 d84, z84, parts_eq, fillA, AV.cells, AH.splice, List.take_succ_cons, List.take_zero, List.drop_succ_cons, List.drop_zero, List.drop_nil, List.length_cons, List.length_nil, p84_0, p84_1, box_agg, buildSl T71 d71 T82 (n := 1) (by rw [s82]; decide), s82, z82, repl, e0, e6, g1, g2, g3, g4, hph, y1, hpz, q1, hst, hp5, ht9, r1, hst2, c7, callV_fn (g := 36) (by decide)]
                      have hn1 : free P (kept P) - A.length = (free P (kept P) - (A ++ [wf]).length) + 1 := by
                        rw [List.length_append, List.length_singleton]; unfold free; omega
                      have hne : Q.ws ≠ [] := by intro e; rw [e] at d2; simp at d2
                      refine hnextO _ _ (by omega) ⟨i + 1, ({Q with wv := v2, ws := Q.ws.eraseIdx f, sv := u2, ss := Q.ss ++ [newS h5.next wf]} : Pr), nw ++ [newS h5.next wf], A ++ [wf], by omega, r5, ((hSO.trans (Stp.grow p Q hgz)).trans hS5.2).trans r6, ⟨hQ.1, hQ.2.1, hQ.2.2.1, hQ.2.2.2⟩, ?_, ?_, ?_, ?_, ?_, ?_⟩
                      · show Q.ss ++ _ = _; rw [hQs, List.append_assoc]
                      · rw [List.map_append, List.map_append, hnw]; rfl
                      · rw [hsv, hn1]
                        show (A ++ (serveL _ Q.ws).1, _) = _
                        rw [serveL, if_neg hne, show best Q.ws = f from hf.symm, hwf]
                        simp
                      · show (Q.ws.eraseIdx f).length + _ = _
                        rw [List.length_eraseIdx, if_pos hfl]; omega
                      · simp only [put_ne, not_false_eq_true, reduceCtorEq, ne_eq, e0]
                      · simp only [put_ne, Nat.reduceEqDiff, not_false_eq_true, ne_eq, e2]
                · refine ⟨0, by omega, ?_, ?_, ?_, ?_, ?_, ?_, ?_, ?_⟩
                  · (rw [hhh]; exact Grow.refl _)
                  · omega
                  · simp only [put_ne, not_false_eq_true, reduceCtorEq, ne_eq, e0]
                  · simp only [put_ne, Nat.reduceEqDiff, not_false_eq_true, ne_eq, e2]
                  · simp only [put_same, put_ne, Nat.reduceEqDiff, not_false_eq_true, ne_eq]; rfl
                  · simp only [put_same, put_ne, Nat.reduceEqDiff, not_false_eq_true, ne_eq]
                  · simp only [put_same, put_ne, Nat.reduceEqDiff, not_false_eq_true, ne_eq]
                  · simp only [put_same]; rfl
              · simp +contextual (maxSteps := 3000000) only [↓code_seq, ↓code_region, ↓code_cond, ↓code_exit, aCond_bool, ↓ops_nil, ↓ops_cons, run_none, run_someT, ↓run0_v, ↓seqK_normal, ↓seqK_exit, put_same, put_ne, ev_tmp, ev_const, oc_int, oc_bool, o_move, o_pick, o_bin, o_len, o_load, o_nilCheck, o_fieldAddr, o_max, g_none, g_some, pick_bool, bin_lss, bin_gtr, nil_ptr, Option.bind_some, decide_eq_true_eq, ↓reduceIte, Nat.reduceEqDiff, not_false_eq_true, Nat.reduceAdd, reduceCtorEq, List.getElem?_cons_zero, List.getElem?_cons_succ, List.getElem?_toArray, gt_iff_lt, ne_eq, fa_ptr T73 p73_2 (by decide), load_p1 T70 a70, loadc_def, load_p1 T3 a3, fa_ptr T73 p73_3 (by decide), load_p1 T71 a71, fa_ptr T73 p73_1 (by decide), e0, hp', hlenW, hlenS, d1, d2, hmx]
                refine hexit _ _ _ (by simp) ⟨Q, h', ?_, hO, hS, hfin (.inr (List.length_eq_zero_iff.1 (by omega)))⟩
                simp +contextual (maxSteps := 3000000) only [↓code_seq, ↓code_region, ↓code_ret, ↓ops_nil, ↓ops_cons, run_none, ↓run0_v, ↓seqK_normal, ↓blkK_exit, ↓retK_ret, put_same, ev_const, oc_int, o_assign, g_none, resultsOf, oneOrAll, Option.map_some, ↓reduceIte]
            · simp +contextual (maxSteps := 3000000) only [↓code_seq, ↓code_region, ↓code_cond, ↓code_exit, aCond_bool, ↓ops_nil, ↓ops_cons, run_none, run_someT, ↓run0_v, ↓seqK_normal, ↓seqK_exit, put_same, put_ne, ev_tmp, ev_const, oc_int, oc_bool, o_move, o_pick, o_bin, o_len, o_load, o_nilCheck, o_fieldAddr, o_max, g_none, g_some, pick_bool, bin_lss, nil_ptr, Option.bind_some, decide_eq_true_eq, ↓reduceIte, Nat.reduceEqDiff, not_false_eq_true, Nat.reduceAdd, reduceCtorEq, List.getElem?_cons_zero, List.getElem?_cons_succ, List.getElem?_toArray, Bool.false_eq_true, ne_eq, loadc_def, load_p1 T3 a3, fa_ptr T73 p73_3 (by decide), load_p1 T71 a71, fa_ptr T73 p73_1 (by decide), e0, hp', hlenS, d1, hmx]
              refine hexit _ _ _ (by simp) ⟨Q, h', ?_, hO, hS, hfin (.inl (by unfold free; omega))⟩
              simp +contextual (maxSteps := 3000000) only [↓code_seq, ↓code_region, ↓code_ret, ↓ops_nil, ↓ops_cons, run_none, ↓run0_v, ↓seqK_normal, ↓blkK_exit, ↓retK_ret, put_same, ev_const, oc_int, o_assign, g_none, resultsOf, oneOrAll, Option.map_some, ↓reduceIte]
          · refine ⟨0, ({P with ws := P.ws.map incW, sv := u2, ss := kept P} : Pr), [], [], by omega, ?_, ?_, ?_, ?_, ?_, ?_, ?_, ?_, ?_⟩
            · exact hO2
            · exact hS2
            · exact ⟨rfl, rfl, rfl, rfl⟩
            · (rw [List.append_nil])
            · rfl
            · rfl
            · (show (P.ws.map incW).length + 0 = _; rw [List.length_map]; rfl)
            · simp only [put_ne, not_false_eq_true, reduceCtorEq, ne_eq, e0]
            · simp only [put_ne, Nat.reduceEqDiff, not_false_eq_true, ne_eq, e2]
      · refine ⟨0, P.ss, by omega, ?_, ?_, ?_, ?_, ?_, ?_, ?_, ?_, ?_, ?_, ?_⟩
        · exact hO1
        · exact hS1
        · rfl
        · rfl
        · rfl
        · omega
        · simp only [put_ne, not_false_eq_true, reduceCtorEq, ne_eq, e0]
        · simp only [put_ne, Nat.reduceEqDiff, not_false_eq_true, ne_eq, e2]
        · simp only [put_same, put_ne, Nat.reduceEqDiff, not_false_eq_true, ne_eq]
        · simp only [put_same, put_ne, Nat.reduceEqDiff, not_false_eq_true, ne_eq]
        · simp only [put_same]; rfl
  · refine ⟨0, P.ws, by omega, ?_, ?_, ?_, ?_, ?_, ?_, ?_, ?_, ?_, ?_⟩
    · exact hP
    · exact Stp.refl _ _ _
    · rfl
    · rfl
    · rfl
    · omega
    · simp only [put_ne, env0_at, Option.getD_some, not_false_eq_true, reduceCtorEq, List.getElem?_cons_zero, ne_eq]
    · simp only [put_same, put_ne, Nat.reduceEqDiff, not_false_eq_true, ne_eq]
    · simp only [put_same, put_ne, Nat.reduceEqDiff, not_false_eq_true, ne_eq]
    · simp only [put_same]; rfl
end Go.AM.X
