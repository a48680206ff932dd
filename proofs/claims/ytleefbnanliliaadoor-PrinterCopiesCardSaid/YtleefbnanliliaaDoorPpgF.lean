/- Printers: a piece comes that is next, and not the last. Own work. -/
import Derived.Test.YtleefbnanliliaaDoorPpgE
namespace Go.AM.X
open Go Go.AM Go.Proofs Go.AM.Sx
set_option maxHeartbeats 3200000
set_option maxRecDepth 100000
set_option linter.unusedVariables false
/-- A piece: how long it is, and what is read of it in a heap in which what is none of the printer's is as it was. -/
def Pc (off : Nat → Prop) (h : AH) (x : AV) (new : List Int) : Prop := (∀ h, aLen T 48 x h = some (.int .i64 (new.length : Nat))) ∧ ∀ h2 : AH, h.next ≤ h2.next → (∀ c, c < h.next → off c → h2.get c = h.get c) → aSource 1 x h2 = some (new.length, bytes new)
/-- The service has the number and no silence, and the piece behind its data. -/
theorem OkD.piece {h : AH} {p i : Nat} {n : Int} {x : AV} {P : Pr} {s : Sv} {dat : Nat → List Int} {js : List Jb} {new : List Int} (hP : OkD h p P dat js) (hs : P.ss[i]? = some s) (hx : Pc (P.offD js p) h x new) (hl : (dat s.a).length + new.length ≤ 5000) :
    ∃ hA hB v2 h2 hC, aStore T 3 (.ptr s.a 3) (.int .i64 n) h = some hA ∧ aStore T 3 (.ptr s.a 4) (.int .i64 0) hA = some hB ∧ hB.get s.a = some (.cells [.int .i64 s.c, s.b, .int .i64 s.j, .int .i64 n, .int .i64 0, s.d] .own) ∧
      aAppend T 48 48 s.d x hB = some (v2, h2) ∧ aStore T 48 (.ptr s.a 5) v2 h2 = some hC ∧ v2.one = true ∧
      OkD hC p { P with ss := P.ss.set i { s with q := n, s := 0, d := v2 } } (addD dat s.a new) js ∧ Stf h hC (P.offD js p) (({ P with ss := P.ss.set i { s with q := n, s := 0, d := v2 } } : Pr).offD js p) := by
  have hsm := List.mem_of_getElem? hs
  have g4 := (hP.ok.b s hsm).2
  unfold Sv.ok Sv.enc at g4
  have hi := (List.getElem?_eq_some_iff.1 hs).1
  have hP1 := hP.putS (s2 := { s with q := n }) hs rfl rfl
  have hs1 : ({ P with ss := P.ss.set i { s with q := n } } : Pr).ss[i]? = some { s with q := n } := List.getElem?_set_self hi
  have hP2 := hP1.1.putS (s2 := { s with q := n, s := 0 }) hs1 rfl rfl
  have hs2 : ({ P with ss := (P.ss.set i { s with q := n }).set i { s with q := n, s := 0 } } : Pr).ss[i]? = some { s with q := n, s := 0 } := List.getElem?_set_self (by rw [List.length_set]; exact hi)
  obtain ⟨hA, hhA⟩ : ∃ hA, hA = h.put s.a (.cells ({ s with q := n } : Sv).enc .own) := ⟨_, rfl⟩
  obtain ⟨hB, hhB⟩ : ∃ hB, hB = hA.put s.a (.cells ({ s with q := n, s := 0 } : Sv).enc .own) := ⟨_, rfl⟩
  have gA : hA.get s.a = some (.cells [.int .i64 s.c, s.b, .int .i64 s.j, .int .i64 n, .int .i64 s.s, s.d] .own) := by rw [hhA, AH.get_put, if_pos rfl]; rfl
  have gB : hB.get s.a = some (.cells [.int .i64 s.c, s.b, .int .i64 s.j, .int .i64 n, .int .i64 0, s.d] .own) := by rw [hhB, AH.get_put, if_pos rfl]; rfl
  have st1 : aStore T 3 (.ptr s.a 3) (.int .i64 n) h = some hA := by rw [store_1 T3 s3 rfl rfl g4 (by simp), hhA]; rfl
  have st2 : aStore T 3 (.ptr s.a 4) (.int .i64 0) hA = some hB := by rw [store_1 T3 s3 rfl rfl gA (by simp), hhB]; rfl
  rw [← hhA] at hP1
  replace hP2 : OkD hB p { P with ss := (P.ss.set i { s with q := n }).set i { s with q := n, s := 0 } } dat js ∧ Stf hA hB (({ P with ss := P.ss.set i { s with q := n } } : Pr).offD js p) (({ P with ss := (P.ss.set i { s with q := n }).set i { s with q := n, s := 0 } } : Pr).offD js p) := by rw [hhB, hhA]; rw [hhA] at hP1; exact hP2
  have hSB := hP1.2.trans hP2.2
  have hxB := hx.2 hB hSB.1 fun c hc ho => (hSB.2 c hc ho).1
  obtain ⟨v2, h2, q1, q2, u1, u2, _, q3, q4⟩ := hP2.1.app hs2 hxB (by show (dat s.a).length + _ ≤ _; omega)
  replace q1 : aAppend T 48 48 s.d x hB = some (v2, h2) := q1
  replace q2 : h2.get s.a = some (.cells [.int .i64 s.c, s.b, .int .i64 s.j, .int .i64 n, .int .i64 0, s.d] .own) := by rw [← gB]; exact q2
  have st3 : aStore T 48 (.ptr s.a 5) v2 h2 = some (h2.put s.a (.cells ({ s with q := n, s := 0, d := v2 } : Sv).enc .own)) := by rw [store_1 T48 s48 u1 u2 q2 (by simp)]; rfl
  have hss : ((P.ss.set i { s with q := n }).set i { s with q := n, s := 0 }).set i { s with q := n, s := 0, d := v2 } = P.ss.set i { s with q := n, s := 0, d := v2 } := by rw [List.set_set, List.set_set]
  refine ⟨hA, hB, v2, h2, _, st1, st2, gB, q1, st3, u2, by rw [← hss]; exact q3, by rw [← hss]; exact hSB.trans q4⟩
theorem run42D {I : Nat → Option (List AV → AH → Rs)} (h39 : I 39 = none) (h43 : I 43 = none) (h42 : I 42 = none) (m p i : Nat) (n : Int) (x : AV) (P : Pr) (s : Sv) (h : AH) (dat : Nat → List Int) (js : List Jb) (new : List Int) (hP : OkD h p P dat js) (hs : P.ss[i]? = some s) (hq : 0 ≤ s.q ∧ s.q ≤ 255) (hn2 : n = s.q % 255 + 1)
    (hx : Pc (P.offD js p) h x new) (hl : (dat s.a).length + new.length ≤ 5000) :
    ∃ v2 h3, call F I T (m + 100) 42 [.ptr p 0, .int .i64 (i : Nat), .int .i64 n, x, .bool false] h = some (.int .i64 0, h3) ∧ OkD h3 p { P with ss := P.ss.set i { s with q := n, s := 0, d := v2 } } (addD dat s.a new) js ∧ Stf h h3 (P.offD js p) (({ P with ss := P.ss.set i { s with q := n, s := 0, d := v2 } } : Pr).offD js p) := by
  have hn : ¬ s.q % 255 + 1 = s.q := by omega
  have hp : h.get p = some (.cells [.int .i64 P.q, .int .i64 P.r, P.wv, P.sv, P.jv, .int .i64 P.lf] .own) := hP.ok.g
  obtain ⟨b, cs, bk, g1, g2, g3⟩ := loadS hP.ok.s hs
  have hsm := List.mem_of_getElem? hs
  have g4 := (hP.ok.b s hsm).2
  unfold Sv.ok Sv.enc at g4
  have k43 := fun m => run43 (by assumption) m s.q h hq
  have hdl : ∀ h, aLen T 48 s.d h = some (.int .i64 ((dat s.a).length : Nat)) := fun h' => (hP.dd s hsm).len T48 d48
  have hxl := hx.1
  have c1 : IntKind.i64.wrap (((dat s.a).length : Int) + (new.length : Int)) = ((dat s.a).length : Int) + (new.length : Int) := wrap_i64 (by omega) (by omega)
  have c2 : ¬ (5000 : Int) < ((dat s.a).length : Int) + (new.length : Int) := by omega
  subst hn2
  obtain ⟨hA, hB, v2, h2, hC, st1, st2, gB, q1, st3, _, q3, q4⟩ := hP.piece (n := s.q % 255 + 1) hs hx hl
  refine ⟨v2, hC, ?_, q3, q4⟩
  rw [call_F (by decide) h42 F42 rfl R42]; simp only [Tryd.f42, Option.getD]
  simp +contextual (maxSteps := 3000000) only [↓code_skip, ↓code_seq, ↓code_region, ↓code_cond, ↓code_block, ↓code_ret, aCond_bool, ↓ops_nil, ↓ops_cons, run_none, ↓run0_v, ↓run0_h, ↓run0_r, ↓seqK_normal, ↓blkK_normal, ↓retK_ret, put_same, put_ne, put_none, env0_at, ev_tmp, ev_const, ev_func, oc_int, o_move, o_assign, o_bin, o_call, o_len, o_load, o_store, o_nilCheck, o_fieldAddr, o_indexAddr, o_append, g_none, bin_add, bin_eql, bin_neq, bin_gtr, nil_ptr, resultsOf, oneOrAll, Option.map_some, Option.getD_some, decide_eq_true_eq, ↓reduceIte, Nat.reduceEqDiff, not_false_eq_true, not_true_eq_false, Nat.reduceAdd, reduceCtorEq, List.getElem?_cons_zero, List.getElem?_cons_succ, Bool.false_eq_true, List.map_cons, List.map_nil, List.append_nil, List.nil_append, gt_iff_lt, Bool.not_eq_eq_eq_not, Bool.not_true, ne_eq, decide_eq_false_iff_not, fa_ptr T73 p73_3 (by decide), load_p1 T71 a71, loadc_def, load_p1 T82 a82, fa_ptr T84 p84_3 (by decide), load_p1 T3 a3, fa_ptr T84 p84_4 (by decide), run0_h, fa_ptr T84 p84_5 (by decide), load_p1 T48 a48, hp, g1, g2, g3, g4, hn, k43, hdl, hxl, c1, c2, st1, st2, gB, q1, st3, callV_fn (g := 43) (by decide)]
end Go.AM.X
namespace Go.AM.X
open Go Go.AM Go.Proofs Go.AM.Sx
set_option maxHeartbeats 3200000
set_option maxRecDepth 100000
set_option linter.unusedVariables false
/-- The service at a place goes: what the program's Delete and store do. -/
theorem OkP.del {I : Nat → Option (List AV → AH → Rs)} (h39 : I 39 = none) (m : Nat) {h : AH} {p i : Nat} {P : Pr} (hP : OkP h p P) (hi : i < P.ss.length) :
    ∃ v2 h2 h3, call F I T (m + 1) 39 [P.sv, .int .i64 (i : Nat), .int .i64 ((i + 1 : Nat) : Int)] h = some (v2, h2) ∧ aStore T 71 (.ptr p 3) v2 h2 = some h3 ∧ OkP h3 p { P with sv := v2, ss := P.ss.eraseIdx i } ∧ Stp h h3 p P { P with sv := v2, ss := P.ss.eraseIdx i } ∧
      (∀ c, c ≠ p → offRow P.sv c → h3.get c = h.get c) ∧ h3.next = h.next ∧ (∀ b o l k z x, v2 = .sl b o l k z x → ∃ o l k z x, P.sv = .sl b o l k z x) := by
  have hsl := hP.sl
  obtain ⟨v2, h4, q1, q2, q3, q4, q5⟩ := run39 h39 m i P.sv P.ss h hP.s hi (by omega)
  have hp4 : h4.get p = some (.cells [.int .i64 P.q, .int .i64 P.r, P.wv, P.sv, P.jv, .int .i64 P.lf] .own) := by rw [q4 p hP.sp]; exact hP.g
  have hS := hP.set_s (h4 := h4) q2 (by omega) (fun c _ ho _ => q4 c ho) (fun b o l k z x hv => .inr (q5 _ _ _ _ _ _ hv)) (fun x hx => by
    have hx' := (List.eraseIdx_sublist _ _).subset hx
    have r1 := hP.b x hx'
    have r2 := hP.ap x hx'
    refine ⟨by omega, by unfold Sv.ok; rw [q4 _ r2.2.2]; exact r1.2, r2.1, r2.2.1, off_new (h := h) (fun b o l k z x hv => .inr (q5 _ _ _ _ _ _ hv)) r1.1 r2.2.2, .inr ⟨x, hx', rfl⟩⟩) ((((List.eraseIdx_sublist P.ss i).map Sv.a)).nodup hP.nd) (by have := (List.eraseIdx_sublist P.ss i).length_le; omega)
  obtain ⟨u1, u2⟩ := q2.cells
  refine ⟨v2, h4, _, q1, ?_, hS.1, hS.2, fun c hc ho => by rw [AH.get_put, if_neg hc]; exact q4 c ho, by simp; omega, q5⟩
  rw [store_1 T71 s71 u1 u2 hp4 (by simp)]; rfl
theorem OkD.del {I : Nat → Option (List AV → AH → Rs)} (h39 : I 39 = none) (m : Nat) {h : AH} {p i : Nat} {P : Pr} {dat : Nat → List Int} {js : List Jb} (hP : OkD h p P dat js) (hi : i < P.ss.length) :
    ∃ v2 h2 h3, call F I T (m + 1) 39 [P.sv, .int .i64 (i : Nat), .int .i64 ((i + 1 : Nat) : Int)] h = some (v2, h2) ∧ aStore T 71 (.ptr p 3) v2 h2 = some h3 ∧ OkD h3 p { P with sv := v2, ss := P.ss.eraseIdx i } dat js ∧ Stf h h3 (P.offD js p) (({ P with sv := v2, ss := P.ss.eraseIdx i } : Pr).offD js p) := by
  obtain ⟨v2, h2, h3, q1, q2, q3, q4, _⟩ := hP.ok.del h39 m hi
  have h1 := hP.stp (dat2 := dat) q3 q4 rfl fun t ht => .inr ⟨t, (List.eraseIdx_sublist _ _).subset ht, rfl, rfl, rfl⟩
  exact ⟨v2, h2, h3, q1, q2, h1.1, h1.2⟩
theorem run42C {I : Nat → Option (List AV → AH → Rs)} (h39 : I 39 = none) (h43 : I 43 = none) (h42 : I 42 = none) (m p i : Nat) (n : Int) (x en : AV) (k : Nat) (P : Pr) (s : Sv) (h : AH) (dat : Nat → List Int) (js : List Jb) (hP : OkD h p P dat js) (hs : P.ss[i]? = some s) (hq : 0 ≤ s.q ∧ s.q ≤ 255) (hn2 : n = s.q % 255 + 1)
    (hxl : ∀ h, aLen T 48 x h = some (.int .i64 (k : Nat))) (hl : 5000 < (dat s.a).length + k) (hl2 : (dat s.a).length + k ≤ 1000000000000) :
    ∃ v2 h3, call F I T (m + 100) 42 [.ptr p 0, .int .i64 (i : Nat), .int .i64 n, x, en] h = some (.int .i64 4, h3) ∧ OkD h3 p { P with sv := v2, ss := P.ss.eraseIdx i } dat js ∧ Stf h h3 (P.offD js p) (({ P with sv := v2, ss := P.ss.eraseIdx i } : Pr).offD js p) := by
  have hn : ¬ s.q % 255 + 1 = s.q := by omega
  have hp : h.get p = some (.cells [.int .i64 P.q, .int .i64 P.r, P.wv, P.sv, P.jv, .int .i64 P.lf] .own) := hP.ok.g
  obtain ⟨b, cs, bk, g1, g2, g3⟩ := loadS hP.ok.s hs
  have hsm := List.mem_of_getElem? hs
  have g4 := (hP.ok.b s hsm).2
  unfold Sv.ok Sv.enc at g4
  have hi := (List.getElem?_eq_some_iff.1 hs).1
  have hsl := hP.ok.sl
  have k43 := fun m => run43 (by assumption) m s.q h hq
  have hdl : ∀ h, aLen T 48 s.d h = some (.int .i64 ((dat s.a).length : Nat)) := fun h' => (hP.dd s hsm).len T48 d48
  have c1 : IntKind.i64.wrap (((dat s.a).length : Int) + (k : Int)) = ((dat s.a).length : Int) + (k : Int) := wrap_i64 (by omega) (by omega)
  have c2 : (5000 : Int) < ((dat s.a).length : Int) + (k : Int) := by omega
  have c7 : IntKind.i64.wrap ((i : Int) + 1) = ((i + 1 : Nat) : Int) := by rw [wrap_i64 (by omega) (by omega)]; rfl
  obtain ⟨v2, h2, h3, q1, q2, q3, q4⟩ := hP.del (I := I) h39 (m + 98) hi
  refine ⟨v2, h3, ?_, q3, q4⟩
  subst hn2
  rw [call_F (by decide) h42 F42 rfl R42]; simp only [Tryd.f42, Option.getD]
  simp +contextual (maxSteps := 3000000) only [↓code_seq, ↓code_region, ↓code_cond, ↓code_block, ↓code_ret, aCond_bool, ↓ops_nil, ↓ops_cons, run_none, ↓run0_v, ↓run0_h, ↓run0_r, ↓seqK_normal, ↓seqK_ret, ↓blkK_ret, ↓retK_ret, put_same, put_ne, put_none, env0_at, ev_tmp, ev_const, ev_func, oc_int, o_move, o_assign, o_bin, o_call, o_len, o_load, o_store, o_nilCheck, o_fieldAddr, o_indexAddr, g_none, bin_add, bin_eql, bin_neq, bin_gtr, nil_ptr, resultsOf, oneOrAll, Option.map_some, Option.getD_some, decide_eq_true_eq, ↓reduceIte, Nat.reduceEqDiff, not_false_eq_true, not_true_eq_false, Nat.reduceAdd, reduceCtorEq, List.getElem?_cons_zero, List.getElem?_cons_succ, List.map_cons, List.map_nil, List.append_nil, List.nil_append, gt_iff_lt, Bool.not_eq_eq_eq_not, Bool.not_true, ne_eq, decide_eq_false_iff_not, fa_ptr T73 p73_3 (by decide), load_p1 T71 a71, loadc_def, load_p1 T82 a82, fa_ptr T84 p84_3 (by decide), load_p1 T3 a3, run0_h, fa_ptr T84 p84_5 (by decide), load_p1 T48 a48, hp, g1, g2, g3, g4, hn, k43, hdl, hxl, c1, c2, c7, q1, q2, callV_fn (g := 43) (by decide), callV_fn (g := 39) (by decide)]
end Go.AM.X
namespace Go.AM.X
open Go Go.AM Go.Proofs Go.AM.Sx
set_option maxHeartbeats 3200000
set_option maxRecDepth 100000
set_option linter.unusedVariables false
theorem jcs_app (a b : List Jb) : jcs (a ++ b) = jcs a ++ jcs b := by simp [jcs]
/-- A printer whose jobs' row is another one. -/
theorem OkP.setJ {h h4 : AH} {p : Nat} {P : Pr} {v : AV} (hP : OkP h p P) (hn : h.next ≤ h4.next) (hk : ∀ c, c < h.next → ¬ P.off p c → h4.get c = h.get c) (hv : v.cells = some [v] ∧ v.one = true) :
    OkP (h4.put p ({ P with jv := v } : Pr).blk) p { P with jv := v } := by
  have h2 := hP.keep hn hk
  have hput : ∀ c, c ≠ p → (h4.put p ({ P with jv := v } : Pr).blk).get c = h4.get c := fun c hc => by rw [AH.get_put, if_neg hc]
  exact { lt := h2.lt
          g := by rw [AH.get_put, if_pos rfl]
          w := h2.w.keep (Nat.le_refl _) fun b o l k z x e => hput b fun hb => h2.wp _ _ _ _ _ _ e hb.symm
          s := h2.s.keep (Nat.le_refl _) fun b o l k z x e => hput b fun hb => h2.sp _ _ _ _ _ _ e hb.symm
          b := fun x hx => ⟨(h2.b x hx).1, by unfold Sv.ok; rw [hput _ fun e => (h2.ap x hx).1 e.symm]; exact (h2.b x hx).2⟩
          wp := h2.wp, sp := h2.sp, wsv := h2.wsv, ap := h2.ap, nd := h2.nd, wb := h2.wb, jc := hv, wl := h2.wl, sl := h2.sl }
/-- The services' data and the jobs lie as they lay; one job is more: its data was that of a service that has gone. -/
theorem OkD.take {hA hZ : AH} {p i : Nat} {P P2 : Pr} {dat : Nat → List Int} {js : List Jb} {s : Sv} (hA' : OkD hA p P dat js) (hs : P.ss[i]? = some s) (h2P : OkP hZ p P2) (hn : hA.next ≤ hZ.next) (hss : P2.ss = P.ss.eraseIdx i)
    (hjr : RowC 2 hZ P2.jv (js ++ [(⟨s.c, s.d, dat s.a⟩ : Jb)]).length (jcs (js ++ [⟨s.c, s.d, dat s.a⟩]))) (hk : ∀ c, c < hA.next → c ≠ p → offRow P.sv c → offRow P.jv c → hZ.get c = hA.get c) (hwv : P2.wv = P.wv)
    (hsv : ∀ b o l k z x, P2.sv = .sl b o l k z x → hA.next ≤ b ∨ ∃ o l k z x, P.sv = .sl b o l k z x) (hjv : ∀ b o l k z x, P2.jv = .sl b o l k z x → hA.next ≤ b ∨ ∃ o l k z x, P.jv = .sl b o l k z x)
    (hjn : ∀ b o l k z x, P2.jv = .sl b o l k z x → offRow P2.sv b) :
    OkD hZ p P2 dat (js ++ [⟨s.c, s.d, dat s.a⟩]) ∧ Stf hA hZ (P.offD js p) (P2.offD (js ++ [⟨s.c, s.d, dat s.a⟩]) p) := by
  have hsm := List.mem_of_getElem? hs
  have hsub : ∀ t ∈ P2.ss, t ∈ P.ss ∧ t.a ≠ s.a := fun t ht => by
    rw [hss] at ht
    obtain ⟨j, hj, hjt⟩ := List.mem_eraseIdx_iff_getElem?.1 ht
    refine ⟨List.mem_of_getElem? hjt, fun e => hj ?_⟩
    have hi := (List.getElem?_eq_some_iff.1 hjt).1
    exact (List.getElem?_inj (l := P.ss.map Sv.a) (by rw [List.length_map]; exact hi) hA'.ok.nd).1 (by rw [List.getElem?_map, List.getElem?_map, hs, hjt]; simp [e])
  have hoff : ∀ c, c < hA.next → P.off p c → P2.off p c := fun c hc ho => ⟨ho.1, by rw [hwv]; exact ho.2.1, off_new hsv hc ho.2.2.1, fun t ht => ho.2.2.2 t (hsub t ht).1⟩
  have hdk : ∀ t ∈ P.ss, ∀ b o l k z x, t.d = .sl b o l k z x → hZ.get b = hA.get b ∧ P2.off p b ∧ offRow P2.jv b := fun t ht b o l k z x e => by
    have h1 := hA'.dx t ht _ _ _ _ _ _ e
    have h2 := RowC.lt (hA'.dd t ht) e
    exact ⟨hk b h2 h1.1.1 h1.1.2.2.1 h1.2, hoff b h2 h1.1, off_new hjv h2 h1.2⟩
  have hjk : ∀ j ∈ js, ∀ b o l k z x, j.d = .sl b o l k z x → hZ.get b = hA.get b ∧ P2.off p b ∧ offRow P2.jv b := fun j hj b o l k z x e => by
    have h1 := hA'.jf j hj _ _ _ _ _ _ e
    have h2 := RowC.lt (hA'.jd j hj) e
    exact ⟨hk b h2 h1.1.1 h1.1.2.2.1 h1.2.1, hoff b h2 h1.1, off_new hjv h2 h1.2.1⟩
  refine ⟨{ ok := h2P, dd := ?_, dx := ?_, dn := ?_, jr := hjr, jx := ?_, jd := ?_, jf := ?_ }, hn, fun c hc ho => ?_⟩
  · intro t ht
    exact (hA'.dd t (hsub t ht).1).keep hn fun b o l k z x e => (hdk t (hsub t ht).1 _ _ _ _ _ _ e).1
  · intro t ht b o l k z x e
    exact (hdk t (hsub t ht).1 _ _ _ _ _ _ e).2
  · intro t ht u hu htu
    exact hA'.dn t (hsub t ht).1 u (hsub u hu).1 htu
  · intro b o l k z x e
    refine ⟨?_, ?_, hjn _ _ _ _ _ _ e, ?_⟩
    · rcases hjv _ _ _ _ _ _ e with hb | ⟨_, _, _, _, _, e0⟩
      · have := hA'.ok.lt; omega
      · exact (hA'.jx _ _ _ _ _ _ e0).1
    · rw [hwv]
      rcases hjv _ _ _ _ _ _ e with hb | ⟨_, _, _, _, _, e0⟩
      · intro _ _ _ _ _ _ e'; have := hA'.ok.w.lt e'; omega
      · exact (hA'.jx _ _ _ _ _ _ e0).2.1
    · intro t ht
      rcases hjv _ _ _ _ _ _ e with hb | ⟨_, _, _, _, _, e0⟩
      · have := (hA'.ok.b t (hsub t ht).1).1; omega
      · exact (hA'.jx _ _ _ _ _ _ e0).2.2.2 t (hsub t ht).1
  · intro j hj
    rcases List.mem_append.1 hj with h | h
    · exact (hA'.jd j h).keep hn fun b o l k z x e => (hjk j h _ _ _ _ _ _ e).1
    · rw [List.mem_singleton] at h; subst h
      exact (hA'.dd s hsm).keep hn fun b o l k z x e => (hdk s hsm _ _ _ _ _ _ e).1
  · intro j hj b o l k z x e
    rcases List.mem_append.1 hj with h | h
    · exact ⟨(hjk j h _ _ _ _ _ _ e).2.1, (hjk j h _ _ _ _ _ _ e).2.2, fun t ht => (hA'.jf j h _ _ _ _ _ _ e).2.2 t (hsub t ht).1⟩
    · rw [List.mem_singleton] at h; subst h
      exact ⟨(hdk s hsm _ _ _ _ _ _ e).2.1, (hdk s hsm _ _ _ _ _ _ e).2.2, fun t ht => hA'.dn s hsm t (hsub t ht).1 (fun e => (hsub t ht).2 e.symm) _ _ _ _ _ _ e⟩
  · refine ⟨hk c hc ho.1.1 ho.1.2.2.1 ho.2.1, hoff c hc ho.1, off_new hjv hc ho.2.1, fun t ht => ho.2.2.1 t (hsub t ht).1, fun j hj => ?_⟩
    rcases List.mem_append.1 hj with h | h
    · exact ho.2.2.2 j h
    · rw [List.mem_singleton] at h; subst h
      exact ho.2.2.1 s hsm
theorem run42E {I : Nat → Option (List AV → AH → Rs)} (h39 : I 39 = none) (h43 : I 43 = none) (h42 : I 42 = none) (m p i : Nat) (n : Int) (x : AV) (P : Pr) (s : Sv) (h : AH) (dat : Nat → List Int) (js : List Jb) (new : List Int) (hP : OkD h p P dat js) (hs : P.ss[i]? = some s) (hq : 0 ≤ s.q ∧ s.q ≤ 255) (hn2 : n = s.q % 255 + 1)
    (hx : Pc (P.offD js p) h x new) (hl : (dat s.a).length + new.length ≤ 5000) (hjl : js.length ≤ 1000000) :
    ∃ v2 jv2 sv2 h3, call F I T (m + 100) 42 [.ptr p 0, .int .i64 (i : Nat), .int .i64 n, x, .bool true] h = some (.int .i64 0, h3) ∧ OkD h3 p { P with jv := jv2, sv := sv2, ss := P.ss.eraseIdx i } (addD dat s.a new) (js ++ [⟨s.c, v2, dat s.a ++ new⟩]) ∧ Stf h h3 (P.offD js p) (({ P with jv := jv2, sv := sv2, ss := P.ss.eraseIdx i } : Pr).offD (js ++ [⟨s.c, v2, dat s.a ++ new⟩]) p) := by
  have hn : ¬ s.q % 255 + 1 = s.q := by omega
  have hp : h.get p = some (.cells [.int .i64 P.q, .int .i64 P.r, P.wv, P.sv, P.jv, .int .i64 P.lf] .own) := hP.ok.g
  obtain ⟨b, cs, bk, g1, g2, g3⟩ := loadS hP.ok.s hs
  have hsm := List.mem_of_getElem? hs
  have g4 := (hP.ok.b s hsm).2
  have hsl := hP.ok.sl
  unfold Sv.ok Sv.enc at g4
  have hi := (List.getElem?_eq_some_iff.1 hs).1
  have k43 := fun m => run43 (by assumption) m s.q h hq
  have hdl : ∀ h, aLen T 48 s.d h = some (.int .i64 ((dat s.a).length : Nat)) := fun h' => (hP.dd s hsm).len T48 d48
  have hxl := hx.1
  have c1 : IntKind.i64.wrap (((dat s.a).length : Int) + (new.length : Int)) = ((dat s.a).length : Int) + (new.length : Int) := wrap_i64 (by omega) (by omega)
  have c2 : ¬ (5000 : Int) < ((dat s.a).length : Int) + (new.length : Int) := by omega
  have c7 : IntKind.i64.wrap ((i : Int) + 1) = ((i + 1 : Nat) : Int) := by rw [wrap_i64 (by omega) (by omega)]; rfl
  subst hn2
  obtain ⟨hA, hB, v2, h2, hC, st1, st2, gB, q1, st3, u2, q3, q4⟩ := hP.piece (n := s.q % 255 + 1) hs hx hl
  obtain ⟨s', hs'⟩ : ∃ s' : Sv, s' = { s with q := s.q % 255 + 1, s := 0, d := v2 } := ⟨_, rfl⟩
  rw [← hs'] at q3 q4
  obtain ⟨Q, hQ⟩ : ∃ Q : Pr, Q = { P with ss := P.ss.set i s' } := ⟨_, rfl⟩
  rw [← hQ] at q3 q4
  have hsQ : Q.ss[i]? = some s' := by rw [hQ]; exact List.getElem?_set_self hi
  have hsa : s'.a = s.a := by rw [hs']
  have gC : hC.get s.a = some (.cells [.int .i64 s.c, s.b, .int .i64 s.j, .int .i64 (s.q % 255 + 1), .int .i64 0, v2] .own) := by
    have := (q3.ok.b s' (List.mem_of_getElem? hsQ)).2
    unfold Sv.ok Sv.enc at this
    rw [hsa, hs'] at this
    exact this
  have hQj : Q.jv = P.jv := by rw [hQ]
  have hQs : Q.sv = P.sv := by rw [hQ]
  have hQw : Q.wv = P.wv := by rw [hQ]
  have hpC : hC.get p = some (.cells [.int .i64 P.q, .int .i64 P.r, P.wv, P.sv, P.jv, .int .i64 P.lf] .own) := by have := q3.ok.g; rw [hQ] at this; exact this
  -- the job comes behind the jobs
  have hone : ([.int .i64 s.c, v2] : List AV).all AV.one = true := by simp only [List.all_cons, List.all_nil, u2]; rfl
  have hjr := q3.jr
  rw [hQj] at hjr
  obtain ⟨jv2, hD, w1, w2, w3, w4, w5⟩ := hjr.push (new := [.int .i64 s.c, v2]) T51 d51 T58 s58 (by decide) (by rw [b58]; decide) rfl hone (by rw [b58]; simp [maxBytes]; omega)
  obtain ⟨u3, u4⟩ := w2.cells
  have hpoffj : offRow P.jv p := fun b o l k z x e hpb => by rw [← hQj] at e; exact (q3.jx _ _ _ _ _ _ e).1 hpb.symm
  have hpD : hD.get p = some (.cells [.int .i64 P.q, .int .i64 P.r, P.wv, P.sv, P.jv, .int .i64 P.lf] .own) := by rw [w4 p q3.ok.lt hpoffj]; exact hpC
  have hkj : ∀ c, c < hC.next → ¬ Q.off p c → hD.get c = hC.get c := fun c hc hno => w4 c hc fun b o l k z x e hcb => by
    rw [← hQj] at e
    exact hno (hcb ▸ q3.jx _ _ _ _ _ _ e)
  have hOE := q3.ok.setJ (h4 := hD) (v := jv2) (by omega) hkj ⟨u3, u4⟩
  have hE1 : ({ Q with jv := jv2 } : Pr).blk = .cells [.int .i64 P.q, .int .i64 P.r, P.wv, P.sv, jv2, .int .i64 P.lf] .own := by rw [hQ]; rfl
  rw [hE1] at hOE
  obtain ⟨hE, hhE⟩ : ∃ hE, hE = hD.put p (.cells [.int .i64 P.q, .int .i64 P.r, P.wv, P.sv, jv2, .int .i64 P.lf] .own) := ⟨_, rfl⟩
  rw [← hhE] at hOE
  have stE : aStore T 51 (.ptr p 4) jv2 hD = some hE := by rw [store_1 T51 s51 u3 u4 hpD (by simp), hhE]; rfl
  have hpE : hE.get p = some (.cells [.int .i64 P.q, .int .i64 P.r, P.wv, P.sv, jv2, .int .i64 P.lf] .own) := by rw [hhE, AH.get_put, if_pos rfl]
  have hiQ : i < ({ Q with jv := jv2 } : Pr).ss.length := (List.getElem?_eq_some_iff.1 hsQ).1
  -- the service goes
  obtain ⟨sv2, hF, hG, z1, z2, z3, _, z5, z6, z7⟩ := hOE.del (I := I) h39 (m + 98) hiQ
  replace z1 : call F I T (m + 98 + 1) 39 [P.sv, .int .i64 (i : Nat), .int .i64 ((i + 1 : Nat) : Int)] hE = some (sv2, hF) := by rw [← hQs]; exact z1
  replace z5 : ∀ c, c ≠ p → offRow P.sv c → hG.get c = hE.get c := by rw [← hQs]; exact z5
  replace z7 : ∀ b o l k z x, sv2 = .sl b o l k z x → ∃ o l k z x, P.sv = .sl b o l k z x := by rw [← hQs]; exact z7
  have hfin : ({ ({ Q with jv := jv2 } : Pr) with sv := sv2, ss := ({ Q with jv := jv2 } : Pr).ss.eraseIdx i } : Pr) = { P with jv := jv2, sv := sv2, ss := P.ss.eraseIdx i } := by
    rw [hQ]
    simp only [Pr.mk.injEq, true_and]
    rw [List.eraseIdx_set_eq]
  replace z3 : OkP hG p { P with jv := jv2, sv := sv2, ss := P.ss.eraseIdx i } := by rw [← hfin]; exact z3
  have hnE : hE.next = hD.next := by rw [hhE]; rfl
  have hEk : ∀ c, c ≠ p → hE.get c = hD.get c := fun c hc => by rw [hhE, AH.get_put, if_neg hc]
  have hGk : ∀ c, c < hC.next → c ≠ p → offRow Q.sv c → offRow Q.jv c → hG.get c = hC.get c := fun c hc hcp hcs hcj => by
    rw [z5 c hcp (by rw [← hQs]; exact hcs), hEk c hcp, w4 c hc (by rw [← hQj]; exact hcj)]
  have hjv2 : ∀ b o l k z x, jv2 = .sl b o l k z x → hC.next ≤ b ∨ ∃ o l k z x, Q.jv = .sl b o l k z x := by rw [hQj]; exact w5
  have hdat : addD dat s.a new s'.a = dat s.a ++ new := by rw [hsa]; simp [addD]
  have hjE : jcs (js ++ [⟨s'.c, s'.d, addD dat s.a new s'.a⟩]) = jcs js ++ [.int .i64 s.c, v2] := by rw [jcs_app, hs']; rfl
  have hjnp : ∀ b o l k z x, jv2 = .sl b o l k z x → b ≠ p ∧ offRow P.sv b := fun b o l k z x e => by
    rcases hjv2 _ _ _ _ _ _ e with hb | ⟨_, _, _, _, _, e0⟩
    · refine ⟨by have := q3.ok.lt; omega, fun _ _ _ _ _ _ e' => ?_⟩
      rw [← hQs] at e'
      have := q3.ok.s.lt e'; omega
    · have := q3.jx _ _ _ _ _ _ e0
      exact ⟨this.1, by rw [← hQs]; exact this.2.2.1⟩
  have hjrG : RowC 2 hG jv2 (js ++ [(⟨s'.c, s'.d, addD dat s.a new s'.a⟩ : Jb)]).length (jcs (js ++ [⟨s'.c, s'.d, addD dat s.a new s'.a⟩])) := by
    rw [hjE, List.length_append]
    refine w2.keep (by omega) fun b o l k z x e => ?_
    rw [z5 b (hjnp _ _ _ _ _ _ e).1 (hjnp _ _ _ _ _ _ e).2, hEk b (hjnp _ _ _ _ _ _ e).1]
  have hT := q3.take (P2 := { P with jv := jv2, sv := sv2, ss := P.ss.eraseIdx i }) hsQ z3 (by omega) (by rw [hQ]; show P.ss.eraseIdx i = (P.ss.set i s').eraseIdx i; rw [List.eraseIdx_set_eq]) hjrG hGk hQw.symm
    (by rw [hQs]; exact fun b o l k z x e => .inr (z7 _ _ _ _ _ _ e)) hjv2
    (fun b o l k z x e _ _ _ _ _ _ e' => by
      obtain ⟨_, _, _, _, _, e0⟩ := z7 _ _ _ _ _ _ e'
      exact (hjnp _ _ _ _ _ _ e).2 _ _ _ _ _ _ e0)
  have hcd : s'.c = s.c ∧ s'.d = v2 := by rw [hs']; exact ⟨rfl, rfl⟩
  rw [hdat, hcd.1, hcd.2] at hT
  refine ⟨v2, jv2, sv2, hG, ?_, hT.1, q4.trans hT.2⟩
  have hsh : v2 = .nils ∨ ∃ b o l k z x, v2 = .sl b o l k z x := by
    have := q3.dd s' (List.mem_of_getElem? hsQ)
    rw [hcd.2] at this
    rcases this with ⟨e, _⟩ | ⟨b, cap, ex, rest, e, _⟩
    · exact .inl e
    · exact .inr ⟨_, _, _, _, _, _, e⟩
  clear hT hjrG hjE hcd hdat hQ hs' hsQ hsa
  rcases hsh with hv | ⟨_, _, _, _, _, _, hv⟩ <;> subst hv
  · rw [call_F (by decide) h42 F42 rfl R42]; simp only [Tryd.f42, Option.getD]
    simp +contextual (maxSteps := 3000000) only [↓code_skip, ↓code_seq, ↓code_region, ↓code_cond, ↓code_block, ↓code_ret, aCond_bool, ↓ops_nil, ↓ops_cons, run_none, ↓run0_v, ↓run0_h, ↓run0_r, ↓seqK_normal, ↓blkK_normal, ↓retK_ret, put_same, put_ne, put_none, env0_at, ev_tmp, ev_const, ev_func, oc_int, o_move, o_assign, o_bin, o_call, o_len, o_build, o_buildSlice, o_load, o_store, o_nilCheck, o_fieldAddr, o_indexAddr, o_append, g_none, bin_add, bin_eql, bin_neq, bin_gtr, nil_ptr, resultsOf, oneOrAll, Option.bind_some, Option.map_some, Option.getD_some, decide_eq_true_eq, ↓reduceIte, Nat.reduceEqDiff, not_false_eq_true, not_true_eq_false, Nat.reduceAdd, Nat.reduceMul, reduceCtorEq, List.getElem?_cons_zero, List.getElem?_cons_succ, List.map_cons, List.map_nil, List.append_nil, List.nil_append, List.cons_append, and_true, Nat.reduceLeDiff, Nat.le_refl, gt_iff_lt, Bool.not_eq_eq_eq_not, Bool.not_true, ne_eq, decide_eq_false_iff_not, fa_ptr T73 p73_3 (by decide), load_p1 T71 a71, loadc_def, load_p1 T82 a82, fa_ptr T84 p84_3 (by decide), load_p1 T3 a3, fa_ptr T84 p84_4 (by decide), run0_h, fa_ptr T84 p84_5 (by decide), load_p1 T48 a48, fa_ptr T73 p73_4 (by decide), load_p1 T51 a51, fa_ptr T84 p84_0 (by decide), build_struct T58 d58, z58, parts_eq, fillA, AV.cells, AH.splice, List.take_succ_cons, List.take_zero, List.drop_succ_cons, List.drop_zero, List.drop_nil, List.length_cons, List.length_nil, p58_0, p58_1, buildSl T51 d51 T58 (n := 1) (by rw [s58]; decide), s58, repl, hp, hpC, hpE, g1, g2, g3, g4, hn, k43, hdl, hxl, c1, c2, c7, st1, st2, gB, gC, q1, st3, w1, stE, z1, z2, callV_fn (g := 43) (by decide), callV_fn (g := 39) (by decide)]
  · rw [call_F (by decide) h42 F42 rfl R42]; simp only [Tryd.f42, Option.getD]
    simp +contextual (maxSteps := 3000000) only [↓code_skip, ↓code_seq, ↓code_region, ↓code_cond, ↓code_block, ↓code_ret, aCond_bool, ↓ops_nil, ↓ops_cons, run_none, ↓run0_v, ↓run0_h, ↓run0_r, ↓seqK_normal, ↓blkK_normal, ↓retK_ret, put_same, put_ne, put_none, env0_at, ev_tmp, ev_const, ev_func, oc_int, o_move, o_assign, o_bin, o_call, o_len, o_build, o_buildSlice, o_load, o_store, o_nilCheck, o_fieldAddr, o_indexAddr, o_append, g_none, bin_add, bin_eql, bin_neq, bin_gtr, nil_ptr, resultsOf, oneOrAll, Option.bind_some, Option.map_some, Option.getD_some, decide_eq_true_eq, ↓reduceIte, Nat.reduceEqDiff, not_false_eq_true, not_true_eq_false, Nat.reduceAdd, Nat.reduceMul, reduceCtorEq, List.getElem?_cons_zero, List.getElem?_cons_succ, List.map_cons, List.map_nil, List.append_nil, List.nil_append, List.cons_append, and_true, Nat.reduceLeDiff, Nat.le_refl, gt_iff_lt, Bool.not_eq_eq_eq_not, Bool.not_true, ne_eq, decide_eq_false_iff_not, fa_ptr T73 p73_3 (by decide), load_p1 T71 a71, loadc_def, load_p1 T82 a82, fa_ptr T84 p84_3 (by decide), load_p1 T3 a3, fa_ptr T84 p84_4 (by decide), run0_h, fa_ptr T84 p84_5 (by decide), load_p1 T48 a48, fa_ptr T73 p73_4 (by decide), load_p1 T51 a51, fa_ptr T84 p84_0 (by decide), build_struct T58 d58, z58, parts_eq, fillA, AV.cells, AH.splice, List.take_succ_cons, List.take_zero, List.drop_succ_cons, List.drop_zero, List.drop_nil, List.length_cons, List.length_nil, p58_0, p58_1, buildSl T51 d51 T58 (n := 1) (by rw [s58]; decide), s58, repl, hp, hpC, hpE, g1, g2, g3, g4, hn, k43, hdl, hxl, c1, c2, c7, st1, st2, gB, gC, q1, st3, w1, stE, z1, z2, callV_fn (g := 43) (by decide), callV_fn (g := 39) (by decide)]
end Go.AM.X
