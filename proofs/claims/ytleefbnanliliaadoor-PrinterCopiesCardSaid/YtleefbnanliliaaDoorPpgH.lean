/- Printers: a spooler forwards. Own work. -/
import Derived.Test.YtleefbnanliliaaDoorPpgG
namespace Go.AM.X
open Go Go.AM Go.Proofs Go.AM.Sx
set_option maxHeartbeats 3200000
set_option maxRecDepth 100000
set_option linter.unusedSimpArgs false
set_option linter.unusedVariables false
theorem F18 : F 18 = some { body := (Tryd.f18.body.getD .skip), results := Tryd.f18.results.toList, rf := false } := by kernel_rfl
theorem R18 : regsOk T (Tryd.f18.body.getD .skip) = true := by kernel_rfl
theorem OkD.setLf {h : AH} {p : Nat} {P : Pr} {dat : Nat → List Int} {js : List Jb} (hP : OkD h p P dat js) (x : Int) :
    OkD (h.put p ({ P with lf := x } : Pr).blk) p { P with lf := x } dat js ∧ Stf h (h.put p ({ P with lf := x } : Pr).blk) (P.offD js p) (P.offD js p) := by
  have hput : ∀ c, c ≠ p → (h.put p ({ P with lf := x } : Pr).blk).get c = h.get c := fun c hc => by rw [AH.get_put, if_neg hc]
  have hO : OkP (h.put p ({ P with lf := x } : Pr).blk) p { P with lf := x } :=
    { lt := hP.ok.lt
      g := by rw [AH.get_put, if_pos rfl]
      w := hP.ok.w.keep (Nat.le_refl _) fun b o l k z x e => hput b fun hb => hP.ok.wp _ _ _ _ _ _ e hb.symm
      s := hP.ok.s.keep (Nat.le_refl _) fun b o l k z x e => hput b fun hb => hP.ok.sp _ _ _ _ _ _ e hb.symm
      b := fun y hy => ⟨(hP.ok.b y hy).1, by unfold Sv.ok; rw [hput _ fun e => (hP.ok.ap y hy).1 e.symm]; exact (hP.ok.b y hy).2⟩
      wp := hP.ok.wp, sp := hP.ok.sp, wsv := hP.ok.wsv, ap := hP.ok.ap, nd := hP.ok.nd, wb := hP.ok.wb, jc := hP.ok.jc, wl := hP.ok.wl, sl := hP.ok.sl }
  exact hP.stp (dat2 := dat) hO ⟨Nat.le_refl _, fun c hc ho => ⟨hput c ho.1, ho⟩⟩ rfl fun s hs => .inr ⟨s, hs, rfl, rfl, rfl⟩
/-- What a spooler forwards to a printer: what is told, how many jobs have left, the printer then. -/
def fwV (S V : Vp) (s : Nat) : Int × Int × Vp :=
  if ((S.js.length : Nat) : Int) - S.lf = 0 ∨ V.ws.any (pW 0) = true then (0, S.lf, V)
  else match V.ss.findIdx? (fun s => decide (s.c = 0)) with
    | none => (wantEV V ⟨0, 0, .ptr s 0⟩, S.lf, { V with ws := wantPV V ⟨0, 0, .ptr s 0⟩ })
    | some i => match V.ss[i]?, S.js[S.lf.toNat]? with
      | some x, some j =>
        let d := if x.j = S.lf then x.d else []
        let V1 : Vp := if x.j = S.lf then V else { V with ss := V.ss.set i { x with j := S.lf, d := [] } }
        let b := min (d.length + V.q.toNat) j.2.length
        let r := sendV V1 i (x.q % 255 + 1) ((j.2.drop d.length).take (b - d.length)) (decide (b = j.2.length))
        (r.1, if r.1 = 0 ∧ b = j.2.length then S.lf + 1 else S.lf, r.2)
      | _, _ => (0, S.lf, V)
theorem slice_pc {h : AH} {v : AV} {bs : List Int} {off : Nat → Prop} (a b : Nat) (hd : Dat h v bs) (hab : a ≤ b) (hb : b ≤ bs.length) (ho : ∀ b o l k z x, v = .sl b o l k z x → off b) :
    ∃ x, aSlice T 48 v (some (.int .i64 (a : Nat))) (some (.int .i64 (b : Nat))) none = some x ∧ Pc off h x ((bs.drop a).take (b - a)) ∧ (x = .nils ∨ ∃ b o l k z e, x = .sl b o l k z e) := by
  have hl : ((bs.drop a).take (b - a)).length = b - a := by rw [List.length_take, List.length_drop]; omega
  rcases hd with ⟨rfl, h0, _⟩ | ⟨bb, cap, ex, rest, rfl, h1, h2, h3, h4⟩
  · have hb0 : b = 0 := by omega
    have ha0 : a = 0 := by omega
    subst hb0; subst ha0
    refine ⟨.nils, by simp [aSlice, T48, d48, T5, bnd], ⟨fun h => ?_, fun h2 _ _ => ?_⟩, .inl rfl⟩
    · simp [aLen, T48, d48]
    · simp [aSource, bytes]
  · have h1' : bs.length = bs.length * 1 := by omega
    have hcap : bs.length ≤ cap := by rw [List.length_map] at h2; omega
    refine ⟨_, sl_slC T48 d48 T5 s5 (m := cap) rfl bnd_nat bnd_nat hab (by omega) (Nat.le_refl _) (by simp), ⟨fun h => ?_, fun hh hn hk => ?_⟩, .inr ⟨_, _, _, _, _, _, rfl⟩⟩
    · rw [hl]; simp [aLen, T48, d48]
    · rw [src_sl]
      have hg : hh.get bb = some (.cells ((bs.map fun b => .int .u8 b) ++ rest) .own) := by rw [hk bb h3 (ho _ _ _ _ _ _ rfl)]; exact h4
      simp only [AH.loadn, hg]
      rw [if_pos (by rw [List.length_append, List.length_map]; omega), hl]
      simp only [Option.map_some]
      congr 2
      rw [Nat.zero_add, Nat.mul_one, Nat.mul_one, List.drop_append_of_le_length (by rw [List.length_map]; omega), List.take_append_of_le_length (by rw [List.length_drop, List.length_map]; omega)]
      unfold bytes
      rw [List.map_take, List.map_drop]
theorem V18 {I : Nat → Option (List AV → AH → Rs)} (h32 : I 32 = none) (h25 : I 25 = none) (h58 : I 58 = none) (h37 : I 37 = none) (h57 : I 57 = none) (h38 : I 38 = none) (h33 : I 33 = none) (h39 : I 39 = none) (h43 : I 43 = none) (h42 : I 42 = none) (h18 : I 18 = none) (h59 : I 59 = none) (h60 : I 60 = none) (m s p : Nat) (S V : Vp) (offS offV : Nat → Prop) (h : AH) (hS : OkV h s S offS) (hV : OkV h p V offV) (hA : Apt offV offS) (hq : ¬ S.q = 0) (hr : ¬ S.r = 0) (hqv : 1 ≤ V.q ∧ V.q ≤ 500)
    (hlf : 0 ≤ S.lf ∧ S.lf ≤ S.js.length) (hjl : S.js.length ≤ 1000000 ∧ V.js.length ≤ 1000000) (hdl : ∀ j ∈ S.js, j.2.length ≤ 5000) (hsq : ∀ x ∈ V.ss, 0 ≤ x.q ∧ x.q ≤ 255 ∧ x.d.length ≤ 5000)
    (hbw : ∀ w ∈ V.ws, w.c = 0 → w.b = .ptr s 0) (hbs : ∀ x ∈ V.ss, x.c = 0 → x.b = .ptr s 0) (hpre : ∀ x ∈ V.ss, x.c = 0 → x.j = S.lf → ∀ j, S.js[S.lf.toNat]? = some j → x.d.length ≤ j.2.length) :
    ∃ h2 offV2, call F I T (m + 420) 18 [.ptr s 0, .ptr p 0] h = some (.int .i64 (fwV S V s).1, h2) ∧ OkV h2 s { S with lf := (fwV S V s).2.1 } offS ∧ OkV h2 p (fwV S V s).2.2 offV2 ∧ Apt offV2 offS ∧
      h.next ≤ h2.next ∧ (∀ c, c < h.next → offV c → offS c → h2.get c = h.get c ∧ offV2 c) := by
  have hS0 := hS
  have hV0 := hV
  obtain ⟨Q, datq, ks, hQ, hSe, hoS⟩ := hS
  obtain ⟨P, dat, js, hP, hVe, hoV⟩ := hV
  have hsp : p ≠ s := by
    rcases hA p with h1 | h1
    · rw [hoV] at h1; exact absurd rfl h1.1.1
    · rw [hoS] at h1; exact h1.1.1
  have hqQ : ¬ Q.q = 0 := by rw [hSe] at hq; exact hq
  have hrQ : ¬ Q.r = 0 := by rw [hSe] at hr; exact hr
  have hqP : ¬ P.q = 0 := by rw [hVe] at hqv; have := hqv.1; intro e; rw [show (vp P dat js).q = P.q from rfl, e] at this; omega
  have kS := fun m => run32 h32 m s Q.q Q.r Q.wv Q.sv Q.jv Q.lf h hQ.ok.g hqQ
  have kP := fun m => run32 h32 m p P.q P.r P.wv P.sv P.jv P.lf h hP.ok.g hqP
  have gs : h.get s = some (.cells [.int .i64 Q.q, .int .i64 Q.r, Q.wv, Q.sv, Q.jv, .int .i64 Q.lf] .own) := hQ.ok.g
  have gp : h.get p = some (.cells [.int .i64 P.q, .int .i64 P.r, P.wv, P.sv, P.jv, .int .i64 P.lf] .own) := hP.ok.g
  have bqs : ∀ x, (Nat.beq p s && x) = false := fun x => beq_ne hsp x
  obtain ⟨hA1, k37, g37⟩ := run37 h58 h37 h59 (m + 118) p 0 P h hP.ok
  have k38 := run38 h57 h38 h60 (m + 118) p 0 P hA1 (hP.ok.grow g37)
  have gB := Grow.alloc hA1 (.cells [.int .i64 0] .own)
  obtain ⟨hB, hhB⟩ : ∃ hB, hB = hA1.alloc (.cells [.int .i64 0] .own) := ⟨_, rfl⟩
  rw [← hhB] at k38 gB
  have gAB := g37.trans gB
  have hSB := hS0.grow gAB
  have hVB := hV0.grow gAB
  have hQB := hQ.grow gAB
  have hPB := hP.grow gAB
  have gsB : hB.get s = some (.cells [.int .i64 Q.q, .int .i64 Q.r, Q.wv, Q.sv, Q.jv, .int .i64 Q.lf] .own) := hQB.ok.g
  have gpB : hB.get p = some (.cells [.int .i64 P.q, .int .i64 P.r, P.wv, P.sv, P.jv, .int .i64 P.lf] .own) := hPB.ok.g
  have hks : S.js = ks.map jv := by rw [hSe]; rfl
  have hkl : S.js.length = ks.length := by rw [hks, List.length_map]
  have hSlf : S.lf = Q.lf := by rw [hSe]; rfl
  have k25 := V25 h32 h25 (m + 409) s S offS hB hSB hq ⟨hjl.1, hlf.1, by omega⟩
  rw [if_neg hr] at k25
  have pe1 : aBin T .eql 23 (.ptr p 0) (.ptr s 0) h = some (.bool false) := by rw [pp_eql T23 d23 T73 (by rw [s73]; decide) gp gs, beq_ne hsp]
  have pn1 : aBin T .neq 23 (.ptr s 0) (.ptr s 0) hB = some (.bool false) := by rw [pp_neq T23 d23 T73 (by rw [s73]; decide) gsB gsB, beq_same]; rfl
  have hVws : V.ws = P.ws := by rw [hVe]; rfl
  have hVss : V.ss = P.ss.map (vs dat) := by rw [hVe]; rfl
  have hfv : V.ss.findIdx? (fun s => decide (s.c = 0)) = P.ss.findIdx? (pS 0) := by rw [hVe]; exact find_v P dat js 0
  have fin0 : ∀ hZ, Grow h hZ → OkV hZ s { S with lf := S.lf } offS ∧ OkV hZ p V offV ∧ Apt offV offS ∧ h.next ≤ hZ.next ∧ (∀ c, c < h.next → offV c → offS c → hZ.get c = h.get c ∧ offV c) := fun hZ hg =>
    ⟨hS0.grow hg, hV0.grow hg, hA, hg.1, fun c hc ho _ => ⟨hg.2 c hc, ho⟩⟩
  rcases idx_find (pW 0) P.ws 0 with ⟨iw, i1, i2, i3⟩ | ⟨i1, i2⟩
  · -- it waits already
    have hany : V.ws.any (pW 0) = true := by rw [hVws, ← idxAt_nonneg (pW 0) P.ws 0, i1]; omega
    have hfw : fwV S V s = (0, S.lf, V) := by unfold fwV; rw [if_pos (.inr hany)]
    rw [hfw]
    rw [i1, Nat.zero_add] at k37
    obtain ⟨w, hw⟩ : ∃ w, P.ws[iw]? = some w := ⟨P.ws[iw], List.getElem?_eq_getElem i3⟩
    have hwc : w.c = 0 := by
      have := (List.findIdx?_eq_some_iff_getElem.1 i2).2.1
      rw [(List.getElem?_eq_some_iff.1 hw).2] at this
      simpa [pW] using this
    have hwb : w.b = .ptr s 0 := hbw w (by rw [hVws]; exact List.mem_of_getElem? hw) hwc
    obtain ⟨b, cs, bk, g1, g2, g3, g4⟩ := loadW hPB.ok.w hw
    unfold Wt.enc at g4
    have g5 := (take3 g4).2.2
    rw [hwb] at g5
    have c1 : (0 : Int) ≤ (iw : Nat) := by omega
    rcases idx_find (pS 0) P.ss 0 with ⟨i, j1, j2, j3⟩ | ⟨j1, j2⟩
    · rw [j1, Nat.zero_add] at k38
      obtain ⟨x, hx⟩ : ∃ x, P.ss[i]? = some x := ⟨P.ss[i], List.getElem?_eq_getElem j3⟩
      have hxm := List.mem_of_getElem? hx
      have hxc : x.c = 0 := by
        have := (List.findIdx?_eq_some_iff_getElem.1 j2).2.1
        rw [(List.getElem?_eq_some_iff.1 hx).2] at this
        simpa [pS] using this
      have hxb : x.b = .ptr s 0 := hbs (vs dat x) (by rw [hVss]; exact List.mem_map_of_mem hxm) hxc
      obtain ⟨b', cs', bk', q1, q2, q3⟩ := loadS hPB.ok.s hx
      have q4 := (hPB.ok.b x hxm).2
      unfold Sv.ok Sv.enc at q4
      rw [hxb] at q4
      have c2 : (0 : Int) ≤ (i : Nat) := by omega
      obtain ⟨f1, f2, f3, f4, f5⟩ := fin0 hB gAB
      refine ⟨hB, offV, ?_, f1, f2, f3, f4, f5⟩
      by_cases cq : ((S.js.length : Nat) : Int) - S.lf = 0
      · rw [call_F (by decide) h18 F18 rfl R18]; simp only [Tryd.f18, Option.getD]
        simp +contextual (maxSteps := 3000000) only [↓code_skip, ↓code_seq, ↓code_region, ↓code_cond, ↓code_block, ↓code_ret, aCond_bool, ↓ops_nil, ↓ops_cons, run_none, run_someT, run_someF, ↓run0_v, ↓run0_r, ↓seqK_normal, ↓seqK_ret, ↓blkK_normal, ↓blkK_ret, ↓retK_ret, put_same, put_ne, env0_at, ev_tmp, ev_const, ev_func, oc_int, oc_bool, o_move, o_assign, o_pick, o_bin, o_call, o_load, o_nilCheck, o_fieldAddr, o_indexAddr, g_none, g_some, pick_bool, bin_eql, bin_geq, nil_ptr, resultsOf, oneOrAll, Option.bind_some, Option.map_some, Option.getD_some, decide_eq_true_eq, ↓reduceIte, Nat.reduceEqDiff, not_false_eq_true, Nat.reduceAdd, reduceCtorEq, List.getElem?_cons_zero, List.getElem?_cons_succ, List.getElem?_toArray, Bool.false_eq_true, List.map_cons, List.map_nil, List.append_nil, List.nil_append, ge_iff_le, ne_eq, fa_ptr T73 p73_1 (by decide), load_p1 T3 a3, loadc_def, fa_ptr T73 p73_2 (by decide), load_p1 T70 a70, fa_ptr T81 p81_2 (by decide), load_p1 T23 a23, fa_ptr T73 p73_3 (by decide), load_p1 T71 a71, load_p1 T82 a82, fa_ptr T84 p84_1 (by decide), kS, kP, gs, hrQ, pe1, pn1, k37, k38, gpB, g1, g2, g5, q1, q2, q3, q4, c1, c2, k25, cq, callV_fn (g := 32) (by decide), callV_fn (g := 37) (by decide), callV_fn (g := 38) (by decide), callV_fn (g := 25) (by decide)]
      · rw [call_F (by decide) h18 F18 rfl R18]; simp only [Tryd.f18, Option.getD]
        simp +contextual (maxSteps := 3000000) only [↓code_skip, ↓code_seq, ↓code_region, ↓code_cond, ↓code_block, ↓code_ret, aCond_bool, ↓ops_nil, ↓ops_cons, run_none, run_someT, run_someF, ↓run0_v, ↓run0_r, ↓seqK_normal, ↓seqK_ret, ↓blkK_normal, ↓blkK_ret, ↓retK_ret, put_same, put_ne, env0_at, ev_tmp, ev_const, ev_func, oc_int, oc_bool, o_move, o_assign, o_pick, o_bin, o_call, o_load, o_nilCheck, o_fieldAddr, o_indexAddr, g_none, g_some, pick_bool, bin_eql, bin_geq, nil_ptr, resultsOf, oneOrAll, Option.bind_some, Option.map_some, Option.getD_some, decide_eq_true_eq, ↓reduceIte, Nat.reduceEqDiff, not_false_eq_true, Nat.reduceAdd, reduceCtorEq, List.getElem?_cons_zero, List.getElem?_cons_succ, List.getElem?_toArray, Bool.false_eq_true, List.map_cons, List.map_nil, List.append_nil, List.nil_append, ge_iff_le, ne_eq, fa_ptr T73 p73_1 (by decide), load_p1 T3 a3, loadc_def, fa_ptr T73 p73_2 (by decide), load_p1 T70 a70, fa_ptr T81 p81_2 (by decide), load_p1 T23 a23, fa_ptr T73 p73_3 (by decide), load_p1 T71 a71, load_p1 T82 a82, fa_ptr T84 p84_1 (by decide), kS, kP, gs, hrQ, pe1, pn1, k37, k38, gpB, g1, g2, g5, q1, q2, q3, q4, c1, c2, k25, cq, callV_fn (g := 32) (by decide), callV_fn (g := 37) (by decide), callV_fn (g := 38) (by decide), callV_fn (g := 25) (by decide)]
    · rw [j1] at k38
      obtain ⟨f1, f2, f3, f4, f5⟩ := fin0 hB gAB
      refine ⟨hB, offV, ?_, f1, f2, f3, f4, f5⟩
      by_cases cq : ((S.js.length : Nat) : Int) - S.lf = 0
      · rw [call_F (by decide) h18 F18 rfl R18]; simp only [Tryd.f18, Option.getD]
        simp +contextual (maxSteps := 3000000) only [↓code_skip, ↓code_seq, ↓code_region, ↓code_cond, ↓code_block, ↓code_ret, aCond_bool, ↓ops_nil, ↓ops_cons, run_none, run_someT, run_someF, ↓run0_v, ↓run0_r, ↓seqK_normal, ↓seqK_ret, ↓blkK_normal, ↓blkK_ret, ↓retK_ret, put_same, put_ne, env0_at, ev_tmp, ev_const, ev_func, oc_int, oc_bool, o_move, o_assign, o_pick, o_bin, o_call, o_load, o_nilCheck, o_fieldAddr, o_indexAddr, g_none, g_some, pick_bool, bin_eql, bin_geq, nil_ptr, resultsOf, oneOrAll, Option.bind_some, Option.map_some, Option.getD_some, decide_eq_true_eq, ↓reduceIte, Nat.reduceEqDiff, not_false_eq_true, Nat.reduceAdd, reduceCtorEq, List.getElem?_cons_zero, List.getElem?_cons_succ, List.getElem?_toArray, Bool.false_eq_true, List.map_cons, List.map_nil, List.append_nil, List.nil_append, ge_iff_le, ne_eq, fa_ptr T73 p73_1 (by decide), load_p1 T3 a3, loadc_def, fa_ptr T73 p73_2 (by decide), load_p1 T70 a70, fa_ptr T81 p81_2 (by decide), load_p1 T23 a23, kS, kP, gs, hrQ, pe1, pn1, k37, k38, gpB, g1, g2, g5, c1, (show ¬ (0 : Int) ≤ -1 by decide), k25, cq, callV_fn (g := 32) (by decide), callV_fn (g := 37) (by decide), callV_fn (g := 38) (by decide), callV_fn (g := 25) (by decide)]
      · rw [call_F (by decide) h18 F18 rfl R18]; simp only [Tryd.f18, Option.getD]
        simp +contextual (maxSteps := 3000000) only [↓code_skip, ↓code_seq, ↓code_region, ↓code_cond, ↓code_block, ↓code_ret, aCond_bool, ↓ops_nil, ↓ops_cons, run_none, run_someT, run_someF, ↓run0_v, ↓run0_r, ↓seqK_normal, ↓seqK_ret, ↓blkK_normal, ↓blkK_ret, ↓retK_ret, put_same, put_ne, env0_at, ev_tmp, ev_const, ev_func, oc_int, oc_bool, o_move, o_assign, o_pick, o_bin, o_call, o_load, o_nilCheck, o_fieldAddr, o_indexAddr, g_none, g_some, pick_bool, bin_eql, bin_geq, nil_ptr, resultsOf, oneOrAll, Option.bind_some, Option.map_some, Option.getD_some, decide_eq_true_eq, ↓reduceIte, Nat.reduceEqDiff, not_false_eq_true, Nat.reduceAdd, reduceCtorEq, List.getElem?_cons_zero, List.getElem?_cons_succ, List.getElem?_toArray, Bool.false_eq_true, List.map_cons, List.map_nil, List.append_nil, List.nil_append, ge_iff_le, ne_eq, fa_ptr T73 p73_1 (by decide), load_p1 T3 a3, loadc_def, fa_ptr T73 p73_2 (by decide), load_p1 T70 a70, fa_ptr T81 p81_2 (by decide), load_p1 T23 a23, kS, kP, gs, hrQ, pe1, pn1, k37, k38, gpB, g1, g2, g5, c1, (show ¬ (0 : Int) ≤ -1 by decide), k25, cq, callV_fn (g := 32) (by decide), callV_fn (g := 37) (by decide), callV_fn (g := 38) (by decide), callV_fn (g := 25) (by decide)]
  rw [i1] at k37
  have hany : ¬ V.ws.any (pW 0) = true := by
    rw [hVws, ← idxAt_nonneg (pW 0) P.ws 0, i1]; decide
  have n1 : ¬ (0 : Int) ≤ -1 := by decide
  rcases idx_find (pS 0) P.ss 0 with ⟨i, j1, j2, j3⟩ | ⟨j1, j2⟩
  rotate_left
  · -- it is neither served nor waits
    rw [j1] at k38
    by_cases cq : ((S.js.length : Nat) : Int) - S.lf = 0
    · have hfw : fwV S V s = (0, S.lf, V) := by unfold fwV; rw [if_pos (.inl cq)]
      rw [hfw]
      obtain ⟨f1, f2, f3, f4, f5⟩ := fin0 hB gAB
      refine ⟨hB, offV, ?_, f1, f2, f3, f4, f5⟩
      rw [call_F (by decide) h18 F18 rfl R18]; simp only [Tryd.f18, Option.getD]
      simp +contextual (maxSteps := 3000000) only [↓code_skip, ↓code_seq, ↓code_region, ↓code_cond, ↓code_block, ↓code_ret, aCond_bool, ↓ops_nil, ↓ops_cons, run_none, run_someT, run_someF, ↓run0_v, ↓run0_r, ↓seqK_normal, ↓seqK_ret, ↓blkK_normal, ↓blkK_ret, ↓retK_ret, put_same, put_ne, env0_at, ev_tmp, ev_const, ev_func, oc_int, oc_bool, o_move, o_assign, o_pick, o_bin, o_call, o_load, o_nilCheck, o_fieldAddr, o_indexAddr, g_none, g_some, pick_bool, bin_eql, bin_geq, nil_ptr, resultsOf, oneOrAll, Option.bind_some, Option.map_some, Option.getD_some, decide_eq_true_eq, ↓reduceIte, Nat.reduceEqDiff, not_false_eq_true, Nat.reduceAdd, reduceCtorEq, List.getElem?_cons_zero, List.getElem?_cons_succ, List.getElem?_toArray, Bool.false_eq_true, List.map_cons, List.map_nil, List.append_nil, List.nil_append, ge_iff_le, ne_eq, fa_ptr T73 p73_1 (by decide), load_p1 T3 a3, loadc_def, kS, kP, gs, hrQ, pe1, k37, k38, n1, k25, cq, callV_fn (g := 32) (by decide), callV_fn (g := 37) (by decide), callV_fn (g := 38) (by decide), callV_fn (g := 25) (by decide)]
    · have hfw : fwV S V s = (wantEV V ⟨0, 0, .ptr s 0⟩, S.lf, { V with ws := wantPV V ⟨0, 0, .ptr s 0⟩ }) := by
        unfold fwV; rw [if_neg (by rintro (h | h) <;> contradiction), hfv, j2]
      rw [hfw]
      obtain ⟨h2, off2, k33, v33, s33⟩ := V33 h58 h37 h57 h38 h33 h59 h60 (m + 117) p ⟨0, 0, .ptr s 0⟩ V offV hB hVB (.inr ⟨s, 0, rfl⟩)
      simp only [Wt.enc] at k33
      obtain ⟨o1, o2⟩ := hSB.other hA s33
      have hst := (Stf.grow offV gAB).trans s33
      refine ⟨h2, off2, ?_, o1, v33, o2, hst.1, fun c hc ho _ => hst.2 c hc ho⟩
      rw [call_F (by decide) h18 F18 rfl R18]; simp only [Tryd.f18, Option.getD]
      simp +contextual (maxSteps := 3000000) only [↓code_skip, ↓code_seq, ↓code_region, ↓code_cond, ↓code_block, ↓code_ret, aCond_bool, ↓ops_nil, ↓ops_cons, run_none, run_someT, run_someF, ↓run0_v, ↓run0_r, ↓seqK_normal, ↓seqK_ret, ↓blkK_normal, ↓blkK_ret, ↓retK_ret, put_same, put_ne, env0_at, ev_tmp, ev_const, ev_func, oc_int, oc_bool, o_move, o_assign, o_pick, o_bin, o_call, o_build, o_load, o_nilCheck, o_fieldAddr, o_indexAddr, g_none, g_some, pick_bool, bin_eql, bin_lss, bin_geq, nil_ptr, resultsOf, oneOrAll, Option.bind_some, Option.map_some, Option.getD_some, decide_eq_true_eq, ↓reduceIte, Nat.reduceEqDiff, not_false_eq_true, Nat.reduceAdd, reduceCtorEq, List.getElem?_cons_zero, List.getElem?_cons_succ, List.getElem?_toArray, Bool.false_eq_true, List.map_cons, List.map_nil, List.append_nil, List.nil_append, List.cons_append, and_true, Nat.le_refl, ge_iff_le, ne_eq, fa_ptr T73 p73_1 (by decide), load_p1 T3 a3, loadc_def, build_struct T81 d81, z81, parts_eq, fillA, AV.cells, AH.splice, List.take_succ_cons, List.take_zero, List.drop_succ_cons, List.drop_nil, List.length_cons, List.length_nil, p81_2, kS, kP, gs, hrQ, pe1, k37, k38, n1, k25, cq, k33, (show (-1 : Int) < 0 by decide), callV_fn (g := 32) (by decide), callV_fn (g := 37) (by decide), callV_fn (g := 38) (by decide), callV_fn (g := 25) (by decide), callV_fn (g := 33) (by decide)]
  -- it is served
  rw [j1, Nat.zero_add] at k38
  obtain ⟨x, hx⟩ : ∃ x, P.ss[i]? = some x := ⟨P.ss[i], List.getElem?_eq_getElem j3⟩
  have hxm := List.mem_of_getElem? hx
  have hxc : x.c = 0 := by
    have := (List.findIdx?_eq_some_iff_getElem.1 j2).2.1
    rw [(List.getElem?_eq_some_iff.1 hx).2] at this
    simpa [pS] using this
  have hxv : vs dat x ∈ V.ss := by rw [hVss]; exact List.mem_map_of_mem hxm
  have hxb : x.b = .ptr s 0 := hbs (vs dat x) hxv hxc
  obtain ⟨b', cs', bk', q1, q2, q3⟩ := loadS hPB.ok.s hx
  have q4 := (hPB.ok.b x hxm).2
  unfold Sv.ok Sv.enc at q4
  rw [hxb] at q4
  have c2 : (0 : Int) ≤ (i : Nat) := by omega
  have c2' : ¬ ((i : Nat) : Int) < 0 := by omega
  by_cases cq : ((S.js.length : Nat) : Int) - S.lf = 0
  · have hfw : fwV S V s = (0, S.lf, V) := by unfold fwV; rw [if_pos (.inl cq)]
    rw [hfw]
    obtain ⟨f1, f2, f3, f4, f5⟩ := fin0 hB gAB
    refine ⟨hB, offV, ?_, f1, f2, f3, f4, f5⟩
    rw [call_F (by decide) h18 F18 rfl R18]; simp only [Tryd.f18, Option.getD]
    simp +contextual (maxSteps := 3000000) only [↓code_skip, ↓code_seq, ↓code_region, ↓code_cond, ↓code_block, ↓code_ret, aCond_bool, ↓ops_nil, ↓ops_cons, run_none, run_someT, run_someF, ↓run0_v, ↓run0_r, ↓seqK_normal, ↓seqK_ret, ↓blkK_normal, ↓blkK_ret, ↓retK_ret, put_same, put_ne, env0_at, ev_tmp, ev_const, ev_func, oc_int, oc_bool, o_move, o_assign, o_pick, o_bin, o_call, o_load, o_nilCheck, o_fieldAddr, o_indexAddr, g_none, g_some, pick_bool, bin_eql, bin_geq, nil_ptr, resultsOf, oneOrAll, Option.bind_some, Option.map_some, Option.getD_some, decide_eq_true_eq, ↓reduceIte, Nat.reduceEqDiff, not_false_eq_true, Nat.reduceAdd, reduceCtorEq, List.getElem?_cons_zero, List.getElem?_cons_succ, List.getElem?_toArray, Bool.false_eq_true, List.map_cons, List.map_nil, List.append_nil, List.nil_append, ge_iff_le, ne_eq, fa_ptr T73 p73_1 (by decide), load_p1 T3 a3, loadc_def, load_p1 T23 a23, fa_ptr T73 p73_3 (by decide), load_p1 T71 a71, load_p1 T82 a82, fa_ptr T84 p84_1 (by decide), kS, kP, gs, hrQ, pe1, pn1, k37, k38, gpB, q1, q2, q3, q4, n1, c2, k25, cq, callV_fn (g := 32) (by decide), callV_fn (g := 37) (by decide), callV_fn (g := 38) (by decide), callV_fn (g := 25) (by decide)]
  obtain ⟨lf, hlfe⟩ : ∃ lf : Nat, S.lf = (lf : Int) := ⟨S.lf.toNat, by omega⟩
  have hlt : lf < ks.length := by omega
  obtain ⟨j, hj⟩ : ∃ j, ks[lf]? = some j := ⟨ks[lf], List.getElem?_eq_getElem hlt⟩
  have hjm := List.mem_of_getElem? hj
  have hSj : S.js[lf]? = some (jv j) := by rw [hks, List.getElem?_map, hj]; rfl
  have hjd : j.bs.length ≤ 5000 := hdl (jv j) (List.mem_of_getElem? hSj)
  have hQlf : Q.lf = (lf : Int) := by rw [← hSlf]; exact hlfe
  rw [hQlf] at gs gsB
  have hVi : V.ss[i]? = some (vs dat x) := by rw [hVss, List.getElem?_map, hx]; rfl
  have hVq : V.q = P.q := by rw [hVe]; rfl
  obtain ⟨pq, hpq⟩ : ∃ pq : Nat, P.q = (pq : Int) := ⟨P.q.toNat, by omega⟩
  have hsqx := hsq (vs dat x) hxv
  have hpx := hpre (vs dat x) hxv hxc
  rw [show S.lf.toNat = lf by omega] at hpx
  -- both cases: what the service has, behind the reset
  have key : ∀ (hC : AH) (V1 : Vp) (offC : Nat → Prop) (d : List Int), OkV hC p V1 offC → Stf hB hC offV offC → V1.q = V.q → V1.js = V.js → (∃ x1 P1 dat1, OkD hC p P1 dat1 js ∧ offC = P1.offD js p ∧ P1.ss[i]? = some x1 ∧ x1.a = x.a ∧ dat1 x1.a = d ∧ x1.q = x.q ∧ P1.q = P.q ∧ P1.sv = P.sv) → V1.ss.length = V.ss.length → (∀ y ∈ V1.ss, 0 ≤ y.q ∧ y.q ≤ 255 ∧ y.d.length ≤ 5000) → d.length ≤ j.bs.length →
      ∃ sl hE offE e, aSlice T 48 j.d (some (.int .i64 (d.length : Nat))) (some (.int .i64 (min (d.length + pq) j.bs.length : Nat))) none = some sl ∧ e = sendV V1 i (x.q % 255 + 1) ((j.bs.drop d.length).take (min (d.length + pq) j.bs.length - d.length)) (decide (min (d.length + pq) j.bs.length = j.bs.length)) ∧
        (sl = .nils ∨ ∃ b o l k z e, sl = .sl b o l k z e) ∧ call F I T (m + 319 + 100) 42 [.ptr p 0, .int .i64 (i : Nat), .int .i64 (x.q % 255 + 1), sl, .bool (decide (min (d.length + pq) j.bs.length = j.bs.length))] hC = some (.int .i64 e.1, hE) ∧
        OkV hE p e.2 offE ∧ Stf h hE offV offE ∧ OkD hE s Q datq ks ∧ Apt offE offS ∧ OkD hC s Q datq ks := by
    intro hC V1 offC d hV1 hst hq1 hjs1 hx1 hl1 hsq1 hdl1
    obtain ⟨o1, o2⟩ := hSB.other hA hst
    have hQC : OkD hC s Q datq ks := hQB.keepD hst.1 fun c hc hn => (hst.2 c hc ((hA c).resolve_right (by rw [hoS]; exact hn))).1
    obtain ⟨sl, z1, z2, z3⟩ := slice_pc (off := offC) d.length (min (d.length + pq) j.bs.length) (hQC.jd j hjm) (by omega) (by omega) (fun b o l k z e he => by
      rcases o2 b with h1 | h1
      · exact h1
      · rw [hoS] at h1; exact absurd rfl (h1.2.2.2 j hjm _ _ _ _ _ _ he))
    obtain ⟨hE, offE, k42, v42, s42⟩ := V42 h39 h43 h42 (m + 319) p i (x.q % 255 + 1) sl (decide (min (d.length + pq) j.bs.length = j.bs.length)) V1 offC hC _ hV1 (by rw [hl1, hVss, List.length_map]; exact j3) hsq1 z2 (by rw [List.length_take, List.length_drop]; omega) (by rw [hjs1]; exact hjl.2)
    obtain ⟨o3, o4⟩ := o1.other o2 s42
    have hQE : OkD hE s Q datq ks := hQC.keepD s42.1 fun c hc hn => (s42.2 c hc ((o2 c).resolve_right (by rw [hoS]; exact hn))).1
    exact ⟨sl, hE, offE, _, z1, rfl, z3, k42, v42, ((Stf.grow offV gAB).trans hst).trans s42, hQE, o4, hQC⟩
  have hcond : ¬ (((S.js.length : Nat) : Int) - S.lf = 0 ∨ V.ws.any (pW 0) = true) := by rintro (h | h) <;> contradiction
  have c7 : IntKind.i64.wrap ((lf : Int) + 1) = ((lf + 1 : Nat) : Int) := by rw [wrap_i64 (by omega) (by omega)]; rfl
  -- behind the piece: the job has left, or not
  have done1 : ∀ (hE : AH) (V2 : Vp) (offE : Nat → Prop), OkV hE p V2 offE → Stf h hE offV offE → OkD hE s Q datq ks → Apt offE offS → ∃ hF, aStore T 3 (.ptr s 5) (.int .i64 ((lf + 1 : Nat) : Int)) hE = some hF ∧ OkV hF s { S with lf := S.lf + 1 } offS ∧ OkV hF p V2 offE ∧ h.next ≤ hF.next ∧ (∀ c, c < h.next → offV c → offS c → hF.get c = h.get c ∧ offE c) := by
    intro hE V2 offE hv hst hQE hAE
    have gsE : hE.get s = some (.cells [.int .i64 Q.q, .int .i64 Q.r, Q.wv, Q.sv, Q.jv, .int .i64 Q.lf] .own) := hQE.ok.g
    have h1 := hQE.setLf ((lf + 1 : Nat) : Int)
    have hSE : OkV hE s S offS := ⟨Q, datq, ks, hQE, hSe, hoS⟩
    rw [← hoS] at h1
    obtain ⟨o1, _⟩ := hv.other hAE.symm h1.2
    refine ⟨_, by rw [store_1 T3 s3 rfl rfl gsE (by simp)]; rfl, ⟨_, datq, ks, h1.1, ?_, hoS⟩, o1, Nat.le_trans hst.1 h1.2.1, fun c hc ho hs => ?_⟩
    · rw [hSe]
      show Vp.mk _ _ (Q.lf + 1) _ _ _ = Vp.mk _ _ ((lf + 1 : Nat) : Int) _ _ _
      rw [hQlf]; rfl
    · have g1 := hst.2 c hc ho
      have g2 := h1.2.2 c (Nat.lt_of_lt_of_le hc hst.1) hs
      exact ⟨g2.1.trans g1.1, g1.2⟩
  have done0 : ∀ (hE : AH) (V2 : Vp) (offE : Nat → Prop), OkV hE p V2 offE → Stf h hE offV offE → OkD hE s Q datq ks → Apt offE offS → OkV hE s { S with lf := S.lf } offS ∧ OkV hE p V2 offE ∧ Apt offE offS ∧ h.next ≤ hE.next ∧ (∀ c, c < h.next → offV c → offS c → hE.get c = h.get c ∧ offE c) :=
    fun hE V2 offE hv hst hQE hAE => ⟨⟨Q, datq, ks, hQE, hSe, hoS⟩, hv, hAE, hst.1, fun c hc ho _ => hst.2 c hc ho⟩
  have hqx : 0 ≤ x.q ∧ x.q ≤ 255 := ⟨hsqx.1, hsqx.2.1⟩
  have hP' : ∀ hE : AH, OkD hE s Q datq ks → hE.get s = some (.cells [.int .i64 Q.q, .int .i64 Q.r, Q.wv, Q.sv, Q.jv, .int .i64 (lf : Int)] .own) := fun hE h1 => by rw [← hQlf]; exact h1.ok.g
  by_cases hjx : x.j = S.lf
  · have hdle : (dat x.a).length ≤ j.bs.length := hpx hjx (jv j) hSj
    obtain ⟨sl, hE, offE, e, z1, ze, z3, k42, v42, s42, hQE, hAE, hQC⟩ := key hB V offV (dat x.a) hVB (Stf.refl _ _) rfl rfl ⟨x, P, dat, hPB, hoV, hx, rfl, rfl, rfl, rfl, rfl⟩ rfl hsq hdle
    obtain ⟨b, hb⟩ : ∃ b, b = min ((dat x.a).length + pq) j.bs.length := ⟨_, rfl⟩
    rw [← hb] at z1 ze k42
    have hfw : fwV S V s = (e.1, if e.1 = 0 ∧ b = j.bs.length then S.lf + 1 else S.lf, e.2) := by
      unfold fwV
      rw [if_neg hcond, hfv, j2]
      simp only [hVi, show S.js[S.lf.toNat]? = some (jv j) by rw [show S.lf.toNat = lf by omega]; exact hSj]
      rw [if_pos (show (vs dat x).j = S.lf from hjx), if_pos (show (vs dat x).j = S.lf from hjx), show V.q.toNat = pq by omega, ze]
      show _ = _
      rw [show (jv j).2 = j.bs from rfl, show (vs dat x).d = dat x.a from rfl, ← hb]
      rfl
    rw [hfw]
    rw [show x.j = (lf : Int) by rw [hjx]; exact hlfe] at q4
    have hxd : ∀ h, aLen T 48 x.d h = some (.int .i64 ((dat x.a).length : Nat)) := fun h' => (hPB.dd x hxm).len T48 d48
    have hjl2 : ∀ h, aLen T 48 j.d h = some (.int .i64 (j.bs.length : Nat)) := fun h' => (hQC.jd j hjm).len T48 d48
    have hdx : (dat x.a).length ≤ 5000 := hsqx.2.2
    have w1 : IntKind.i64.wrap (((dat x.a).length : Int) + (pq : Int)) = (((dat x.a).length + pq : Nat) : Int) := by rw [wrap_i64 (by omega) (by omega)]; omega
    have hmn : aMin (.int .i64 (((dat x.a).length + pq : Nat) : Int)) (.int .i64 (j.bs.length : Nat)) = some (.int .i64 (b : Nat)) := by
      simp only [aMin]; rw [hb]; congr 2; split <;> omega
    obtain ⟨bj, csj, kj, y1, y2, y3, y4⟩ := loadJ hQC.jr hj
    have y5 := (take2 y4).2
    have k43 := fun m => run43 (by assumption) m x.q hB hqx
    rw [hpq] at gpB gp
    by_cases hend : b = j.bs.length
    · have ce : ((b : Nat) : Int) = (j.bs.length : Int) := by omega
      rw [decide_eq_true hend] at k42
      by_cases he : e.1 = 0
      · rw [if_pos ⟨he, hend⟩]
        obtain ⟨hF, t1, t2, t3, t4, t5⟩ := done1 hE e.2 offE v42 s42 hQE hAE
        refine ⟨hF, offE, ?_, t2, t3, hAE, t4, t5⟩
        have gsE := hP' hE hQE
        rw [he] at k42 ⊢
        rcases z3 with hz | ⟨_, _, _, _, _, _, hz⟩ <;> subst hz
        · rw [call_F (by decide) h18 F18 rfl R18]; simp only [Tryd.f18, Option.getD]
          simp +contextual (maxSteps := 3000000) only [↓code_skip, ↓code_seq, ↓code_region, ↓code_cond, ↓code_block, ↓code_ret, aCond_bool, ↓ops_nil, ↓ops_cons, run_none, run_someT, run_someF, ↓run0_v, ↓run0_h, ↓run0_r, ↓seqK_normal, ↓blkK_normal, ↓retK_ret, put_same, put_ne, put_none, env0_at, ev_tmp, ev_const, ev_func, oc_int, oc_bool, o_move, o_assign, o_pick, o_bin, o_call, o_len, o_load, o_store, o_nilCheck, o_slice, o_fieldAddr, o_indexAddr, o_min, g_none, g_some, pick_bool, bin_add, bin_eql, bin_neq, bin_lss, bin_geq, nil_ptr, resultsOf, oneOrAll, Option.bind_some, Option.map_some, Option.map_none, Option.getD_some, ↓reduceIte, Nat.reduceEqDiff, not_false_eq_true, Nat.reduceAdd, reduceCtorEq, List.getElem?_cons_zero, List.getElem?_cons_succ, List.getElem?_toArray, Bool.false_eq_true, List.map_cons, List.map_nil, List.append_nil, List.nil_append, ge_iff_le, Bool.not_true, ne_eq, fa_ptr T73 p73_1 (by decide), load_p1 T3 a3, loadc_def, load_p1 T23 a23, fa_ptr T73 p73_3 (by decide), load_p1 T71 a71, load_p1 T82 a82, fa_ptr T84 p84_1 (by decide), fa_ptr T84 p84_2 (by decide), fa_ptr T73 p73_5 (by decide), run0_h, fa_ptr T84 p84_5 (by decide), fa_ptr T73 p73_4 (by decide), load_p1 T51 a51, fa_ptr T58 p58_1 (by decide), load_p1 T48 a48, fa_ptr T73 p73_0 (by decide), fa_ptr T84 p84_3 (by decide), kS, kP, gs, hrQ, pe1, pn1, k37, k38, gpB, gsB, q1, q2, q3, q4, n1, c2, c2', k25, cq, y1, y2, y5, hxd, hjl2, w1, hmn, eq_true ce, decide_true, decide_false, k43, z1, k42, gsE, c7, t1, callV_fn (g := 32) (by decide), callV_fn (g := 37) (by decide), callV_fn (g := 38) (by decide), callV_fn (g := 25) (by decide), callV_fn (g := 42) (by decide), callV_fn (g := 43) (by decide)]
        · rw [call_F (by decide) h18 F18 rfl R18]; simp only [Tryd.f18, Option.getD]
          simp +contextual (maxSteps := 3000000) only [↓code_skip, ↓code_seq, ↓code_region, ↓code_cond, ↓code_block, ↓code_ret, aCond_bool, ↓ops_nil, ↓ops_cons, run_none, run_someT, run_someF, ↓run0_v, ↓run0_h, ↓run0_r, ↓seqK_normal, ↓blkK_normal, ↓retK_ret, put_same, put_ne, put_none, env0_at, ev_tmp, ev_const, ev_func, oc_int, oc_bool, o_move, o_assign, o_pick, o_bin, o_call, o_len, o_load, o_store, o_nilCheck, o_slice, o_fieldAddr, o_indexAddr, o_min, g_none, g_some, pick_bool, bin_add, bin_eql, bin_neq, bin_lss, bin_geq, nil_ptr, resultsOf, oneOrAll, Option.bind_some, Option.map_some, Option.map_none, Option.getD_some, ↓reduceIte, Nat.reduceEqDiff, not_false_eq_true, Nat.reduceAdd, reduceCtorEq, List.getElem?_cons_zero, List.getElem?_cons_succ, List.getElem?_toArray, Bool.false_eq_true, List.map_cons, List.map_nil, List.append_nil, List.nil_append, ge_iff_le, Bool.not_true, ne_eq, fa_ptr T73 p73_1 (by decide), load_p1 T3 a3, loadc_def, load_p1 T23 a23, fa_ptr T73 p73_3 (by decide), load_p1 T71 a71, load_p1 T82 a82, fa_ptr T84 p84_1 (by decide), fa_ptr T84 p84_2 (by decide), fa_ptr T73 p73_5 (by decide), run0_h, fa_ptr T84 p84_5 (by decide), fa_ptr T73 p73_4 (by decide), load_p1 T51 a51, fa_ptr T58 p58_1 (by decide), load_p1 T48 a48, fa_ptr T73 p73_0 (by decide), fa_ptr T84 p84_3 (by decide), kS, kP, gs, hrQ, pe1, pn1, k37, k38, gpB, gsB, q1, q2, q3, q4, n1, c2, c2', k25, cq, y1, y2, y5, hxd, hjl2, w1, hmn, eq_true ce, decide_true, decide_false, k43, z1, k42, gsE, c7, t1, callV_fn (g := 32) (by decide), callV_fn (g := 37) (by decide), callV_fn (g := 38) (by decide), callV_fn (g := 25) (by decide), callV_fn (g := 42) (by decide), callV_fn (g := 43) (by decide)]
      · rw [if_neg fun h => he h.1]
        obtain ⟨t2, t3, t4, t5, t6⟩ := done0 hE e.2 offE v42 s42 hQE hAE
        refine ⟨hE, offE, ?_, t2, t3, t4, t5, t6⟩
        rcases z3 with hz | ⟨_, _, _, _, _, _, hz⟩ <;> subst hz
        · rw [call_F (by decide) h18 F18 rfl R18]; simp only [Tryd.f18, Option.getD]
          simp +contextual (maxSteps := 3000000) only [↓code_skip, ↓code_seq, ↓code_region, ↓code_cond, ↓code_block, ↓code_ret, aCond_bool, ↓ops_nil, ↓ops_cons, run_none, run_someT, run_someF, ↓run0_v, ↓run0_r, ↓seqK_normal, ↓blkK_normal, ↓retK_ret, put_same, put_ne, env0_at, ev_tmp, ev_const, ev_func, oc_int, oc_bool, o_move, o_assign, o_pick, o_bin, o_call, o_len, o_load, o_nilCheck, o_slice, o_fieldAddr, o_indexAddr, o_min, g_none, g_some, pick_bool, bin_add, bin_eql, bin_neq, bin_lss, bin_geq, nil_ptr, resultsOf, oneOrAll, Option.bind_some, Option.map_some, Option.map_none, Option.getD_some, ↓reduceIte, Nat.reduceEqDiff, not_false_eq_true, Nat.reduceAdd, reduceCtorEq, List.getElem?_cons_zero, List.getElem?_cons_succ, List.getElem?_toArray, Bool.false_eq_true, List.map_cons, List.map_nil, List.append_nil, List.nil_append, ge_iff_le, Bool.not_true, ne_eq, fa_ptr T73 p73_1 (by decide), load_p1 T3 a3, loadc_def, load_p1 T23 a23, fa_ptr T73 p73_3 (by decide), load_p1 T71 a71, load_p1 T82 a82, fa_ptr T84 p84_1 (by decide), fa_ptr T84 p84_2 (by decide), fa_ptr T73 p73_5 (by decide), fa_ptr T84 p84_5 (by decide), fa_ptr T73 p73_4 (by decide), load_p1 T51 a51, fa_ptr T58 p58_1 (by decide), load_p1 T48 a48, fa_ptr T73 p73_0 (by decide), fa_ptr T84 p84_3 (by decide), kS, kP, gs, hrQ, pe1, pn1, k37, k38, gpB, gsB, q1, q2, q3, q4, n1, c2, c2', k25, cq, y1, y2, y5, hxd, hjl2, w1, hmn, eq_true ce, decide_true, decide_false, k43, z1, k42, callV_fn (g := 32) (by decide), callV_fn (g := 37) (by decide), callV_fn (g := 38) (by decide), callV_fn (g := 25) (by decide), callV_fn (g := 42) (by decide), callV_fn (g := 43) (by decide), he]
        · rw [call_F (by decide) h18 F18 rfl R18]; simp only [Tryd.f18, Option.getD]
          simp +contextual (maxSteps := 3000000) only [↓code_skip, ↓code_seq, ↓code_region, ↓code_cond, ↓code_block, ↓code_ret, aCond_bool, ↓ops_nil, ↓ops_cons, run_none, run_someT, run_someF, ↓run0_v, ↓run0_r, ↓seqK_normal, ↓blkK_normal, ↓retK_ret, put_same, put_ne, env0_at, ev_tmp, ev_const, ev_func, oc_int, oc_bool, o_move, o_assign, o_pick, o_bin, o_call, o_len, o_load, o_nilCheck, o_slice, o_fieldAddr, o_indexAddr, o_min, g_none, g_some, pick_bool, bin_add, bin_eql, bin_neq, bin_lss, bin_geq, nil_ptr, resultsOf, oneOrAll, Option.bind_some, Option.map_some, Option.map_none, Option.getD_some, ↓reduceIte, Nat.reduceEqDiff, not_false_eq_true, Nat.reduceAdd, reduceCtorEq, List.getElem?_cons_zero, List.getElem?_cons_succ, List.getElem?_toArray, Bool.false_eq_true, List.map_cons, List.map_nil, List.append_nil, List.nil_append, ge_iff_le, Bool.not_true, ne_eq, fa_ptr T73 p73_1 (by decide), load_p1 T3 a3, loadc_def, load_p1 T23 a23, fa_ptr T73 p73_3 (by decide), load_p1 T71 a71, load_p1 T82 a82, fa_ptr T84 p84_1 (by decide), fa_ptr T84 p84_2 (by decide), fa_ptr T73 p73_5 (by decide), fa_ptr T84 p84_5 (by decide), fa_ptr T73 p73_4 (by decide), load_p1 T51 a51, fa_ptr T58 p58_1 (by decide), load_p1 T48 a48, fa_ptr T73 p73_0 (by decide), fa_ptr T84 p84_3 (by decide), kS, kP, gs, hrQ, pe1, pn1, k37, k38, gpB, gsB, q1, q2, q3, q4, n1, c2, c2', k25, cq, y1, y2, y5, hxd, hjl2, w1, hmn, eq_true ce, decide_true, decide_false, k43, z1, k42, callV_fn (g := 32) (by decide), callV_fn (g := 37) (by decide), callV_fn (g := 38) (by decide), callV_fn (g := 25) (by decide), callV_fn (g := 42) (by decide), callV_fn (g := 43) (by decide), he]
    · have ce : ¬ ((b : Nat) : Int) = (j.bs.length : Int) := by omega
      rw [decide_eq_false hend] at k42
      rw [if_neg fun h => hend h.2]
      obtain ⟨t2, t3, t4, t5, t6⟩ := done0 hE e.2 offE v42 s42 hQE hAE
      refine ⟨hE, offE, ?_, t2, t3, t4, t5, t6⟩
      by_cases he : e.1 = 0
      · rw [he] at k42 ⊢
        rcases z3 with hz | ⟨_, _, _, _, _, _, hz⟩ <;> subst hz
        · rw [call_F (by decide) h18 F18 rfl R18]; simp only [Tryd.f18, Option.getD]
          simp +contextual (maxSteps := 3000000) only [↓code_skip, ↓code_seq, ↓code_region, ↓code_cond, ↓code_block, ↓code_ret, aCond_bool, ↓ops_nil, ↓ops_cons, run_none, run_someT, run_someF, ↓run0_v, ↓run0_r, ↓seqK_normal, ↓blkK_normal, ↓retK_ret, put_same, put_ne, env0_at, ev_tmp, ev_const, ev_func, oc_int, oc_bool, o_move, o_assign, o_pick, o_bin, o_call, o_len, o_load, o_nilCheck, o_slice, o_fieldAddr, o_indexAddr, o_min, g_none, g_some, pick_bool, bin_add, bin_eql, bin_neq, bin_lss, bin_geq, nil_ptr, resultsOf, oneOrAll, Option.bind_some, Option.map_some, Option.map_none, Option.getD_some, ↓reduceIte, Nat.reduceEqDiff, not_false_eq_true, Nat.reduceAdd, reduceCtorEq, List.getElem?_cons_zero, List.getElem?_cons_succ, List.getElem?_toArray, Bool.false_eq_true, List.map_cons, List.map_nil, List.append_nil, List.nil_append, ge_iff_le, Bool.not_true, ne_eq, fa_ptr T73 p73_1 (by decide), load_p1 T3 a3, loadc_def, load_p1 T23 a23, fa_ptr T73 p73_3 (by decide), load_p1 T71 a71, load_p1 T82 a82, fa_ptr T84 p84_1 (by decide), fa_ptr T84 p84_2 (by decide), fa_ptr T73 p73_5 (by decide), fa_ptr T84 p84_5 (by decide), fa_ptr T73 p73_4 (by decide), load_p1 T51 a51, fa_ptr T58 p58_1 (by decide), load_p1 T48 a48, fa_ptr T73 p73_0 (by decide), fa_ptr T84 p84_3 (by decide), kS, kP, gs, hrQ, pe1, pn1, k37, k38, gpB, gsB, q1, q2, q3, q4, n1, c2, c2', k25, cq, y1, y2, y5, hxd, hjl2, w1, hmn, ce, decide_true, decide_false, k43, z1, k42, callV_fn (g := 32) (by decide), callV_fn (g := 37) (by decide), callV_fn (g := 38) (by decide), callV_fn (g := 25) (by decide), callV_fn (g := 42) (by decide), callV_fn (g := 43) (by decide)]
        · rw [call_F (by decide) h18 F18 rfl R18]; simp only [Tryd.f18, Option.getD]
          simp +contextual (maxSteps := 3000000) only [↓code_skip, ↓code_seq, ↓code_region, ↓code_cond, ↓code_block, ↓code_ret, aCond_bool, ↓ops_nil, ↓ops_cons, run_none, run_someT, run_someF, ↓run0_v, ↓run0_r, ↓seqK_normal, ↓blkK_normal, ↓retK_ret, put_same, put_ne, env0_at, ev_tmp, ev_const, ev_func, oc_int, oc_bool, o_move, o_assign, o_pick, o_bin, o_call, o_len, o_load, o_nilCheck, o_slice, o_fieldAddr, o_indexAddr, o_min, g_none, g_some, pick_bool, bin_add, bin_eql, bin_neq, bin_lss, bin_geq, nil_ptr, resultsOf, oneOrAll, Option.bind_some, Option.map_some, Option.map_none, Option.getD_some, ↓reduceIte, Nat.reduceEqDiff, not_false_eq_true, Nat.reduceAdd, reduceCtorEq, List.getElem?_cons_zero, List.getElem?_cons_succ, List.getElem?_toArray, Bool.false_eq_true, List.map_cons, List.map_nil, List.append_nil, List.nil_append, ge_iff_le, Bool.not_true, ne_eq, fa_ptr T73 p73_1 (by decide), load_p1 T3 a3, loadc_def, load_p1 T23 a23, fa_ptr T73 p73_3 (by decide), load_p1 T71 a71, load_p1 T82 a82, fa_ptr T84 p84_1 (by decide), fa_ptr T84 p84_2 (by decide), fa_ptr T73 p73_5 (by decide), fa_ptr T84 p84_5 (by decide), fa_ptr T73 p73_4 (by decide), load_p1 T51 a51, fa_ptr T58 p58_1 (by decide), load_p1 T48 a48, fa_ptr T73 p73_0 (by decide), fa_ptr T84 p84_3 (by decide), kS, kP, gs, hrQ, pe1, pn1, k37, k38, gpB, gsB, q1, q2, q3, q4, n1, c2, c2', k25, cq, y1, y2, y5, hxd, hjl2, w1, hmn, ce, decide_true, decide_false, k43, z1, k42, callV_fn (g := 32) (by decide), callV_fn (g := 37) (by decide), callV_fn (g := 38) (by decide), callV_fn (g := 25) (by decide), callV_fn (g := 42) (by decide), callV_fn (g := 43) (by decide)]
      · rcases z3 with hz | ⟨_, _, _, _, _, _, hz⟩ <;> subst hz
        · rw [call_F (by decide) h18 F18 rfl R18]; simp only [Tryd.f18, Option.getD]
          simp +contextual (maxSteps := 3000000) only [↓code_skip, ↓code_seq, ↓code_region, ↓code_cond, ↓code_block, ↓code_ret, aCond_bool, ↓ops_nil, ↓ops_cons, run_none, run_someT, run_someF, ↓run0_v, ↓run0_r, ↓seqK_normal, ↓blkK_normal, ↓retK_ret, put_same, put_ne, env0_at, ev_tmp, ev_const, ev_func, oc_int, oc_bool, o_move, o_assign, o_pick, o_bin, o_call, o_len, o_load, o_nilCheck, o_slice, o_fieldAddr, o_indexAddr, o_min, g_none, g_some, pick_bool, bin_add, bin_eql, bin_neq, bin_lss, bin_geq, nil_ptr, resultsOf, oneOrAll, Option.bind_some, Option.map_some, Option.map_none, Option.getD_some, ↓reduceIte, Nat.reduceEqDiff, not_false_eq_true, Nat.reduceAdd, reduceCtorEq, List.getElem?_cons_zero, List.getElem?_cons_succ, List.getElem?_toArray, Bool.false_eq_true, List.map_cons, List.map_nil, List.append_nil, List.nil_append, ge_iff_le, Bool.not_true, ne_eq, fa_ptr T73 p73_1 (by decide), load_p1 T3 a3, loadc_def, load_p1 T23 a23, fa_ptr T73 p73_3 (by decide), load_p1 T71 a71, load_p1 T82 a82, fa_ptr T84 p84_1 (by decide), fa_ptr T84 p84_2 (by decide), fa_ptr T73 p73_5 (by decide), fa_ptr T84 p84_5 (by decide), fa_ptr T73 p73_4 (by decide), load_p1 T51 a51, fa_ptr T58 p58_1 (by decide), load_p1 T48 a48, fa_ptr T73 p73_0 (by decide), fa_ptr T84 p84_3 (by decide), kS, kP, gs, hrQ, pe1, pn1, k37, k38, gpB, gsB, q1, q2, q3, q4, n1, c2, c2', k25, cq, y1, y2, y5, hxd, hjl2, w1, hmn, ce, decide_true, decide_false, k43, z1, k42, callV_fn (g := 32) (by decide), callV_fn (g := 37) (by decide), callV_fn (g := 38) (by decide), callV_fn (g := 25) (by decide), callV_fn (g := 42) (by decide), callV_fn (g := 43) (by decide), he]
        · rw [call_F (by decide) h18 F18 rfl R18]; simp only [Tryd.f18, Option.getD]
          simp +contextual (maxSteps := 3000000) only [↓code_skip, ↓code_seq, ↓code_region, ↓code_cond, ↓code_block, ↓code_ret, aCond_bool, ↓ops_nil, ↓ops_cons, run_none, run_someT, run_someF, ↓run0_v, ↓run0_r, ↓seqK_normal, ↓blkK_normal, ↓retK_ret, put_same, put_ne, env0_at, ev_tmp, ev_const, ev_func, oc_int, oc_bool, o_move, o_assign, o_pick, o_bin, o_call, o_len, o_load, o_nilCheck, o_slice, o_fieldAddr, o_indexAddr, o_min, g_none, g_some, pick_bool, bin_add, bin_eql, bin_neq, bin_lss, bin_geq, nil_ptr, resultsOf, oneOrAll, Option.bind_some, Option.map_some, Option.map_none, Option.getD_some, ↓reduceIte, Nat.reduceEqDiff, not_false_eq_true, Nat.reduceAdd, reduceCtorEq, List.getElem?_cons_zero, List.getElem?_cons_succ, List.getElem?_toArray, Bool.false_eq_true, List.map_cons, List.map_nil, List.append_nil, List.nil_append, ge_iff_le, Bool.not_true, ne_eq, fa_ptr T73 p73_1 (by decide), load_p1 T3 a3, loadc_def, load_p1 T23 a23, fa_ptr T73 p73_3 (by decide), load_p1 T71 a71, load_p1 T82 a82, fa_ptr T84 p84_1 (by decide), fa_ptr T84 p84_2 (by decide), fa_ptr T73 p73_5 (by decide), fa_ptr T84 p84_5 (by decide), fa_ptr T73 p73_4 (by decide), load_p1 T51 a51, fa_ptr T58 p58_1 (by decide), load_p1 T48 a48, fa_ptr T73 p73_0 (by decide), fa_ptr T84 p84_3 (by decide), kS, kP, gs, hrQ, pe1, pn1, k37, k38, gpB, gsB, q1, q2, q3, q4, n1, c2, c2', k25, cq, y1, y2, y5, hxd, hjl2, w1, hmn, ce, decide_true, decide_false, k43, z1, k42, callV_fn (g := 32) (by decide), callV_fn (g := 37) (by decide), callV_fn (g := 38) (by decide), callV_fn (g := 25) (by decide), callV_fn (g := 42) (by decide), callV_fn (g := 43) (by decide), he]
  · obtain ⟨xA, hxA⟩ : ∃ xA : Sv, xA = { x with j := (lf : Int) } := ⟨_, rfl⟩
    obtain ⟨xB, hxB⟩ : ∃ xB : Sv, xB = { x with j := (lf : Int), d := .nils } := ⟨_, rfl⟩
    have hPA := hPB.putS (s2 := xA) hx (by rw [hxA]) (by rw [hxA])
    have hxsA : ({ P with ss := P.ss.set i xA } : Pr).ss[i]? = some xA := List.getElem?_set_self j3
    have hPC := hPA.1.putN (s2 := xB) hxsA (by rw [hxA, hxB]) (by rw [hxB])
    have hxAa : xA.a = x.a := by rw [hxA]
    have hxBa : xB.a = x.a := by rw [hxB]
    rw [hxAa] at hPC
    obtain ⟨hA2, hhA2⟩ : ∃ hA2, hA2 = hB.put x.a (.cells xA.enc .own) := ⟨_, rfl⟩
    obtain ⟨hC, hhC⟩ : ∃ hC, hC = hA2.put x.a (.cells xB.enc .own) := ⟨_, rfl⟩
    rw [← hhA2] at hPA hPC
    rw [← hhC] at hPC
    have gA2 : hA2.get x.a = some (.cells [.int .i64 x.c, x.b, .int .i64 (lf : Int), .int .i64 x.q, .int .i64 x.s, x.d] .own) := by rw [hhA2, AH.get_put, if_pos rfl, hxA]; rfl
    have gC2 : hC.get x.a = some (.cells [.int .i64 x.c, x.b, .int .i64 (lf : Int), .int .i64 x.q, .int .i64 x.s, .nils] .own) := by rw [hhC, AH.get_put, if_pos rfl, hxB]; rfl
    rw [hxb] at gA2 gC2
    have hap := hPB.ok.ap x hxm
    have hxs : s ≠ x.a := fun e => by
      rcases hA x.a with h1 | h1
      · rw [hoV] at h1; exact h1.1.2.2.2 x hxm rfl
      · rw [hoS] at h1; exact h1.1.1 e.symm
    have gsA2 : hA2.get s = some (.cells [.int .i64 Q.q, .int .i64 Q.r, Q.wv, Q.sv, Q.jv, .int .i64 (lf : Int)] .own) := by rw [hhA2, AH.get_put, if_neg hxs]; exact gsB
    have gsC : hC.get s = some (.cells [.int .i64 Q.q, .int .i64 Q.r, Q.wv, Q.sv, Q.jv, .int .i64 (lf : Int)] .own) := by rw [hhC, AH.get_put, if_neg hxs]; exact gsA2
    have gpC : hC.get p = some (.cells [.int .i64 P.q, .int .i64 P.r, P.wv, P.sv, P.jv, .int .i64 P.lf] .own) := by rw [hhC, AH.get_put, if_neg hap.1, hhA2, AH.get_put, if_neg hap.1]; exact gpB
    have hjx' : ¬ x.j = (lf : Int) := by rw [← hlfe]; exact hjx
    have st1 : aStore T 3 (.ptr x.a 2) (.int .i64 (lf : Int)) hB = some hA2 := by rw [store_1 T3 s3 rfl rfl q4 (by simp), hhA2, hxA, ← hxb]; rfl
    have st2 : aStore T 48 (.ptr x.a 5) .nils hA2 = some hC := by rw [store_1 T48 s48 rfl rfl gA2 (by simp), hhC, hxB, ← hxb]; rfl
    have hss : (P.ss.set i xA).set i xB = P.ss.set i xB := by rw [List.set_set]
    have hPC1 := hPC.1
    have hPC2 := hPA.2.trans hPC.2
    rw [← hoV] at hPC2
    obtain ⟨dat1, hdat1⟩ : ∃ dat1 : Nat → List Int, dat1 = fun a => if a = x.a then [] else dat a := ⟨_, rfl⟩
    have hPC1' : OkD hC p { P with ss := P.ss.set i xB } dat1 js := by rw [hdat1, ← hss]; exact hPC1
    have hPC2' : Stf hB hC offV (({ P with ss := P.ss.set i xB } : Pr).offD js p) := by rw [← hss]; exact hPC2
    have hvx : vs dat1 xB = ({ vs dat x with j := S.lf, d := [] } : Vs) := by
      rw [hdat1]
      simp only [vs, hxBa, if_true]
      rw [hxB, hlfe]
    have hV1 : vp { P with ss := P.ss.set i xB } dat1 js = { V with ss := V.ss.set i { vs dat x with j := S.lf, d := [] } } := by
      rw [hVe]
      show Vp.mk _ _ _ _ ((P.ss.set i xB).map (vs dat1)) _ = Vp.mk _ _ _ _ ((P.ss.map (vs dat)).set i _) _
      rw [map_set_nd hP.ok.nd hx _ (vs dat) (fun t _ ht => by rw [hdat1]; simp only [vs, if_neg ht]), hvx]
      rfl
    obtain ⟨sl, hE, offE, e, z1, ze, z3, k42, v42, s42, hQE, hAE, hQC⟩ := key hC _ _ [] ⟨_, dat1, js, hPC1', hV1.symm, rfl⟩ hPC2' rfl rfl ⟨xB, _, dat1, hPC1', rfl, List.getElem?_set_self j3, hxBa, by rw [hdat1, hxBa]; exact if_pos rfl, by rw [hxB], rfl, rfl⟩ (by simp) (fun y hy => by
      rcases List.mem_or_eq_of_mem_set hy with h | h
      · exact hsq y h
      · subst h; exact ⟨hsqx.1, hsqx.2.1, by simp⟩) (by simp)
    simp only [List.length_nil, Nat.zero_add, List.drop_zero, Nat.sub_zero] at z1 ze k42
    obtain ⟨b, hb⟩ : ∃ b, b = min pq j.bs.length := ⟨_, rfl⟩
    rw [← hb] at z1 ze k42
    have hfw : fwV S V s = (e.1, if e.1 = 0 ∧ b = j.bs.length then S.lf + 1 else S.lf, e.2) := by
      unfold fwV
      rw [if_neg hcond, hfv, j2]
      simp only [hVi, show S.js[S.lf.toNat]? = some (jv j) by rw [show S.lf.toNat = lf by omega]; exact hSj]
      rw [if_neg (show ¬ (vs dat x).j = S.lf from hjx), if_neg (show ¬ (vs dat x).j = S.lf from hjx), show V.q.toNat = pq by omega, ze]
      simp only [List.length_nil, Nat.zero_add, List.drop_zero, Nat.sub_zero]
      rw [show (jv j).2 = j.bs from rfl, ← hb]
      rfl
    rw [hfw]
    have hjl2 : ∀ h, aLen T 48 j.d h = some (.int .i64 (j.bs.length : Nat)) := fun h' => (hQC.jd j hjm).len T48 d48
    have hxd : ∀ h, aLen T 48 .nils h = some (.int .i64 0) := fun h => by simp [aLen, T48, d48]
    have w1 : IntKind.i64.wrap ((0 : Int) + (pq : Int)) = ((pq : Nat) : Int) := by rw [wrap_i64 (by omega) (by omega)]; omega
    have hmn : aMin (.int .i64 ((pq : Nat) : Int)) (.int .i64 (j.bs.length : Nat)) = some (.int .i64 (b : Nat)) := by
      simp only [aMin]; rw [hb]; congr 2; split <;> omega
    obtain ⟨bj, csj, kj, y1, y2, y3, y4⟩ := loadJ hQC.jr hj
    have y5 := (take2 y4).2
    have k43 := fun m => run43 (by assumption) m x.q hC hqx
    have z1' : aSlice T 48 j.d (some (.int .i64 0)) (some (.int .i64 (b : Nat))) none = some sl := z1
    rw [hpq] at gpB gp gpC
    by_cases hend : b = j.bs.length
    · have ce : ((b : Nat) : Int) = (j.bs.length : Int) := by omega
      rw [decide_eq_true hend] at k42
      by_cases he : e.1 = 0
      · rw [if_pos ⟨he, hend⟩]
        obtain ⟨hF, t1, t2, t3, t4, t5⟩ := done1 hE e.2 offE v42 s42 hQE hAE
        refine ⟨hF, offE, ?_, t2, t3, hAE, t4, t5⟩
        have gsE := hP' hE hQE
        rw [he] at k42 ⊢
        rcases z3 with hz | ⟨_, _, _, _, _, _, hz⟩ <;> subst hz
        · rw [call_F (by decide) h18 F18 rfl R18]; simp only [Tryd.f18, Option.getD]
          simp +contextual (maxSteps := 3000000) only [↓code_skip, ↓code_seq, ↓code_region, ↓code_cond, ↓code_block, ↓code_ret, aCond_bool, ↓ops_nil, ↓ops_cons, run_none, run_someT, run_someF, ↓run0_v, ↓run0_h, ↓run0_r, ↓seqK_normal, ↓blkK_normal, ↓retK_ret, put_same, put_ne, put_none, env0_at, ev_tmp, ev_const, ev_func, oc_int, oc_bool, oc_nils, o_move, o_assign, o_pick, o_bin, o_call, o_len, o_load, o_store, o_nilCheck, o_slice, o_fieldAddr, o_indexAddr, o_min, g_none, g_some, pick_bool, bin_add, bin_eql, bin_neq, bin_lss, bin_geq, nil_ptr, resultsOf, oneOrAll, Option.bind_some, Option.map_some, Option.map_none, Option.getD_some, ↓reduceIte, Nat.reduceEqDiff, not_false_eq_true, Nat.reduceAdd, reduceCtorEq, List.getElem?_cons_zero, List.getElem?_cons_succ, List.getElem?_toArray, Bool.false_eq_true, List.map_cons, List.map_nil, List.append_nil, List.nil_append, ge_iff_le, Bool.not_false, ne_eq, fa_ptr T73 p73_1 (by decide), load_p1 T3 a3, loadc_def, load_p1 T23 a23, fa_ptr T73 p73_3 (by decide), load_p1 T71 a71, load_p1 T82 a82, fa_ptr T84 p84_1 (by decide), fa_ptr T84 p84_2 (by decide), fa_ptr T73 p73_5 (by decide), run0_h, fa_ptr T84 p84_5 (by decide), fa_ptr T73 p73_4 (by decide), load_p1 T51 a51, fa_ptr T58 p58_1 (by decide), load_p1 T48 a48, len_nils T48 d48, fa_ptr T73 p73_0 (by decide), fa_ptr T84 p84_3 (by decide), kS, kP, gs, hrQ, pe1, pn1, k37, k38, gpB, gsB, q1, q2, q3, q4, n1, c2, c2', k25, cq, y1, y2, y5, hjl2, w1, hmn, eq_true ce, decide_true, decide_false, k43, k42, gsE, c7, t1, callV_fn (g := 32) (by decide), callV_fn (g := 37) (by decide), callV_fn (g := 38) (by decide), callV_fn (g := 25) (by decide), callV_fn (g := 42) (by decide), callV_fn (g := 43) (by decide), hjx', st1, st2, gC2, gsC, gpC, z1']
        · rw [call_F (by decide) h18 F18 rfl R18]; simp only [Tryd.f18, Option.getD]
          simp +contextual (maxSteps := 3000000) only [↓code_skip, ↓code_seq, ↓code_region, ↓code_cond, ↓code_block, ↓code_ret, aCond_bool, ↓ops_nil, ↓ops_cons, run_none, run_someT, run_someF, ↓run0_v, ↓run0_h, ↓run0_r, ↓seqK_normal, ↓blkK_normal, ↓retK_ret, put_same, put_ne, put_none, env0_at, ev_tmp, ev_const, ev_func, oc_int, oc_bool, oc_nils, o_move, o_assign, o_pick, o_bin, o_call, o_len, o_load, o_store, o_nilCheck, o_slice, o_fieldAddr, o_indexAddr, o_min, g_none, g_some, pick_bool, bin_add, bin_eql, bin_neq, bin_lss, bin_geq, nil_ptr, resultsOf, oneOrAll, Option.bind_some, Option.map_some, Option.map_none, Option.getD_some, ↓reduceIte, Nat.reduceEqDiff, not_false_eq_true, Nat.reduceAdd, reduceCtorEq, List.getElem?_cons_zero, List.getElem?_cons_succ, List.getElem?_toArray, Bool.false_eq_true, List.map_cons, List.map_nil, List.append_nil, List.nil_append, ge_iff_le, Bool.not_false, ne_eq, fa_ptr T73 p73_1 (by decide), load_p1 T3 a3, loadc_def, load_p1 T23 a23, fa_ptr T73 p73_3 (by decide), load_p1 T71 a71, load_p1 T82 a82, fa_ptr T84 p84_1 (by decide), fa_ptr T84 p84_2 (by decide), fa_ptr T73 p73_5 (by decide), run0_h, fa_ptr T84 p84_5 (by decide), fa_ptr T73 p73_4 (by decide), load_p1 T51 a51, fa_ptr T58 p58_1 (by decide), load_p1 T48 a48, len_nils T48 d48, fa_ptr T73 p73_0 (by decide), fa_ptr T84 p84_3 (by decide), kS, kP, gs, hrQ, pe1, pn1, k37, k38, gpB, gsB, q1, q2, q3, q4, n1, c2, c2', k25, cq, y1, y2, y5, hjl2, w1, hmn, eq_true ce, decide_true, decide_false, k43, k42, gsE, c7, t1, callV_fn (g := 32) (by decide), callV_fn (g := 37) (by decide), callV_fn (g := 38) (by decide), callV_fn (g := 25) (by decide), callV_fn (g := 42) (by decide), callV_fn (g := 43) (by decide), hjx', st1, st2, gC2, gsC, gpC, z1']
      · rw [if_neg fun h => he h.1]
        obtain ⟨t2, t3, t4, t5, t6⟩ := done0 hE e.2 offE v42 s42 hQE hAE
        refine ⟨hE, offE, ?_, t2, t3, t4, t5, t6⟩
        rcases z3 with hz | ⟨_, _, _, _, _, _, hz⟩ <;> subst hz
        · rw [call_F (by decide) h18 F18 rfl R18]; simp only [Tryd.f18, Option.getD]
          simp +contextual (maxSteps := 3000000) only [↓code_skip, ↓code_seq, ↓code_region, ↓code_cond, ↓code_block, ↓code_ret, aCond_bool, ↓ops_nil, ↓ops_cons, run_none, run_someT, run_someF, ↓run0_v, ↓run0_h, ↓run0_r, ↓seqK_normal, ↓blkK_normal, ↓retK_ret, put_same, put_ne, put_none, env0_at, ev_tmp, ev_const, ev_func, oc_int, oc_bool, oc_nils, o_move, o_assign, o_pick, o_bin, o_call, o_len, o_load, o_store, o_nilCheck, o_slice, o_fieldAddr, o_indexAddr, o_min, g_none, g_some, pick_bool, bin_add, bin_eql, bin_neq, bin_lss, bin_geq, nil_ptr, resultsOf, oneOrAll, Option.bind_some, Option.map_some, Option.map_none, Option.getD_some, ↓reduceIte, Nat.reduceEqDiff, not_false_eq_true, Nat.reduceAdd, reduceCtorEq, List.getElem?_cons_zero, List.getElem?_cons_succ, List.getElem?_toArray, Bool.false_eq_true, List.map_cons, List.map_nil, List.append_nil, List.nil_append, ge_iff_le, Bool.not_false, ne_eq, fa_ptr T73 p73_1 (by decide), load_p1 T3 a3, loadc_def, load_p1 T23 a23, fa_ptr T73 p73_3 (by decide), load_p1 T71 a71, load_p1 T82 a82, fa_ptr T84 p84_1 (by decide), fa_ptr T84 p84_2 (by decide), fa_ptr T73 p73_5 (by decide), run0_h, fa_ptr T84 p84_5 (by decide), fa_ptr T73 p73_4 (by decide), load_p1 T51 a51, fa_ptr T58 p58_1 (by decide), load_p1 T48 a48, len_nils T48 d48, fa_ptr T73 p73_0 (by decide), fa_ptr T84 p84_3 (by decide), kS, kP, gs, hrQ, pe1, pn1, k37, k38, gpB, gsB, q1, q2, q3, q4, n1, c2, c2', k25, cq, y1, y2, y5, hjl2, w1, hmn, eq_true ce, decide_true, decide_false, k43, k42, callV_fn (g := 32) (by decide), callV_fn (g := 37) (by decide), callV_fn (g := 38) (by decide), callV_fn (g := 25) (by decide), callV_fn (g := 42) (by decide), callV_fn (g := 43) (by decide), hjx', st1, st2, gC2, gsC, gpC, z1', he]
        · rw [call_F (by decide) h18 F18 rfl R18]; simp only [Tryd.f18, Option.getD]
          simp +contextual (maxSteps := 3000000) only [↓code_skip, ↓code_seq, ↓code_region, ↓code_cond, ↓code_block, ↓code_ret, aCond_bool, ↓ops_nil, ↓ops_cons, run_none, run_someT, run_someF, ↓run0_v, ↓run0_h, ↓run0_r, ↓seqK_normal, ↓blkK_normal, ↓retK_ret, put_same, put_ne, put_none, env0_at, ev_tmp, ev_const, ev_func, oc_int, oc_bool, oc_nils, o_move, o_assign, o_pick, o_bin, o_call, o_len, o_load, o_store, o_nilCheck, o_slice, o_fieldAddr, o_indexAddr, o_min, g_none, g_some, pick_bool, bin_add, bin_eql, bin_neq, bin_lss, bin_geq, nil_ptr, resultsOf, oneOrAll, Option.bind_some, Option.map_some, Option.map_none, Option.getD_some, ↓reduceIte, Nat.reduceEqDiff, not_false_eq_true, Nat.reduceAdd, reduceCtorEq, List.getElem?_cons_zero, List.getElem?_cons_succ, List.getElem?_toArray, Bool.false_eq_true, List.map_cons, List.map_nil, List.append_nil, List.nil_append, ge_iff_le, Bool.not_false, ne_eq, fa_ptr T73 p73_1 (by decide), load_p1 T3 a3, loadc_def, load_p1 T23 a23, fa_ptr T73 p73_3 (by decide), load_p1 T71 a71, load_p1 T82 a82, fa_ptr T84 p84_1 (by decide), fa_ptr T84 p84_2 (by decide), fa_ptr T73 p73_5 (by decide), run0_h, fa_ptr T84 p84_5 (by decide), fa_ptr T73 p73_4 (by decide), load_p1 T51 a51, fa_ptr T58 p58_1 (by decide), load_p1 T48 a48, len_nils T48 d48, fa_ptr T73 p73_0 (by decide), fa_ptr T84 p84_3 (by decide), kS, kP, gs, hrQ, pe1, pn1, k37, k38, gpB, gsB, q1, q2, q3, q4, n1, c2, c2', k25, cq, y1, y2, y5, hjl2, w1, hmn, eq_true ce, decide_true, decide_false, k43, k42, callV_fn (g := 32) (by decide), callV_fn (g := 37) (by decide), callV_fn (g := 38) (by decide), callV_fn (g := 25) (by decide), callV_fn (g := 42) (by decide), callV_fn (g := 43) (by decide), hjx', st1, st2, gC2, gsC, gpC, z1', he]
    · have ce : ¬ ((b : Nat) : Int) = (j.bs.length : Int) := by omega
      rw [decide_eq_false hend] at k42
      rw [if_neg fun h => hend h.2]
      obtain ⟨t2, t3, t4, t5, t6⟩ := done0 hE e.2 offE v42 s42 hQE hAE
      refine ⟨hE, offE, ?_, t2, t3, t4, t5, t6⟩
      by_cases he : e.1 = 0
      · rw [he] at k42 ⊢
        rcases z3 with hz | ⟨_, _, _, _, _, _, hz⟩ <;> subst hz
        · rw [call_F (by decide) h18 F18 rfl R18]; simp only [Tryd.f18, Option.getD]
          simp +contextual (maxSteps := 3000000) only [↓code_skip, ↓code_seq, ↓code_region, ↓code_cond, ↓code_block, ↓code_ret, aCond_bool, ↓ops_nil, ↓ops_cons, run_none, run_someT, run_someF, ↓run0_v, ↓run0_h, ↓run0_r, ↓seqK_normal, ↓blkK_normal, ↓retK_ret, put_same, put_ne, put_none, env0_at, ev_tmp, ev_const, ev_func, oc_int, oc_bool, oc_nils, o_move, o_assign, o_pick, o_bin, o_call, o_len, o_load, o_store, o_nilCheck, o_slice, o_fieldAddr, o_indexAddr, o_min, g_none, g_some, pick_bool, bin_add, bin_eql, bin_neq, bin_lss, bin_geq, nil_ptr, resultsOf, oneOrAll, Option.bind_some, Option.map_some, Option.map_none, Option.getD_some, ↓reduceIte, Nat.reduceEqDiff, not_false_eq_true, Nat.reduceAdd, reduceCtorEq, List.getElem?_cons_zero, List.getElem?_cons_succ, List.getElem?_toArray, Bool.false_eq_true, List.map_cons, List.map_nil, List.append_nil, List.nil_append, ge_iff_le, Bool.not_false, ne_eq, fa_ptr T73 p73_1 (by decide), load_p1 T3 a3, loadc_def, load_p1 T23 a23, fa_ptr T73 p73_3 (by decide), load_p1 T71 a71, load_p1 T82 a82, fa_ptr T84 p84_1 (by decide), fa_ptr T84 p84_2 (by decide), fa_ptr T73 p73_5 (by decide), run0_h, fa_ptr T84 p84_5 (by decide), fa_ptr T73 p73_4 (by decide), load_p1 T51 a51, fa_ptr T58 p58_1 (by decide), load_p1 T48 a48, len_nils T48 d48, fa_ptr T73 p73_0 (by decide), fa_ptr T84 p84_3 (by decide), kS, kP, gs, hrQ, pe1, pn1, k37, k38, gpB, gsB, q1, q2, q3, q4, n1, c2, c2', k25, cq, y1, y2, y5, hjl2, w1, hmn, ce, decide_true, decide_false, k43, k42, callV_fn (g := 32) (by decide), callV_fn (g := 37) (by decide), callV_fn (g := 38) (by decide), callV_fn (g := 25) (by decide), callV_fn (g := 42) (by decide), callV_fn (g := 43) (by decide), hjx', st1, st2, gC2, gsC, gpC, z1']
        · rw [call_F (by decide) h18 F18 rfl R18]; simp only [Tryd.f18, Option.getD]
          simp +contextual (maxSteps := 3000000) only [↓code_skip, ↓code_seq, ↓code_region, ↓code_cond, ↓code_block, ↓code_ret, aCond_bool, ↓ops_nil, ↓ops_cons, run_none, run_someT, run_someF, ↓run0_v, ↓run0_h, ↓run0_r, ↓seqK_normal, ↓blkK_normal, ↓retK_ret, put_same, put_ne, put_none, env0_at, ev_tmp, ev_const, ev_func, oc_int, oc_bool, oc_nils, o_move, o_assign, o_pick, o_bin, o_call, o_len, o_load, o_store, o_nilCheck, o_slice, o_fieldAddr, o_indexAddr, o_min, g_none, g_some, pick_bool, bin_add, bin_eql, bin_neq, bin_lss, bin_geq, nil_ptr, resultsOf, oneOrAll, Option.bind_some, Option.map_some, Option.map_none, Option.getD_some, ↓reduceIte, Nat.reduceEqDiff, not_false_eq_true, Nat.reduceAdd, reduceCtorEq, List.getElem?_cons_zero, List.getElem?_cons_succ, List.getElem?_toArray, Bool.false_eq_true, List.map_cons, List.map_nil, List.append_nil, List.nil_append, ge_iff_le, Bool.not_false, ne_eq, fa_ptr T73 p73_1 (by decide), load_p1 T3 a3, loadc_def, load_p1 T23 a23, fa_ptr T73 p73_3 (by decide), load_p1 T71 a71, load_p1 T82 a82, fa_ptr T84 p84_1 (by decide), fa_ptr T84 p84_2 (by decide), fa_ptr T73 p73_5 (by decide), run0_h, fa_ptr T84 p84_5 (by decide), fa_ptr T73 p73_4 (by decide), load_p1 T51 a51, fa_ptr T58 p58_1 (by decide), load_p1 T48 a48, len_nils T48 d48, fa_ptr T73 p73_0 (by decide), fa_ptr T84 p84_3 (by decide), kS, kP, gs, hrQ, pe1, pn1, k37, k38, gpB, gsB, q1, q2, q3, q4, n1, c2, c2', k25, cq, y1, y2, y5, hjl2, w1, hmn, ce, decide_true, decide_false, k43, k42, callV_fn (g := 32) (by decide), callV_fn (g := 37) (by decide), callV_fn (g := 38) (by decide), callV_fn (g := 25) (by decide), callV_fn (g := 42) (by decide), callV_fn (g := 43) (by decide), hjx', st1, st2, gC2, gsC, gpC, z1']
      · rcases z3 with hz | ⟨_, _, _, _, _, _, hz⟩ <;> subst hz
        · rw [call_F (by decide) h18 F18 rfl R18]; simp only [Tryd.f18, Option.getD]
          simp +contextual (maxSteps := 3000000) only [↓code_skip, ↓code_seq, ↓code_region, ↓code_cond, ↓code_block, ↓code_ret, aCond_bool, ↓ops_nil, ↓ops_cons, run_none, run_someT, run_someF, ↓run0_v, ↓run0_h, ↓run0_r, ↓seqK_normal, ↓blkK_normal, ↓retK_ret, put_same, put_ne, put_none, env0_at, ev_tmp, ev_const, ev_func, oc_int, oc_bool, oc_nils, o_move, o_assign, o_pick, o_bin, o_call, o_len, o_load, o_store, o_nilCheck, o_slice, o_fieldAddr, o_indexAddr, o_min, g_none, g_some, pick_bool, bin_add, bin_eql, bin_neq, bin_lss, bin_geq, nil_ptr, resultsOf, oneOrAll, Option.bind_some, Option.map_some, Option.map_none, Option.getD_some, ↓reduceIte, Nat.reduceEqDiff, not_false_eq_true, Nat.reduceAdd, reduceCtorEq, List.getElem?_cons_zero, List.getElem?_cons_succ, List.getElem?_toArray, Bool.false_eq_true, List.map_cons, List.map_nil, List.append_nil, List.nil_append, ge_iff_le, Bool.not_false, ne_eq, fa_ptr T73 p73_1 (by decide), load_p1 T3 a3, loadc_def, load_p1 T23 a23, fa_ptr T73 p73_3 (by decide), load_p1 T71 a71, load_p1 T82 a82, fa_ptr T84 p84_1 (by decide), fa_ptr T84 p84_2 (by decide), fa_ptr T73 p73_5 (by decide), run0_h, fa_ptr T84 p84_5 (by decide), fa_ptr T73 p73_4 (by decide), load_p1 T51 a51, fa_ptr T58 p58_1 (by decide), load_p1 T48 a48, len_nils T48 d48, fa_ptr T73 p73_0 (by decide), fa_ptr T84 p84_3 (by decide), kS, kP, gs, hrQ, pe1, pn1, k37, k38, gpB, gsB, q1, q2, q3, q4, n1, c2, c2', k25, cq, y1, y2, y5, hjl2, w1, hmn, ce, decide_true, decide_false, k43, k42, callV_fn (g := 32) (by decide), callV_fn (g := 37) (by decide), callV_fn (g := 38) (by decide), callV_fn (g := 25) (by decide), callV_fn (g := 42) (by decide), callV_fn (g := 43) (by decide), hjx', st1, st2, gC2, gsC, gpC, z1', he]
        · rw [call_F (by decide) h18 F18 rfl R18]; simp only [Tryd.f18, Option.getD]
          simp +contextual (maxSteps := 3000000) only [↓code_skip, ↓code_seq, ↓code_region, ↓code_cond, ↓code_block, ↓code_ret, aCond_bool, ↓ops_nil, ↓ops_cons, run_none, run_someT, run_someF, ↓run0_v, ↓run0_h, ↓run0_r, ↓seqK_normal, ↓blkK_normal, ↓retK_ret, put_same, put_ne, put_none, env0_at, ev_tmp, ev_const, ev_func, oc_int, oc_bool, oc_nils, o_move, o_assign, o_pick, o_bin, o_call, o_len, o_load, o_store, o_nilCheck, o_slice, o_fieldAddr, o_indexAddr, o_min, g_none, g_some, pick_bool, bin_add, bin_eql, bin_neq, bin_lss, bin_geq, nil_ptr, resultsOf, oneOrAll, Option.bind_some, Option.map_some, Option.map_none, Option.getD_some, ↓reduceIte, Nat.reduceEqDiff, not_false_eq_true, Nat.reduceAdd, reduceCtorEq, List.getElem?_cons_zero, List.getElem?_cons_succ, List.getElem?_toArray, Bool.false_eq_true, List.map_cons, List.map_nil, List.append_nil, List.nil_append, ge_iff_le, Bool.not_false, ne_eq, fa_ptr T73 p73_1 (by decide), load_p1 T3 a3, loadc_def, load_p1 T23 a23, fa_ptr T73 p73_3 (by decide), load_p1 T71 a71, load_p1 T82 a82, fa_ptr T84 p84_1 (by decide), fa_ptr T84 p84_2 (by decide), fa_ptr T73 p73_5 (by decide), run0_h, fa_ptr T84 p84_5 (by decide), fa_ptr T73 p73_4 (by decide), load_p1 T51 a51, fa_ptr T58 p58_1 (by decide), load_p1 T48 a48, len_nils T48 d48, fa_ptr T73 p73_0 (by decide), fa_ptr T84 p84_3 (by decide), kS, kP, gs, hrQ, pe1, pn1, k37, k38, gpB, gsB, q1, q2, q3, q4, n1, c2, c2', k25, cq, y1, y2, y5, hjl2, w1, hmn, ce, decide_true, decide_false, k43, k42, callV_fn (g := 32) (by decide), callV_fn (g := 37) (by decide), callV_fn (g := 38) (by decide), callV_fn (g := 25) (by decide), callV_fn (g := 42) (by decide), callV_fn (g := 43) (by decide), hjx', st1, st2, gC2, gsC, gpC, z1', he]
end Go.AM.X
namespace Go.AM.X
open Go Go.AM Go.Proofs Go.AM.Sx
set_option maxHeartbeats 3200000
set_option maxRecDepth 100000
set_option linter.unusedVariables false
/-- How many rounds are wanted for what is left. -/
def need (q : Nat) (todo : List (List Int)) (cur : Option Nat) : Nat :=
  match cur, todo with
  | none, _ => (todo.map fun b => b.length / q + 2).sum
  | some _, [] => 0
  | some k, b :: r => (b.length - k) / q + 1 + (r.map fun b => b.length / q + 2).sum
/-- What a printer is between two rounds. -/
structure FI (s q : Nat) (done todo : List (List Int)) (cur : Option Nat) (V : Vp) : Prop where
  q : V.q = (q : Int)
  r : V.r = 0
  ws : V.ws = []
  js : V.js = done.map fun b => ((0 : Int), b)
  ss : (V.ss = [] ∧ cur = none) ∨ ∃ x b r, V.ss = [x] ∧ todo = b :: r ∧ cur = some x.d.length ∧ x.c = 0 ∧ x.b = .ptr s 0 ∧ 0 ≤ x.q ∧ x.q ≤ 255 ∧ 0 ≤ x.s ∧ x.s ≤ 1 ∧ (x.j = ((done.length : Nat) : Int) ∨ x.d = []) ∧ x.d = b.take x.d.length ∧ x.d.length ≤ b.length
theorem best_one (w : Wt) : best [w] = 0 := by simp [best, bestAt, wAt]
theorem serve_nil (n : Nat) : serveL n [] = ([], []) := by cases n <;> simp [serveL]
theorem serve_one (n : Nat) (w : Wt) : serveL (n + 1) [w] = ([w], []) := by
  rw [serveL, if_neg (by simp), best_one]
  simp [serve_nil]
theorem tick_none {V : Vp} (h1 : V.ws = []) (h2 : V.ss = []) : tickV V = V := by
  obtain ⟨q, r, lf, ws, ss, js⟩ := V
  simp only at h1 h2
  subst h1; subst h2
  simp [tickV, keptV, serve_nil]
theorem tick_want {V : Vp} {w : Wt} (h1 : V.ws = [w]) (h2 : V.ss = []) (hr : 0 ≤ V.r) : tickV V = { V with ws := [], ss := [newV w] } := by
  obtain ⟨q, r, lf, ws, ss, js⟩ := V
  simp only at h1 h2 hr
  subst h1; subst h2
  obtain ⟨k, hk⟩ : ∃ k, freeV ⟨q, r, lf, [w], [], js⟩ = k + 1 := ⟨freeV ⟨q, r, lf, [w], [], js⟩ - 1, by unfold freeV keptV; simp; omega⟩
  unfold tickV
  rw [hk]
  simp [keptV, serve_one, newV, incW]
theorem tick_serve {V : Vp} {x : Vs} (h1 : V.ws = []) (h2 : V.ss = [x]) (h3 : 0 ≤ x.s ∧ x.s ≤ 20) : tickV V = { V with ss := [{ x with s := x.s + 1 }] } := by
  obtain ⟨q, r, lf, ws, ss, js⟩ := V
  simp only at h1 h2
  subst h1; subst h2
  have hk : keptV ⟨q, r, lf, [], [x], js⟩ = [{ x with s := x.s + 1 }] := by
    unfold keptV
    simp only [List.map_cons, List.map_nil, incV]
    rw [List.filter_cons_of_pos (by unfold keepV; simp; omega)]
    rfl
  unfold tickV
  rw [hk]
  simp [serve_nil]
theorem round {s q : Nat} {S V : Vp} {done todo : List (List Int)} {cur : Option Nat} (hq : 1 ≤ q) (hF : FI s q done todo cur V) (hlf : S.lf = ((done.length : Nat) : Int)) (hjs : S.js.map Prod.snd = done ++ todo) (hl : ∀ b ∈ done ++ todo, b.length ≤ 300) :
    (fwV S V s).1 = 0 ∧ ∃ done' todo' cur', done' ++ todo' = done ++ todo ∧ (fwV S V s).2.1 = ((done'.length : Nat) : Int) ∧ FI s q done' todo' cur' (tickV (fwV S V s).2.2) ∧ (need q todo' cur' + 1 ≤ need q todo cur ∨ (need q todo cur = 0 ∧ need q todo' cur' = 0)) ∧ (fwV S V s).2.2.q = (q : Int) ∧ (fwV S V s).2.2.r = 0 ∧ (∀ w ∈ (fwV S V s).2.2.ws, 0 ≤ w.w ∧ w.w ≤ 1) ∧ (∀ x ∈ (fwV S V s).2.2.ss, 0 ≤ x.s ∧ x.s ≤ 1) := by
  have hlen : S.js.length = done.length + todo.length := by have := congrArg List.length hjs; simpa using this
  have hws := hF.ws
  have hany : ¬ V.ws.any (pW 0) = true := by rw [hws]; simp
  rcases hF.ss with ⟨hss, rfl⟩ | ⟨x, b, r, hss, rfl, rfl, hxc, hxb, hxq1, hxq2, hxs1, hxs2, hxj, hxd, hxl⟩
  · cases todo with
    | nil =>
      have hfw : fwV S V s = (0, S.lf, V) := by unfold fwV; rw [if_pos (.inl (by rw [hlen, hlf]; simp))]
      rw [hfw]
      refine ⟨rfl, done, [], none, rfl, hlf, by rw [tick_none hws hss]; exact hF, .inr ⟨rfl, rfl⟩, hF.q, hF.r, by simp [hws], by simp [hss]⟩
    | cons b r =>
      have hE : wantEV V ⟨0, 0, .ptr s 0⟩ = 0 := by unfold wantEV; rw [hws, hss]; simp
      have hW : wantPV V ⟨0, 0, .ptr s 0⟩ = [⟨0, 0, .ptr s 0⟩] := by unfold wantPV; rw [if_pos hE, hws]; rfl
      have hnq : ¬ (((S.js.length : Nat) : Int) - S.lf = 0 ∨ V.ws.any (pW 0) = true) := by
        rintro (h | h)
        · rw [hlen, hlf] at h; simp only [List.length_cons] at h; omega
        · exact hany h
      have hfw : fwV S V s = (0, S.lf, { V with ws := [⟨0, 0, .ptr s 0⟩] }) := by
        unfold fwV
        rw [if_neg hnq, hE, hW, hss]
        rfl
      rw [hfw]
      have ht : tickV { V with ws := [(⟨0, 0, .ptr s 0⟩ : Wt)] } = { V with ws := [], ss := [newV ⟨0, 0, .ptr s 0⟩] } := tick_want rfl hss (by show 0 ≤ V.r; rw [hF.r]; decide)
      refine ⟨rfl, done, b :: r, some 0, rfl, hlf, ?_, .inl ?_, hF.q, hF.r, by simp, by simp [hss]⟩
      · rw [ht]
        exact { q := hF.q, r := hF.r, ws := rfl, js := hF.js, ss := .inr ⟨newV ⟨0, 0, .ptr s 0⟩, b, r, rfl, rfl, rfl, rfl, rfl, by simp [newV], by simp [newV], by simp [newV], by simp [newV], .inr rfl, by simp [newV], by simp [newV]⟩ }
      · simp [need]; omega
  · have hbl : b.length ≤ 300 := hl b (by simp)
    have hSb : ∃ c, S.js[done.length]? = some (c, b) := by
      have h1 : (S.js.map Prod.snd)[done.length]? = some b := by rw [hjs]; simp
      rw [List.getElem?_map] at h1
      cases h2 : S.js[done.length]? with
      | none => rw [h2] at h1; cases h1
      | some p => rw [h2] at h1; simp at h1; exact ⟨p.1, by rw [← h1]⟩
    obtain ⟨c, hSb⟩ := hSb
    have hd : (if x.j = S.lf then x.d else []) = x.d := by
      rcases hxj with h | h
      · rw [if_pos (by rw [h, hlf])]
      · split
        · rfl
        · exact h.symm
    obtain ⟨V1, hV1⟩ : ∃ V1 : Vp, V1 = if x.j = S.lf then V else { V with ss := V.ss.set 0 { x with j := S.lf, d := [] } } := ⟨_, rfl⟩
    obtain ⟨y, hy⟩ : ∃ y : Vs, y = { x with j := S.lf } := ⟨_, rfl⟩
    have hV1s : V1.ss = [y] ∧ V1.q = V.q ∧ V1.r = V.r ∧ V1.lf = V.lf ∧ V1.ws = V.ws ∧ V1.js = V.js := by
      rw [hV1]
      split
      · next h =>
        refine ⟨?_, rfl, rfl, rfl, rfl, rfl⟩
        rw [hss, hy]
        obtain ⟨xc, xb, xj, xq, xs, xd⟩ := x
        simp only at h
        subst h; rfl
      · next h =>
        refine ⟨?_, rfl, rfl, rfl, rfl, rfl⟩
        have : x.d = [] := by
          rcases hxj with h2 | h2
          · exact absurd (h2.trans hlf.symm) h
          · exact h2
        show V.ss.set 0 _ = _
        rw [hss, hy]
        simp [this]
    obtain ⟨e1, e2, e3, e4, e5, e6⟩ := hV1s
    obtain ⟨B, hB⟩ : ∃ B, B = min (x.d.length + q) b.length := ⟨_, rfl⟩
    obtain ⟨pc, hpc⟩ : ∃ pc, pc = (b.drop x.d.length).take (B - x.d.length) := ⟨_, rfl⟩
    have hpl : pc.length = B - x.d.length := by rw [hpc, List.length_take, List.length_drop]; omega
    have hcat : x.d ++ pc = b.take B := by
      rw [hpc]
      conv => lhs; lhs; rw [hxd]
      have hBle : x.d.length ≤ B := by omega
      have : b.take B = b.take (x.d.length + (B - x.d.length)) := by congr 1; omega
      rw [this, List.take_add]
    have hsend : sendV V1 0 (x.q % 255 + 1) pc (decide (B = b.length)) = if B = b.length then (0, { V1 with ss := [], js := V1.js ++ [((0 : Int), b)] }) else (0, { V1 with ss := [{ y with q := x.q % 255 + 1, s := 0, d := b.take B }] }) := by
      unfold sendV
      rw [e1]
      simp only [List.getElem?_cons_zero]
      have hyq : y.q = x.q := by rw [hy]
      have hyd : y.d = x.d := by rw [hy]
      have hyc : y.c = 0 := by rw [hy]; exact hxc
      rw [hyq, hyd, hyc, if_neg (by omega), if_neg (by simp), if_neg (by omega), hcat]
      by_cases hBe : B = b.length
      · rw [if_pos (by simp [hBe]), if_pos hBe, hBe, List.take_length]; rfl
      · rw [if_neg (by simp [hBe]), if_neg hBe]; rfl
    have hnq : ¬ (((S.js.length : Nat) : Int) - S.lf = 0 ∨ V.ws.any (pW 0) = true) := by
      rintro (h | h)
      · rw [hlen, hlf] at h; simp only [List.length_cons] at h; omega
      · exact hany h
    have hfw : fwV S V s = ((sendV V1 0 (x.q % 255 + 1) pc (decide (B = b.length))).1, if (sendV V1 0 (x.q % 255 + 1) pc (decide (B = b.length))).1 = 0 ∧ B = b.length then S.lf + 1 else S.lf, (sendV V1 0 (x.q % 255 + 1) pc (decide (B = b.length))).2) := by
      unfold fwV
      rw [if_neg hnq, hss]
      have hf : [x].findIdx? (fun s => decide (s.c = 0)) = some 0 := by simp [List.findIdx?_cons, hxc]
      rw [hf]
      simp only [List.getElem?_cons_zero, show S.js[S.lf.toNat]? = some (c, b) by rw [hlf]; exact hSb]
      rw [hd, show V.q.toNat = q by rw [hF.q]; rfl, ← hss, ← hV1, ← hB, ← hpc]
    rw [hfw, hsend]
    by_cases hBe : B = b.length
    · rw [if_pos hBe]
      have hne : (if (0 : Int) = 0 ∧ B = b.length then S.lf + 1 else S.lf) = S.lf + 1 := if_pos ⟨rfl, hBe⟩
      rw [hne]
      refine ⟨rfl, done ++ [b], r, none, by simp, by rw [hlf]; simp, ?_, .inl ?_, by show V1.q = _; rw [e2]; exact hF.q, by show V1.r = _; rw [e3]; exact hF.r, by show ∀ w ∈ V1.ws, _; rw [e5, hws]; simp, by simp⟩
      · have ht := tick_none (V := { V1 with ss := [], js := V1.js ++ [((0 : Int), b)] }) (show V1.ws = [] by rw [e5]; exact hws) rfl
        show FI s q (done ++ [b]) r none (tickV { V1 with ss := [], js := V1.js ++ [((0 : Int), b)] })
        rw [ht]
        exact { q := by show V1.q = _; rw [e2]; exact hF.q, r := by show V1.r = _; rw [e3]; exact hF.r, ws := by show V1.ws = _; rw [e5]; exact hws, js := by show V1.js ++ _ = _; rw [e6, hF.js]; simp, ss := .inl ⟨rfl, rfl⟩ }
      · simp only [need]
        generalize (b.length - x.d.length) / q = z
        omega
    · rw [if_neg hBe]
      have hne : (if (0 : Int) = 0 ∧ B = b.length then S.lf + 1 else S.lf) = S.lf := if_neg fun h => hBe h.2
      rw [hne]
      have hB2 : B = x.d.length + q := by omega
      have hBl : (b.take B).length = B := by rw [List.length_take]; omega
      refine ⟨rfl, done, b :: r, some B, rfl, hlf, ?_, .inl ?_, by show V1.q = _; rw [e2]; exact hF.q, by show V1.r = _; rw [e3]; exact hF.r, by show ∀ w ∈ V1.ws, _; rw [e5, hws]; simp, by simp⟩
      · have ht := tick_serve (V := { V1 with ss := [{ y with q := x.q % 255 + 1, s := 0, d := b.take B }] }) (x := { y with q := x.q % 255 + 1, s := 0, d := b.take B }) (show V1.ws = [] by rw [e5]; exact hws) rfl (by simp)
        show FI s q done (b :: r) (some B) (tickV { V1 with ss := [{ y with q := x.q % 255 + 1, s := 0, d := b.take B }] })
        rw [ht]
        refine { q := by show V1.q = _; rw [e2]; exact hF.q, r := by show V1.r = _; rw [e3]; exact hF.r, ws := by show V1.ws = _; rw [e5]; exact hws, js := by show V1.js = _; rw [e6]; exact hF.js, ss := .inr ⟨_, b, r, rfl, rfl, by simp only; rw [hBl], ?_, ?_, ?_, ?_, by simp, by simp, .inl ?_, ?_, ?_⟩ }
        · show y.c = 0; rw [hy]; exact hxc
        · show y.b = _; rw [hy]; exact hxb
        · show 0 ≤ x.q % 255 + 1; omega
        · show x.q % 255 + 1 ≤ 255; omega
        · show y.j = _; rw [hy]; exact hlf
        · show b.take B = b.take (b.take B).length; rw [hBl]
        · show (b.take B).length ≤ _; omega
      · simp only [need]
        have h1 : (b.length - x.d.length) / q = (b.length - B) / q + 1 := by
          have : b.length - x.d.length = (b.length - B) + q := by omega
          rw [this, Nat.add_div_right _ hq]
        rw [h1]
        generalize (b.length - B) / q = z
        omega
end Go.AM.X
namespace Go.AM.X
open Go Go.AM Go.Proofs Go.AM.Sx
set_option maxHeartbeats 3200000
set_option maxRecDepth 100000
set_option linter.unusedVariables false
noncomputable def tt9 : TI := (T 9).getD ⟨.bool, 0, 0, [], false, [], [], none⟩
theorem T9 : T 9 = some tt9 := by kernel_rfl
theorem d9 : tt9.desc = .string := by kernel_rfl
theorem s9 : tt9.size = 1 := by kernel_rfl
theorem b9 : tt9.bytes = 16 := by kernel_rfl
theorem a9 : tt9.agg = false := by kernel_rfl
noncomputable def tt64 : TI := (T 64).getD ⟨.bool, 0, 0, [], false, [], [], none⟩
theorem T64 : T 64 = some tt64 := by kernel_rfl
theorem d64 : tt64.desc = .slice 9 := by kernel_rfl
theorem F20 : F 20 = some { body := (Tryd.f20.body.getD .skip), results := Tryd.f20.results.toList, rf := false } := by kernel_rfl
theorem R20 : regsOk T (Tryd.f20.body.getD .skip) = true := by kernel_rfl
theorem okV0 (h : AH) (q r : Int) : ∃ off, OkV (h.alloc (prt q r)) h.next ⟨q, r, 0, [], [], []⟩ off ∧ ∀ c, c < h.next → off c := by
  obtain ⟨P, hP⟩ : ∃ P : Pr, P = ⟨q, r, 0, .nils, .nils, .nils, [], []⟩ := ⟨_, rfl⟩
  subst hP
  have hO : OkP (h.alloc (prt q r)) h.next ⟨q, r, 0, .nils, .nils, .nils, [], []⟩ := by
    exact { lt := by simp
            g := by rw [AH.get_alloc, if_pos rfl]; rfl
            w := RowC.nil _ _
            s := RowC.nil _ _
            b := fun x hx => by cases hx
            wp := fun _ _ _ _ _ _ e => by cases e
            sp := fun _ _ _ _ _ _ e => by cases e
            wsv := fun _ _ _ _ _ _ e => by cases e
            ap := fun x hx => by cases hx
            nd := List.nodup_nil
            wb := fun x hx => by cases hx
            jc := ⟨rfl, rfl⟩
            wl := Nat.zero_le _
            sl := Nat.zero_le _ }
  have hD : OkD (h.alloc (prt q r)) h.next ⟨q, r, 0, .nils, .nils, .nils, [], []⟩ (fun _ => []) [] := by
    refine { ok := hO, dd := ?_, dx := ?_, dn := ?_, jr := ?_, jx := ?_, jd := ?_, jf := ?_ }
    · intro s hs; cases hs
    · intro s hs; cases hs
    · intro s hs; cases hs
    · exact RowC.nil _ _
    · intro b o l k z x e; cases e
    · intro j hj; cases hj
    · intro j hj; cases hj
  refine ⟨_, ⟨_, _, _, hD, rfl, rfl⟩, fun c hc => ?_⟩
  exact ⟨⟨(by omega), (fun _ _ _ _ _ _ e => by cases e), (fun _ _ _ _ _ _ e => by cases e), (fun s hs => by cases hs)⟩, (fun _ _ _ _ _ _ e => by cases e), (fun s hs => by cases hs), (fun s hs => by cases hs)⟩
theorem RowC.other {sz n : Nat} {h h2 : AH} {v : AV} {cs : List AV} {o o2 : Nat → Prop} (hr : RowC sz h v n cs) (hA : Apt o (offRow v)) (hS : Stf h h2 o o2) : RowC sz h2 v n cs ∧ Apt o2 (offRow v) :=
  ⟨hr.keep hS.1 fun b _ _ _ _ _ e => (hS.2 b (hr.lt e) ((hA b).resolve_right fun h => h _ _ _ _ _ _ e rfl)).1, hA.step hS fun c hc b _ _ _ _ _ e => by have := hr.lt e; omega⟩
/-- Two printers and a row, none of which has a block with another one. -/
structure Tri (h : AH) (S V : Vp) (offS offV : Nat → Prop) (w : AV) (n : Nat) (cs : List AV) : Prop where
  fs : OkV h 1 S offS
  fv : OkV h 0 V offV
  fr : RowC 1 h w n cs
  a : Apt offV offS
  ws : Apt offS (offRow w)
  wv : Apt offV (offRow w)
theorem Tri.stepS {h h2 : AH} {S V S2 : Vp} {offS offV offS2 : Nat → Prop} {w : AV} {n : Nat} {cs : List AV} (t : Tri h S V offS offV w n cs) (hs : OkV h2 1 S2 offS2) (st : Stf h h2 offS offS2) : Tri h2 S2 V offS2 offV w n cs := by
  obtain ⟨v1, v2⟩ := t.fv.other t.a.symm st
  obtain ⟨w1, w2⟩ := RowC.other t.fr t.ws st
  exact ⟨hs, v1, w1, v2.symm, w2, t.wv⟩
theorem Tri.stepV {h h2 : AH} {S V V2 : Vp} {offS offV offV2 : Nat → Prop} {w : AV} {n : Nat} {cs : List AV} (t : Tri h S V offS offV w n cs) (hv : OkV h2 0 V2 offV2) (st : Stf h h2 offV offV2) : Tri h2 S V2 offS offV2 w n cs := by
  obtain ⟨v1, v2⟩ := t.fs.other t.a st
  obtain ⟨w1, w2⟩ := RowC.other t.fr t.wv st
  exact ⟨v1, hv, w1, v2, t.ws, w2⟩
theorem Tri.grow {h h2 : AH} {S V : Vp} {offS offV : Nat → Prop} {w : AV} {n : Nat} {cs : List AV} (t : Tri h S V offS offV w n cs) (hg : Grow h h2) : Tri h2 S V offS offV w n cs :=
  ⟨t.fs.grow hg, t.fv.grow hg, t.fr.grow hg, t.a, t.ws, t.wv⟩
theorem Tri.push {h : AH} {S V : Vp} {offS offV : Nat → Prop} {w : AV} {n : Nat} {cs : List AV} (t : Tri h S V offS offV w n cs) (s : List UInt8) (hn : n ≤ 1000) :
    ∃ w' h2, aAppend T 64 64 w (.sl h.next 0 1 1 1 true) (h.alloc (.cells [.str s] .own)) = some (w', h2) ∧ Tri h2 S V offS offV w' (n + 1) (cs ++ [.str s]) := by
  obtain ⟨w', h2, q1, q2, q3, q4, q5⟩ := t.fr.push (new := [.str s]) T64 d64 T9 s9 (by decide) (by rw [b9]; decide) rfl rfl (by rw [b9]; simp [maxBytes]; omega)
  have st : Stf h h2 (offRow w) (offRow w') := ⟨by omega, fun c hc ho => ⟨q4 c hc ho, off_new (h := h) q5 hc ho⟩⟩
  obtain ⟨s1, s2⟩ := t.fs.other t.ws.symm st
  obtain ⟨v1, v2⟩ := t.fv.other t.wv.symm st
  exact ⟨w', h2, q1, s1, v1, q2, t.a, s2.symm, v2.symm⟩
def txt (b : List Int) : List UInt8 := b.map fun n => UInt8.ofNat n.toNat
theorem bytesOf_bytes : ∀ b : List Int, bytesOf (bytes b) = some (txt b)
  | [] => rfl
  | n :: b => by
    have ih := bytesOf_bytes b
    unfold bytes at ih ⊢
    rw [List.map_cons, bytesOf, ih]; rfl
end Go.AM.X
namespace Go.AM.X
open Go Go.AM Go.Proofs Go.AM.Sx
set_option maxHeartbeats 3200000
set_option maxRecDepth 100000
set_option linter.unusedVariables false
theorem dat_str {h : AH} {v : AV} {bs : List Int} (hd : Dat h v bs) : aConv T 48 9 v h = some (.str (txt bs), h) := by
  rcases hd with ⟨rfl, h0, _⟩ | ⟨b, cap, ex, rest, rfl, h1, h2, h3, h4⟩
  · rw [conv_nils T48 T9 d9 d48 T5 d5 s5, List.length_eq_zero_iff.1 h0]; rfl
  · have hl : h.loadn b 0 bs.length = some (bytes bs) := by
      simp only [AH.loadn, h4]
      rw [if_pos (by rw [List.length_append, List.length_map]; omega), List.drop_zero, List.take_append_of_le_length (by simp), List.take_of_length_le (by simp)]
      rfl
    simp [aConv, T48, T9, d9, d48, isU8, T5, d5, s5, hl, bytesOf_bytes]
theorem pc_lst {off : Nat → Prop} {h : AH} (b : List Int) : Pc off h (.lst false 1 b.length (bytes b)) b :=
  ⟨fun h => by simp [aLen, T48, d48], fun h2 _ _ => by simp [aSource]⟩
theorem FI.add {s q : Nat} {done todo : List (List Int)} {cur : Option Nat} {V : Vp} (hF : FI s q done todo cur V) (b : List Int) : FI s q done (todo ++ [b]) cur V ∧ need q (todo ++ [b]) cur = need q todo cur + (b.length / q + 2) := by
  rcases hF.ss with ⟨h1, h2⟩ | ⟨x, b0, r, h1, h2, h3, h4⟩
  · refine ⟨{ q := hF.q, r := hF.r, ws := hF.ws, js := hF.js, ss := .inl ⟨h1, h2⟩ }, ?_⟩
    subst h2
    simp [need]
  · refine ⟨{ q := hF.q, r := hF.r, ws := hF.ws, js := hF.js, ss := .inr ⟨x, b0, r ++ [b], h1, by rw [h2]; rfl, h3, h4⟩ }, ?_⟩
    subst h2; subst h3
    simp [need]
    try omega
theorem FI.zero {s q : Nat} {done todo : List (List Int)} {cur : Option Nat} {V : Vp} (hF : FI s q done todo cur V) (h0 : need q todo cur = 0) : todo = [] := by
  rcases hF.ss with ⟨h1, h2⟩ | ⟨x, b0, r, h1, h2, h3, h4⟩
  · subst h2
    cases todo with
    | nil => rfl
    | cons b r => simp [need] at h0
  · subst h2; subst h3
    simp [need] at h0
end Go.AM.X
